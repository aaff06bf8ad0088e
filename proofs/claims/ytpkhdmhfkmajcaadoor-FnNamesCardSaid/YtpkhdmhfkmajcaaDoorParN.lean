/- Reading numbers: the plain side. -/
import Derived.Test.YtpkhdmhfkmajcaaDoorParL
namespace Go.Proofs.YtpkhdmhfkmajcaaDoor
open Go.RowKit
set_option linter.unusedVariables false

def isDig (c : UInt8) : Prop := 48 ≤ c.toNat ∧ c.toNat ≤ 57
theorem dig_iff (c : UInt8) : (c < 48 ∨ c > 57) ↔ ¬ isDig c := by
  unfold isDig
  simp only [UInt8.lt_iff_toNat_lt, gt_iff_lt, show (48 : UInt8).toNat = 48 from rfl, show (57 : UInt8).toNat = 57 from rfl]
  omega
theorem dig_of {k : Nat} (h : k < 10) : (UInt8.ofNat (48 + k)).toNat = 48 + k := UInt8.toNat_ofNat_of_lt' (show 48 + k < 256 by omega)
theorem dec_digs (n : Nat) : ∀ c ∈ Lib.decDigits n, isDig c := by
  induction n using Nat.strongRecOn with
  | ind n ih =>
    intro c hc
    by_cases h : n < 10
    · rw [Lib.decDigits_one h, List.mem_singleton] at hc
      subst hc
      rw [isDig, dig_of h]; omega
    · rw [Lib.decDigits, dif_neg h, List.mem_append, List.mem_singleton] at hc
      rcases hc with hc | rfl
      · exact ih (n / 10) (by omega) c hc
      · rw [isDig, dig_of (by omega)]; omega
theorem dec_ne (n : Nat) : Lib.decDigits n ≠ [] := by
  rw [Lib.decDigits]; split <;> simp
theorem dec_head (n : Nat) (h : 1 ≤ n) : (Lib.decDigits n).head? ≠ some 48 := by
  induction n using Nat.strongRecOn with
  | ind n ih =>
    by_cases h1 : n < 10
    · rw [Lib.decDigits_one h1]
      intro e
      have e1 := congrArg UInt8.toNat (Option.some.inj e)
      rw [dig_of h1, show (48 : UInt8).toNat = 48 from rfl] at e1
      omega
    · rw [Lib.decDigits, dif_neg h1, List.head?_append]
      have := ih (n / 10) (by omega) (by omega)
      cases hd : (Lib.decDigits (n / 10)) with
      | nil => exact absurd hd (dec_ne _)
      | cons a l => rw [hd] at this; simpa using this
theorem digs_neg : ∀ (l : List UInt8) (n : Int), (∃ c ∈ l, ¬ isDig c) → digs n l = -1
  | [], n, ⟨c, hc, _⟩ => by cases hc
  | d :: r, n, ⟨c, hc, hd⟩ => by
    rw [digs]
    split
    · rfl
    · rename_i h
      rw [dig_iff, Classical.not_not] at h
      rcases List.mem_cons.1 hc with rfl | hc
      · exact absurd h hd
      · exact digs_neg r _ ⟨c, hc, hd⟩
theorem digs_append : ∀ (l : List UInt8) (n : Int) (r : List UInt8), (∀ c ∈ l, isDig c) → digs n (l ++ r) = digs (digs n l) r
  | [], n, r, _ => rfl
  | d :: l, n, r, h => by
    have hd := h d (List.mem_cons_self ..)
    rw [List.cons_append, digs, digs, if_neg (by rw [dig_iff]; exact fun k => k hd), if_neg (by rw [dig_iff]; exact fun k => k hd)]
    exact digs_append l _ r (fun c hc => h c (List.mem_cons_of_mem _ hc))
theorem digs_one (n : Int) {c : UInt8} (h : isDig c) : digs n [c] = 10 * n + ((c.toNat : Int) - 48) := by
  rw [digs, if_neg (by rw [dig_iff]; exact fun k => k h)]; rfl
theorem digs_dec (n : Nat) : digs 0 (Lib.decDigits n) = n := by
  induction n using Nat.strongRecOn with
  | ind n ih =>
    by_cases h : n < 10
    · rw [Lib.decDigits_one h, digs_one _ (by rw [isDig, dig_of h]; omega), dig_of h]; omega
    · rw [Lib.decDigits, dif_neg h, digs_append _ _ _ (dec_digs _), ih (n / 10) (by omega), digs_one _ (by rw [isDig, dig_of (by omega)]; omega), dig_of (by omega)]
      omega
/-- Digits that spell a number, without a 0 ahead of others, are its numeral. -/
theorem dec_digs_inv : ∀ (k : Nat) (l : List UInt8), l.length = k → l ≠ [] → (∀ c ∈ l, isDig c) → (l.head? = some 48 → l.length = 1) → ∃ n : Nat, digs 0 l = n ∧ l = Lib.decDigits n
  | 0, l, hk, hne, _, _ => absurd (List.length_eq_zero_iff.1 hk) hne
  | k + 1, l, hk, hne, hd, hz => by
    obtain ⟨p, c, rfl⟩ : ∃ p c, l = p ++ [c] := ⟨l.dropLast, l.getLast hne, (List.dropLast_concat_getLast hne).symm⟩
    have hc := hd c (by simp)
    have hp : ∀ x ∈ p, isDig x := fun x hx => hd x (by simp [hx])
    have hlen : p.length = k := by simpa using hk
    have hct : UInt8.ofNat (48 + (c.toNat - 48)) = c := by
      rw [show 48 + (c.toNat - 48) = c.toNat by have := hc.1; omega]; simp
    rcases hp0 : p with _ | ⟨a, q⟩
    · refine ⟨c.toNat - 48, ?_, ?_⟩
      · rw [List.nil_append, digs_one _ hc]; have := hc.1; omega
      · rw [Lib.decDigits_one (by have := hc.2; omega), hct]; rfl
    · have hpne : p ≠ [] := by rw [hp0]; simp
      obtain ⟨n, e1, e2⟩ := dec_digs_inv k p hlen hpne hp (fun h0 => by
        have := hz (by rw [List.head?_append, h0]; rfl)
        rw [List.length_append, hp0] at this
        simp at this)
      have hn : 1 ≤ n := by
        rcases Nat.eq_zero_or_pos n with h0 | h0
        · exfalso
          rw [h0, Lib.decDigits_one (by omega)] at e2
          have := hz (by rw [e2]; rfl)
          rw [List.length_append, hp0] at this
          simp at this
        · exact h0
      rw [← hp0]
      refine ⟨10 * n + (c.toNat - 48), ?_, ?_⟩
      · rw [digs_append _ _ _ hp, e1, digs_one _ hc]; have := hc.1; omega
      · have h1 : (10 * n + (c.toNat - 48)) / 10 = n := by have := hc.2; omega
        have h2 : (10 * n + (c.toNat - 48)) % 10 = c.toNat - 48 := by have := hc.2; omega
        rw [Lib.decDigits, dif_neg (by omega), h1, h2, hct, ← e2]
theorem readS_txt (n : Nat) (h : n < 1000000) : readS (txt n) = n := by
  have hs : (txt n).size = Lib.nDigits n := by rw [← Lib.decDigits_length]; rfl
  have h6 : Lib.nDigits n ≤ 6 := by
    rcases Nat.lt_or_ge 6 (Lib.nDigits n) with h1 | h1
    · exfalso
      have aux : ∀ (k m : Nat), k + 1 ≤ Lib.nDigits m → 10 ^ k ≤ m ∨ k = 0 := by
        intro k
        induction k with
        | zero => intro m _; exact .inr rfl
        | succ k ih =>
          intro m hm
          left
          by_cases hm10 : m < 10
          · rw [Lib.nDigits_small hm10] at hm; omega
          · rw [Lib.nDigits_big hm10] at hm
            rcases ih (m / 10) (by omega) with h2 | h2
            · rw [Nat.pow_succ]; omega
            · subst h2; omega
      rcases aux 6 n h1 with h2 | h2 <;> omega
    · exact h1
  have h1 := Lib.nDigits_pos n
  have hd : (txt n).data.toList = Lib.decDigits n := rfl
  rw [readS, if_neg, hd, digs_dec]
  rw [hs]
  rintro (h2 | h2 | ⟨h2, h3⟩)
  · omega
  · omega
  · rw [← Array.getElem?_toList, hd, ← List.head?_eq_getElem?] at h2
    rcases Nat.eq_zero_or_pos n with h0 | h0
    · rw [h0, Lib.nDigits_small (by omega)] at h3; omega
    · exact dec_head n h0 h2
theorem readS_inv (s : ByteArray) (h : 0 ≤ readS s) : ∃ n : Nat, readS s = n ∧ s = txt n := by
  unfold readS at h ⊢
  split at h
  · omega
  · rename_i hc
    rw [if_neg hc]
    have hall : ∀ c ∈ s.data.toList, isDig c := by
      intro c hc2
      refine Classical.byContradiction fun hn => ?_
      rw [digs_neg _ _ ⟨c, hc2, hn⟩] at h
      omega
    have hne : s.data.toList ≠ [] := by
      intro e
      have : s.size = 0 := by rw [ByteArray.size, ← Array.length_toList, e]; rfl
      omega
    obtain ⟨n, e1, e2⟩ := dec_digs_inv _ s.data.toList rfl hne hall (fun h0 => by
      rw [List.head?_eq_getElem?, Array.getElem?_toList] at h0
      have : ¬ 1 < s.size := fun h1 => hc (.inr (.inr ⟨h0, h1⟩))
      have h2 : s.data.toList.length = s.size := rfl
      have h3 : s.data.toList.length ≠ 0 := fun e => hne (List.length_eq_zero_iff.1 e)
      omega)
    refine ⟨n, e1, ?_⟩
    apply ByteArray.ext
    apply Array.ext'
    rw [e2]; rfl

/-- What the program's readNumber hands back. -/
def rnV (s : ByteArray) : Int := match Lib.atoiAll s.data.toList with
  | .ok v => v
  | .range => Lib.atoiSat s.data.toList
  | _ => 0
def rnOk (s : ByteArray) : Bool := match Lib.atoiAll s.data.toList with
  | .ok v => decide (Lib.itoa v = s.data.toList)
  | _ => false
theorem rn_ok {s : ByteArray} (h : rnOk s = true) : s.data.toList = Lib.itoa (rnV s) := by
  unfold rnOk at h
  unfold rnV
  split at h <;> rename_i e
  · rw [e]; exact (of_decide_eq_true h).symm
  · cases h
theorem rn_txt_of {s : ByteArray} {n : Nat} (h : rnOk s = true) (hv : rnV s = n) : s = txt n := by
  apply ByteArray.ext
  apply Array.ext'
  rw [rn_ok h, hv, Lib.itoa_nonneg]; rfl
theorem parse_append : ∀ (l : List UInt8) (a u : Nat) (r : List UInt8), Lib.parseUint10 a l = .ok u → Lib.parseUint10 a (l ++ r) = Lib.parseUint10 u r
  | [], a, u, r, h => by simp only [Lib.parseUint10] at h; injection h with h; subst h; rfl
  | c :: l, a, u, r, h => by
    rw [List.cons_append]
    simp only [Lib.parseUint10] at h ⊢
    split at h
    · rename_i h1
      rw [if_pos h1]
      split at h
      · cases h
      · rename_i h2
        rw [if_neg h2]
        split at h
        · cases h
        · rename_i h3
          rw [if_neg h3]
          exact parse_append l _ u r h
    · cases h
theorem parse_one (a : Nat) {c : UInt8} (h : isDig c) (ha : a * 10 + (c.toNat - 48) < 18446744073709551616) : Lib.parseUint10 a [c] = .ok (a * 10 + (c.toNat - 48)) := by
  have := h.2
  simp only [Lib.parseUint10]
  rw [if_pos (show 48 ≤ c.toNat ∧ c.toNat ≤ 57 from h), if_neg (by omega), if_neg (by omega)]
theorem parse_dec (n : Nat) (h : n < 18446744073709551616) : Lib.parseUint10 0 (Lib.decDigits n) = .ok n := by
  induction n using Nat.strongRecOn with
  | ind n ih =>
    by_cases h1 : n < 10
    · rw [Lib.decDigits_one h1, parse_one 0 (by rw [isDig, dig_of h1]; omega) (by rw [dig_of h1]; omega), dig_of h1]
      congr 1; omega
    · rw [Lib.decDigits, dif_neg h1, parse_append _ _ _ _ (ih (n / 10) (by omega) (by omega)), parse_one _ (by rw [isDig, dig_of (by omega)]; omega) (by rw [dig_of (by omega)]; omega), dig_of (by omega)]
      congr 1; omega
theorem atoi_dec (n : Nat) (h : n < 9223372036854775808) : Lib.atoiAll (Lib.decDigits n) = .ok (n : Int) := by
  rcases hd : Lib.decDigits n with _ | ⟨c, r⟩
  · exact absurd hd (dec_ne n)
  · have hc := dec_digs n c (by rw [hd]; exact List.mem_cons_self ..)
    have h1 := hc.1
    unfold Lib.atoiAll
    dsimp only
    rw [if_neg (show ¬ (c.toNat = 43 ∨ c.toNat = 45) by omega), ← hd, Lib.parseMag, if_neg (dec_ne n), parse_dec n (by omega)]
    dsimp only
    rw [if_neg (by omega), if_neg (by omega), if_neg (by omega)]
theorem rnV_txt (n : Nat) (h : n < 9223372036854775808) : rnV (txt n) = n := by
  rw [rnV, show (txt n).data.toList = Lib.decDigits n from rfl, atoi_dec n h]
theorem rnOk_txt (n : Nat) (h : n < 9223372036854775808) : rnOk (txt n) = true := by
  rw [rnOk, show (txt n).data.toList = Lib.decDigits n from rfl, atoi_dec n h]
  simp [Lib.itoa_nonneg]
end Go.Proofs.YtpkhdmhfkmajcaaDoor

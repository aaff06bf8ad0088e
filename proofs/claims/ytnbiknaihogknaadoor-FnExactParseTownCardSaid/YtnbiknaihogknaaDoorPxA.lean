/- Several texts in one. Reading texts: the plain side: cuts at a byte, numbers. Reading numbers: the plain side. Cuts and fields of texts: the plain side. Reading texts: the plain side: what all parsers share. -/
import Derived.Test.YtnbiknaihogknaaDoorNumT
import Derived.Lib.SplitLaws
import Derived.Lib.FieldsLaws
import Derived.Lib.AtoiAll
import Derived.Lib.CutLaws
namespace Go.Proofs.YtnbiknaihogknaaDoor
open Go.RowKit
set_option linter.unusedVariables false

/-- A text's pieces between the places of a byte. -/
def splitL (b : UInt8) : List UInt8 → List (List UInt8)
  | [] => [[]]
  | c :: r => if c = b then [] :: splitL b r else (c :: (splitL b r).headD []) :: (splitL b r).tail
theorem splitL_ne (b : UInt8) : ∀ l, splitL b l ≠ []
  | [] => by simp [splitL]
  | c :: r => by rw [splitL]; split <;> simp
theorem splitL_form (b : UInt8) (l : List UInt8) : splitL b l = (splitL b l).headD [] :: (splitL b l).tail := by
  cases h : splitL b l with
  | nil => exact absurd h (splitL_ne b l)
  | cons x y => rfl
theorem splitL_none {b : UInt8} : ∀ {l : List UInt8}, (∀ x ∈ l, x ≠ b) → splitL b l = [l]
  | [], _ => rfl
  | c :: r, h => by
    rw [splitL, if_neg (h c (List.mem_cons_self ..)), splitL_none (l := r) (fun x hx => h x (List.mem_cons_of_mem _ hx))]
    rfl
theorem splitL_cut {b : UInt8} (r : List UInt8) : ∀ {p : List UInt8}, (∀ x ∈ p, x ≠ b) → splitL b (p ++ b :: r) = p :: splitL b r
  | [], _ => by simp [splitL]
  | c :: p, h => by
    rw [List.cons_append, splitL, if_neg (h c (List.mem_cons_self ..)), splitL_cut r (p := p) (fun x hx => h x (List.mem_cons_of_mem _ hx))]
    rfl
/-- Pieces that end with the byte, each. -/
theorem splitL_ends {b : UInt8} : ∀ {ps : List (List UInt8)}, (∀ p ∈ ps, ∀ x ∈ p, x ≠ b) → splitL b (ps.flatMap (· ++ [b])) = ps ++ [[]]
  | [], _ => rfl
  | p :: ps, h => by
    rw [List.flatMap_cons, List.append_assoc, List.singleton_append, splitL_cut _ (h p (List.mem_cons_self ..)), splitL_ends (ps := ps) (fun q hq => h q (List.mem_cons_of_mem _ hq))]
    rfl
/-- Pieces that begin with the byte, each, behind a first one. -/
theorem splitL_begins {b : UInt8} : ∀ {ps : List (List UInt8)} {p : List UInt8}, (∀ x ∈ p, x ≠ b) → (∀ p ∈ ps, ∀ x ∈ p, x ≠ b) → splitL b (p ++ ps.flatMap (b :: ·)) = p :: ps
  | [], p, h, _ => by simp [splitL_none h]
  | q :: ps, p, h, h2 => by
    rw [List.flatMap_cons, List.cons_append, splitL_cut _ h, splitL_begins (ps := ps) (h2 q (List.mem_cons_self ..)) (fun q hq => h2 q (List.mem_cons_of_mem _ hq))]
theorem splitL_snoc {b c : UInt8} : ∀ {l : List UInt8} {A : List (List UInt8)} {z : List UInt8}, splitL b l = A ++ [z] → splitL b (l ++ [c]) = if c = b then A ++ [z] ++ [[]] else A ++ [z ++ [c]]
  | [], A, z, h => by
    have h' : A = [] ∧ z = [] := by
      cases A with
      | nil => simpa [splitL] using h.symm
      | cons a A => have := congrArg List.length h; simp [splitL] at this
    obtain ⟨rfl, rfl⟩ := h'
    by_cases hc : c = b <;> simp [splitL, hc]
  | d :: r, A, z, h => by
    rw [splitL] at h
    rw [List.cons_append, splitL]
    by_cases hd : d = b
    · rw [if_pos hd] at h ⊢
      cases A with
      | nil =>
        simp only [List.nil_append, List.cons.injEq] at h
        exact absurd h.2 (splitL_ne b r)
      | cons a A =>
        simp only [List.cons_append, List.cons.injEq] at h
        rw [splitL_snoc (l := r) h.2, ← h.1]
        split <;> simp
    · rw [if_neg hd] at h ⊢
      have hf := splitL_form b r
      cases A with
      | nil =>
        simp only [List.nil_append, List.cons.injEq] at h
        rw [h.2] at hf
        rw [splitL_snoc (l := r) (A := []) hf, ← h.1]
        split <;> simp
      | cons a A =>
        simp only [List.cons_append, List.cons.injEq] at h
        rw [h.2] at hf
        rw [splitL_snoc (l := r) (A := (splitL b r).headD [] :: A) hf, ← h.1]
        split <;> simp

/-- The library's cut is this cut, at a separator of one byte. -/
theorem split_one (b : UInt8) : ∀ l : List UInt8, Lib.split l [b] = splitL b l
  | [] => by
    have h : Lib.index ([] : List UInt8) [b] = -1 := by simp [Lib.index]
    rw [Lib.split, Lib.count_miss h, Lib.splitK]; rfl
  | c :: r => by
    have ih := split_one b r
    rw [splitL]
    by_cases hc : c = b
    · subst hc
      have hx : Lib.index (c :: r) [c] = ((0 : Nat) : Int) := by rw [Lib.index]; simp [List.isPrefixOf]
      rw [if_pos rfl, ← ih, Lib.split, Lib.count_cons_eq, Nat.add_comm, Lib.splitK, hx, Lib.split]
      simp
    · rw [if_neg hc, ← ih]
      have hp : ([b] : List UInt8).isPrefixOf (c :: r) = false := by simp [List.isPrefixOf, Ne.symm hc]
      have hx : Lib.index (c :: r) [b] = if Lib.index r [b] == -1 then -1 else Lib.index r [b] + 1 := by rw [Lib.index, hp]; simp
      rw [Lib.split, Lib.split, Lib.count_cons_ne c b r hc]
      by_cases hm : Lib.index r [b] = -1
      · rw [Lib.count_miss hm, Lib.splitK, Lib.splitK]; rfl
      · have hge := Lib.index_ge r [b]
        obtain ⟨j, hj⟩ : ∃ j : Nat, Lib.index r [b] = j := ⟨(Lib.index r [b]).toNat, by omega⟩
        have hx' : Lib.index (c :: r) [b] = ((j + 1 : Nat) : Int) := by rw [hx, if_neg (fun e => hm (beq_iff_eq.1 e)), hj]; omega
        have n1 : ¬ ((j : Int) == -1) = true := fun e => by have := beq_iff_eq.1 e; omega
        have n2 : ¬ (((j + 1 : Nat) : Int) == -1) = true := fun e => by have := beq_iff_eq.1 e; omega
        rw [Lib.count_hit (by simp) hj, Nat.add_comm, Lib.splitK, Lib.splitK, hj, hx', if_neg n1, if_neg n2]
        simp

/-- The pieces that the reference has behind i bytes, and where the next one begins. -/
def cutD (s : ByteArray) (b : UInt8) : Nat → List ByteArray × Nat
  | 0 => ([], 0)
  | i + 1 => if s.data[i]? = some b then ((cutD s b i).1 ++ [s.extract (cutD s b i).2 i], i + 1) else cutD s b i
theorem cutD_le (s : ByteArray) (b : UInt8) : ∀ i, (cutD s b i).2 ≤ i ∧ (cutD s b i).1.length ≤ i
  | 0 => by simp [cutD]
  | i + 1 => by
    have ih := cutD_le s b i
    rw [cutD]
    split
    · simp only [List.length_append, List.length_singleton]; omega
    · omega
def splitS (s : ByteArray) (b : UInt8) : List ByteArray := (cutD s b s.size).1 ++ [s.extract (cutD s b s.size).2 s.size]
theorem extract_list (s : ByteArray) (i j : Nat) : (s.extract i j).data.toList = (s.data.toList.take j).drop i := by
  rw [ByteArray.data_extract, Array.toList_extract, List.extract_eq_take_drop, List.drop_take]
theorem cutD_split (s : ByteArray) (b : UInt8) : ∀ i, i ≤ s.size → splitL b (s.data.toList.take i) = ((cutD s b i).1.map (·.data.toList)) ++ [(s.data.toList.take i).drop (cutD s b i).2]
  | 0, _ => by simp [cutD, splitL]
  | i + 1, hi => by
    have ih := cutD_split s b i (by omega)
    have hle := (cutD_le s b i).1
    have hlt : i < s.data.toList.length := by rw [Array.length_toList]; exact hi
    have hs : s.data.toList.take (i + 1) = s.data.toList.take i ++ [s.data.toList[i]] := List.take_succ_eq_append_getElem hlt
    rw [hs, splitL_snoc ih, cutD]
    have hc : (s.data[i]? = some b) = (s.data.toList[i] = b) := by
      rw [← Array.getElem?_toList, List.getElem?_eq_getElem hlt, Option.some.injEq]
    by_cases h : s.data.toList[i] = b
    · rw [if_pos h, if_pos (hc ▸ h)]
      have hz : (s.data.toList.take i ++ [s.data.toList[i]]).drop (i + 1) = [] := List.drop_eq_nil_of_le (by simp; omega)
      simp only [List.map_append, List.map_cons, List.map_nil, extract_list, hz]
    · rw [if_neg h, if_neg (hc ▸ h)]
      rw [List.drop_append_of_le_length (by simp; omega)]
theorem splitS_list (s : ByteArray) (b : UInt8) : (splitS s b).map (·.data.toList) = splitL b s.data.toList := by
  have h := cutD_split s b s.size (Nat.le_refl _)
  have hz : s.data.toList.take s.size = s.data.toList := List.take_of_length_le (Nat.le_refl _)
  rw [hz] at h
  rw [h, splitS, List.map_append, List.map_singleton, extract_list, hz]

/-- The number that the reference reads: its digits from the left. -/
def digs : Int → List UInt8 → Int
  | n, [] => n
  | n, c :: r => if c < 48 ∨ c > 57 then -1 else digs (10 * n + ((c.toNat : Int) - 48)) r
def readS (s : ByteArray) : Int := if s.size < 1 ∨ 6 < s.size ∨ (s.data[0]? = some 48 ∧ 1 < s.size) then -1 else digs 0 s.data.toList
end Go.Proofs.YtnbiknaihogknaaDoor
namespace Go.Proofs.YtnbiknaihogknaaDoor
open Go.RowKit
set_option linter.unusedVariables false

def isDig (c : UInt8) : Prop := 48 ≤ c.toNat ∧ c.toNat ≤ 57
theorem dig_iff (c : UInt8) : (c < 48 ∨ c > 57) ↔ ¬ isDig c := by
  unfold isDig
  simp only [UInt8.lt_iff_toNat_lt, gt_iff_lt, show (48 : UInt8).toNat = 48 from rfl, show (57 : UInt8).toNat = 57 from rfl]
  omega
theorem dig_of {k : Nat} (h : k < 10) : (UInt8.ofNat (48 + k)).toNat = 48 + k := UInt8.toNat_ofNat_of_lt' (show 48 + k < 256 by omega)
theorem dec_digs (n : Nat) : ∀ c ∈ Lib.decDigits n, isDig c := by
  induction n using Nat.strongRecOn with
  | ind n ih =>
    intro c hc
    by_cases h : n < 10
    · rw [Lib.decDigits_one h, List.mem_singleton] at hc
      subst hc
      rw [isDig, dig_of h]; omega
    · rw [Lib.decDigits, dif_neg h, List.mem_append, List.mem_singleton] at hc
      rcases hc with hc | rfl
      · exact ih (n / 10) (by omega) c hc
      · rw [isDig, dig_of (by omega)]; omega
theorem dec_ne (n : Nat) : Lib.decDigits n ≠ [] := by
  rw [Lib.decDigits]; split <;> simp
theorem dec_head (n : Nat) (h : 1 ≤ n) : (Lib.decDigits n).head? ≠ some 48 := by
  induction n using Nat.strongRecOn with
  | ind n ih =>
    by_cases h1 : n < 10
    · rw [Lib.decDigits_one h1]
      intro e
      have e1 := congrArg UInt8.toNat (Option.some.inj e)
      rw [dig_of h1, show (48 : UInt8).toNat = 48 from rfl] at e1
      omega
    · rw [Lib.decDigits, dif_neg h1, List.head?_append]
      have := ih (n / 10) (by omega) (by omega)
      cases hd : (Lib.decDigits (n / 10)) with
      | nil => exact absurd hd (dec_ne _)
      | cons a l => rw [hd] at this; simpa using this
theorem digs_neg : ∀ (l : List UInt8) (n : Int), (∃ c ∈ l, ¬ isDig c) → digs n l = -1
  | [], n, ⟨c, hc, _⟩ => by cases hc
  | d :: r, n, ⟨c, hc, hd⟩ => by
    rw [digs]
    split
    · rfl
    · rename_i h
      rw [dig_iff, Classical.not_not] at h
      rcases List.mem_cons.1 hc with rfl | hc
      · exact absurd h hd
      · exact digs_neg r _ ⟨c, hc, hd⟩
theorem digs_append : ∀ (l : List UInt8) (n : Int) (r : List UInt8), (∀ c ∈ l, isDig c) → digs n (l ++ r) = digs (digs n l) r
  | [], n, r, _ => rfl
  | d :: l, n, r, h => by
    have hd := h d (List.mem_cons_self ..)
    rw [List.cons_append, digs, digs, if_neg (by rw [dig_iff]; exact fun k => k hd), if_neg (by rw [dig_iff]; exact fun k => k hd)]
    exact digs_append l _ r (fun c hc => h c (List.mem_cons_of_mem _ hc))
theorem digs_one (n : Int) {c : UInt8} (h : isDig c) : digs n [c] = 10 * n + ((c.toNat : Int) - 48) := by
  rw [digs, if_neg (by rw [dig_iff]; exact fun k => k h)]; rfl
theorem digs_dec (n : Nat) : digs 0 (Lib.decDigits n) = n := by
  induction n using Nat.strongRecOn with
  | ind n ih =>
    by_cases h : n < 10
    · rw [Lib.decDigits_one h, digs_one _ (by rw [isDig, dig_of h]; omega), dig_of h]; omega
    · rw [Lib.decDigits, dif_neg h, digs_append _ _ _ (dec_digs _), ih (n / 10) (by omega), digs_one _ (by rw [isDig, dig_of (by omega)]; omega), dig_of (by omega)]
      omega
/-- Digits that spell a number, without a 0 ahead of others, are its numeral. -/
theorem dec_digs_inv : ∀ (k : Nat) (l : List UInt8), l.length = k → l ≠ [] → (∀ c ∈ l, isDig c) → (l.head? = some 48 → l.length = 1) → ∃ n : Nat, digs 0 l = n ∧ l = Lib.decDigits n
  | 0, l, hk, hne, _, _ => absurd (List.length_eq_zero_iff.1 hk) hne
  | k + 1, l, hk, hne, hd, hz => by
    obtain ⟨p, c, rfl⟩ : ∃ p c, l = p ++ [c] := ⟨l.dropLast, l.getLast hne, (List.dropLast_concat_getLast hne).symm⟩
    have hc := hd c (by simp)
    have hp : ∀ x ∈ p, isDig x := fun x hx => hd x (by simp [hx])
    have hlen : p.length = k := by simpa using hk
    have hct : UInt8.ofNat (48 + (c.toNat - 48)) = c := by
      rw [show 48 + (c.toNat - 48) = c.toNat by have := hc.1; omega]; simp
    rcases hp0 : p with _ | ⟨a, q⟩
    · refine ⟨c.toNat - 48, ?_, ?_⟩
      · rw [List.nil_append, digs_one _ hc]; have := hc.1; omega
      · rw [Lib.decDigits_one (by have := hc.2; omega), hct]; rfl
    · have hpne : p ≠ [] := by rw [hp0]; simp
      obtain ⟨n, e1, e2⟩ := dec_digs_inv k p hlen hpne hp (fun h0 => by
        have := hz (by rw [List.head?_append, h0]; rfl)
        rw [List.length_append, hp0] at this
        simp at this)
      have hn : 1 ≤ n := by
        rcases Nat.eq_zero_or_pos n with h0 | h0
        · exfalso
          rw [h0, Lib.decDigits_one (by omega)] at e2
          have := hz (by rw [e2]; rfl)
          rw [List.length_append, hp0] at this
          simp at this
        · exact h0
      rw [← hp0]
      refine ⟨10 * n + (c.toNat - 48), ?_, ?_⟩
      · rw [digs_append _ _ _ hp, e1, digs_one _ hc]; have := hc.1; omega
      · have h1 : (10 * n + (c.toNat - 48)) / 10 = n := by have := hc.2; omega
        have h2 : (10 * n + (c.toNat - 48)) % 10 = c.toNat - 48 := by have := hc.2; omega
        rw [Lib.decDigits, dif_neg (by omega), h1, h2, hct, ← e2]
theorem readS_txt (n : Nat) (h : n < 1000000) : readS (txt n) = n := by
  have hs : (txt n).size = Lib.nDigits n := by rw [← Lib.decDigits_length]; rfl
  have h6 : Lib.nDigits n ≤ 6 := by
    rcases Nat.lt_or_ge 6 (Lib.nDigits n) with h1 | h1
    · exfalso
      have aux : ∀ (k m : Nat), k + 1 ≤ Lib.nDigits m → 10 ^ k ≤ m ∨ k = 0 := by
        intro k
        induction k with
        | zero => intro m _; exact .inr rfl
        | succ k ih =>
          intro m hm
          left
          by_cases hm10 : m < 10
          · rw [Lib.nDigits_small hm10] at hm; omega
          · rw [Lib.nDigits_big hm10] at hm
            rcases ih (m / 10) (by omega) with h2 | h2
            · rw [Nat.pow_succ]; omega
            · subst h2; omega
      rcases aux 6 n h1 with h2 | h2 <;> omega
    · exact h1
  have h1 := Lib.nDigits_pos n
  have hd : (txt n).data.toList = Lib.decDigits n := rfl
  rw [readS, if_neg, hd, digs_dec]
  rw [hs]
  rintro (h2 | h2 | ⟨h2, h3⟩)
  · omega
  · omega
  · rw [← Array.getElem?_toList, hd, ← List.head?_eq_getElem?] at h2
    rcases Nat.eq_zero_or_pos n with h0 | h0
    · rw [h0, Lib.nDigits_small (by omega)] at h3; omega
    · exact dec_head n h0 h2
theorem readS_inv (s : ByteArray) (h : 0 ≤ readS s) : ∃ n : Nat, readS s = n ∧ s = txt n := by
  unfold readS at h ⊢
  split at h
  · omega
  · rename_i hc
    rw [if_neg hc]
    have hall : ∀ c ∈ s.data.toList, isDig c := by
      intro c hc2
      refine Classical.byContradiction fun hn => ?_
      rw [digs_neg _ _ ⟨c, hc2, hn⟩] at h
      omega
    have hne : s.data.toList ≠ [] := by
      intro e
      have : s.size = 0 := by rw [ByteArray.size, ← Array.length_toList, e]; rfl
      omega
    obtain ⟨n, e1, e2⟩ := dec_digs_inv _ s.data.toList rfl hne hall (fun h0 => by
      rw [List.head?_eq_getElem?, Array.getElem?_toList] at h0
      have : ¬ 1 < s.size := fun h1 => hc (.inr (.inr ⟨h0, h1⟩))
      have h2 : s.data.toList.length = s.size := rfl
      have h3 : s.data.toList.length ≠ 0 := fun e => hne (List.length_eq_zero_iff.1 e)
      omega)
    refine ⟨n, e1, ?_⟩
    apply ByteArray.ext
    apply Array.ext'
    rw [e2]; rfl

/-- What the program's readNumber hands back. -/
def rnV (s : ByteArray) : Int := match Lib.atoiAll s.data.toList with
  | .ok v => v
  | .range => Lib.atoiSat s.data.toList
  | _ => 0
def rnOk (s : ByteArray) : Bool := match Lib.atoiAll s.data.toList with
  | .ok v => decide (Lib.itoa v = s.data.toList)
  | _ => false
theorem rn_ok {s : ByteArray} (h : rnOk s = true) : s.data.toList = Lib.itoa (rnV s) := by
  unfold rnOk at h
  unfold rnV
  split at h <;> rename_i e
  · rw [e]; exact (of_decide_eq_true h).symm
  · cases h
theorem rn_txt_of {s : ByteArray} {n : Nat} (h : rnOk s = true) (hv : rnV s = n) : s = txt n := by
  apply ByteArray.ext
  apply Array.ext'
  rw [rn_ok h, hv, Lib.itoa_nonneg]; rfl
theorem parse_append : ∀ (l : List UInt8) (a u : Nat) (r : List UInt8), Lib.parseUint10 a l = .ok u → Lib.parseUint10 a (l ++ r) = Lib.parseUint10 u r
  | [], a, u, r, h => by simp only [Lib.parseUint10] at h; injection h with h; subst h; rfl
  | c :: l, a, u, r, h => by
    rw [List.cons_append]
    simp only [Lib.parseUint10] at h ⊢
    split at h
    · rename_i h1
      rw [if_pos h1]
      split at h
      · cases h
      · rename_i h2
        rw [if_neg h2]
        split at h
        · cases h
        · rename_i h3
          rw [if_neg h3]
          exact parse_append l _ u r h
    · cases h
theorem parse_one (a : Nat) {c : UInt8} (h : isDig c) (ha : a * 10 + (c.toNat - 48) < 18446744073709551616) : Lib.parseUint10 a [c] = .ok (a * 10 + (c.toNat - 48)) := by
  have := h.2
  simp only [Lib.parseUint10]
  rw [if_pos (show 48 ≤ c.toNat ∧ c.toNat ≤ 57 from h), if_neg (by omega), if_neg (by omega)]
theorem parse_dec (n : Nat) (h : n < 18446744073709551616) : Lib.parseUint10 0 (Lib.decDigits n) = .ok n := by
  induction n using Nat.strongRecOn with
  | ind n ih =>
    by_cases h1 : n < 10
    · rw [Lib.decDigits_one h1, parse_one 0 (by rw [isDig, dig_of h1]; omega) (by rw [dig_of h1]; omega), dig_of h1]
      congr 1; omega
    · rw [Lib.decDigits, dif_neg h1, parse_append _ _ _ _ (ih (n / 10) (by omega) (by omega)), parse_one _ (by rw [isDig, dig_of (by omega)]; omega) (by rw [dig_of (by omega)]; omega), dig_of (by omega)]
      congr 1; omega
theorem atoi_dec (n : Nat) (h : n < 9223372036854775808) : Lib.atoiAll (Lib.decDigits n) = .ok (n : Int) := by
  rcases hd : Lib.decDigits n with _ | ⟨c, r⟩
  · exact absurd hd (dec_ne n)
  · have hc := dec_digs n c (by rw [hd]; exact List.mem_cons_self ..)
    have h1 := hc.1
    unfold Lib.atoiAll
    dsimp only
    rw [if_neg (show ¬ (c.toNat = 43 ∨ c.toNat = 45) by omega), ← hd, Lib.parseMag, if_neg (dec_ne n), parse_dec n (by omega)]
    dsimp only
    rw [if_neg (by omega), if_neg (by omega), if_neg (by omega)]
theorem rnV_txt (n : Nat) (h : n < 9223372036854775808) : rnV (txt n) = n := by
  rw [rnV, show (txt n).data.toList = Lib.decDigits n from rfl, atoi_dec n h]
theorem rnOk_txt (n : Nat) (h : n < 9223372036854775808) : rnOk (txt n) = true := by
  rw [rnOk, show (txt n).data.toList = Lib.decDigits n from rfl, atoi_dec n h]
  simp [Lib.itoa_nonneg]
end Go.Proofs.YtnbiknaihogknaaDoor
namespace Go.Proofs.YtnbiknaihogknaaDoor
open Go.RowKit
set_option linter.unusedVariables false

theorem index_byte {b : UInt8} (r : List UInt8) : ∀ {p : List UInt8}, (∀ x ∈ p, x ≠ b) → Lib.index (p ++ b :: r) [b] = (p.length : Int)
  | [], _ => by rw [List.nil_append, Lib.index]; simp [List.isPrefixOf]
  | c :: p, h => by
    have hc : c ≠ b := h c (List.mem_cons_self ..)
    have ih := index_byte r (p := p) (fun x hx => h x (List.mem_cons_of_mem _ hx))
    have hp : ([b] : List UInt8).isPrefixOf (c :: (p ++ b :: r)) = false := by simp [List.isPrefixOf, Ne.symm hc]
    have hx : Lib.index (c :: (p ++ b :: r)) [b] = if Lib.index (p ++ b :: r) [b] == -1 then -1 else Lib.index (p ++ b :: r) [b] + 1 := by rw [Lib.index, hp]; simp
    rw [List.cons_append, hx, ih, if_neg (fun e => by have := beq_iff_eq.1 e; omega), List.length_cons]
    omega
theorem cut_byte {b : UInt8} {p r : List UInt8} (h : ∀ x ∈ p, x ≠ b) : Lib.cut (p ++ b :: r) [b] = (p, r, true) := by
  unfold Lib.cut
  rw [index_byte r h, if_pos (by omega)]
  simp
theorem go_word : ∀ (v cur r : List UInt8), (∀ c ∈ v, Lib.isSp c = false) → Lib.fieldsGo cur (v ++ r) = Lib.fieldsGo (cur ++ v) r
  | [], cur, r, _ => by simp
  | c :: v, cur, r, h => by
    rw [List.cons_append, Lib.fieldsGo_more _ _ _ (h c (List.mem_cons_self ..)), go_word v _ r (fun x hx => h x (List.mem_cons_of_mem _ hx))]
    simp
theorem sp32 : Lib.isSp 32 = true := by decide
/-- Words with a space behind each. -/
theorem fields_ends : ∀ {ws : List (List UInt8)}, (∀ v ∈ ws, v ≠ [] ∧ ∀ c ∈ v, Lib.isSp c = false) → Lib.fields (ws.flatMap (· ++ [32])) = ws
  | [], _ => rfl
  | v :: ws, h => by
    obtain ⟨h1, h2⟩ := h v (List.mem_cons_self ..)
    have ih := fields_ends (ws := ws) (fun x hx => h x (List.mem_cons_of_mem _ hx))
    unfold Lib.fields at ih ⊢
    rw [List.flatMap_cons, List.append_assoc, List.singleton_append, go_word v [] _ h2, List.nil_append, Lib.fieldsGo_end v 32 _ sp32 h1, ih]
theorem go_begins : ∀ {ws : List (List UInt8)} {v : List UInt8}, v ≠ [] → (∀ v ∈ ws, v ≠ [] ∧ ∀ c ∈ v, Lib.isSp c = false) → Lib.fieldsGo v (ws.flatMap (32 :: ·)) = v :: ws
  | [], v, h1, _ => by cases v with
    | nil => exact absurd rfl h1
    | cons a v => rfl
  | x :: ws, v, h1, h => by
    obtain ⟨h2, h3⟩ := h x (List.mem_cons_self ..)
    rw [List.flatMap_cons, List.cons_append, Lib.fieldsGo_end v 32 _ sp32 h1, go_word x [] _ h3, List.nil_append, go_begins (ws := ws) h2 (fun y hy => h y (List.mem_cons_of_mem _ hy))]
/-- Words with a space ahead of each. -/
theorem fields_begins {ws : List (List UInt8)} (h : ∀ v ∈ ws, v ≠ [] ∧ ∀ c ∈ v, Lib.isSp c = false) : Lib.fields (ws.flatMap (32 :: ·)) = ws := by
  cases ws with
  | nil => rfl
  | cons v ws =>
    obtain ⟨h1, h2⟩ := h v (List.mem_cons_self ..)
    unfold Lib.fields
    rw [List.flatMap_cons, List.cons_append, Lib.fieldsGo_sp 32 _ sp32, go_word v [] _ h2, List.nil_append, go_begins h1 (fun y hy => h y (List.mem_cons_of_mem _ hy))]
theorem dig_facts {c : UInt8} (h : isDig c) : c ≠ 32 ∧ c ≠ 45 ∧ c ≠ 47 ∧ c ≠ 58 ∧ c ≠ 59 ∧ c ≠ 61 ∧ c ≠ 124 ∧ Lib.isSp c = false ∧ c.toNat < 128 := by
  have h1 := h.1
  have h2 := h.2
  have ne : ∀ d : UInt8, c.toNat ≠ d.toNat → c ≠ d := fun d hd e => hd (by rw [e])
  refine ⟨ne _ ?_, ne _ ?_, ne _ ?_, ne _ ?_, ne _ ?_, ne _ ?_, ne _ ?_, ?_, by omega⟩
  · show c.toNat ≠ 32; omega
  · show c.toNat ≠ 45; omega
  · show c.toNat ≠ 47; omega
  · show c.toNat ≠ 58; omega
  · show c.toNat ≠ 59; omega
  · show c.toNat ≠ 61; omega
  · show c.toNat ≠ 124; omega
  · cases hs : Lib.isSp c with
    | false => rfl
    | true =>
      exfalso
      simp only [Lib.isSp, Bool.or_eq_true, beq_iff_eq] at hs
      rcases hs with ((((rfl | rfl) | rfl) | rfl) | rfl) | rfl <;> revert h1 <;> decide
theorem index_no {b : UInt8} : ∀ {l : List UInt8}, (∀ x ∈ l, x ≠ b) → Lib.index l [b] = -1
  | [], _ => by simp [Lib.index]
  | c :: l, h => by
    have hc : c ≠ b := h c (List.mem_cons_self ..)
    have ih := index_no (l := l) (fun x hx => h x (List.mem_cons_of_mem _ hx))
    have hp : ([b] : List UInt8).isPrefixOf (c :: l) = false := by simp [List.isPrefixOf, Ne.symm hc]
    have hx : Lib.index (c :: l) [b] = if Lib.index l [b] == -1 then -1 else Lib.index l [b] + 1 := by rw [Lib.index, hp]; simp
    rw [hx, ih]; rfl
theorem cut_no {b : UInt8} {l : List UInt8} (h : ∀ x ∈ l, x ≠ b) : Lib.cut l [b] = (l, [], false) := by
  unfold Lib.cut
  rw [index_no h, if_neg (by omega)]
theorem cut_cases (b : UInt8) (l : List UInt8) : (∀ x ∈ l, x ≠ b) ∨ ∃ p r, l = p ++ b :: r ∧ ∀ x ∈ p, x ≠ b := by
  by_cases h : b ∈ l
  · obtain ⟨p, r, e, hp⟩ := List.eq_append_cons_of_mem h
    exact .inr ⟨p, r, e, fun x hx e => hp (e ▸ hx)⟩
  · exact .inl fun x hx e => h (e ▸ hx)
theorem bytes_eq {a b : ByteArray} (h : a.data.toList = b.data.toList) : a = b := by apply ByteArray.ext; apply Array.ext'; exact h
theorem lists_eq {L : List ByteArray} {M : List ByteArray} (h : L.map (·.data.toList) = M.map (·.data.toList)) : L = M :=
  (List.map_inj_right (fun a b => bytes_eq)).1 h
/-- What the program cuts off ahead of a byte, and behind it. -/
def cutA (s : ByteArray) (b : UInt8) : ByteArray := ⟨(Lib.cut s.data.toList [b]).1.toArray⟩
def cutB (s : ByteArray) (b : UInt8) : ByteArray := ⟨(Lib.cut s.data.toList [b]).2.1.toArray⟩

end Go.Proofs.YtnbiknaihogknaaDoor
namespace Go.Proofs.YtnbiknaihogknaaDoor
open Go.RowKit
set_option linter.unusedVariables false

def bt1 (l : List UInt8) : ByteArray := ⟨l.toArray⟩
theorem bt1_list (l : List UInt8) : (bt1 l).data.toList = l := rfl
theorem bt1_txt (n : Nat) : bt1 (Lib.decDigits n) = txt n := rfl
/-- A number with at most k digits. -/
theorem txt_le : ∀ (k n : Nat), 1 ≤ k → n < 10 ^ k → (txt n).size ≤ k
  | 0, _, h, _ => by omega
  | k + 1, n, _, h => by
    by_cases h1 : n < 10
    · rw [txt_one h1]
      show 1 ≤ k + 1
      omega
    · rw [Nat.pow_succ] at h
      have hk : 1 ≤ k := by
        rcases Nat.eq_zero_or_pos k with h0 | h0
        · subst h0; omega
        · exact h0
      have ih := txt_le k (n / 10) hk (by omega)
      rw [txt_more h1, ByteArray.size_append]
      show (txt (n / 10)).size + 1 ≤ k + 1
      omega
/-- The library's pieces at one byte are the reference's. -/
theorem split_same (s : ByteArray) (b : UInt8) : Lib.splitB ⟨#[b]⟩ 0 (Lib.countB s ⟨#[b]⟩) s = splitS s b := by
  apply lists_eq
  rw [splitS_list, Lib.splitB_data, ← split_one b s.data.toList]
  rfl
theorem count_same (s : ByteArray) (b : UInt8) : Lib.countB s ⟨#[b]⟩ + 1 = (splitS s b).length := by
  rw [← split_same, Lib.splitB_all ⟨#[b]⟩ (by show 1 ≤ 1; omega) 0 _ s rfl]
theorem splitS_len (s : ByteArray) (b : UInt8) : (splitS s b).length ≤ s.size + 1 := by
  rw [splitS, List.length_append, List.length_singleton]
  have := (cutD_le s b s.size).2
  omega
theorem splitS_pos (s : ByteArray) (b : UInt8) : 1 ≤ (splitS s b).length := by rw [splitS]; simp
theorem splitS_size (s : ByteArray) (b : UInt8) {x : ByteArray} (h : x ∈ splitS s b) : x.size ≤ s.size := by
  have aux : ∀ i, i ≤ s.size → ∀ y ∈ (cutD s b i).1, y.size ≤ s.size := by
    intro i
    induction i with
    | zero => intro _ y hy; cases hy
    | succ i ih =>
      intro hi y hy
      rw [cutD] at hy
      split at hy
      · rw [List.mem_append, List.mem_singleton] at hy
        rcases hy with hy | rfl
        · exact ih (by omega) y hy
        · rw [ByteArray.size_extract]; omega
      · exact ih (by omega) y hy
  rw [splitS, List.mem_append, List.mem_singleton] at h
  rcases h with h | rfl
  · exact aux _ (Nat.le_refl _) x h
  · rw [ByteArray.size_extract]; omega
/-- Pieces with the byte behind each are a first piece and pieces with the byte ahead of each, and the byte. -/
theorem ends_begins (b : UInt8) : ∀ (ps : List (List UInt8)) (p : List UInt8), (p :: ps).flatMap (· ++ [b]) = (p ++ ps.flatMap (b :: ·)) ++ [b]
  | [], p => by simp
  | q :: ps, p => by
    have ih := ends_begins b ps q
    rw [List.flatMap_cons, ih, List.flatMap_cons]
    simp
theorem trim_byte (X : List UInt8) (b : UInt8) : Lib.trimSuffix (X ++ [b]) [b] = X := by
  have h : Lib.hasSuffix (X ++ [b]) [b] = true := by
    unfold Lib.hasSuffix
    simp
  unfold Lib.trimSuffix
  rw [if_pos h]
  simp
theorem tail_extract {s : ByteArray} {c : UInt8} {r : List UInt8} (h : s.data.toList = c :: r) : s.extract 1 s.size = bt1 r := by
  apply bytes_eq
  have hz : s.data.toList.take s.size = s.data.toList := List.take_of_length_le (Nat.le_refl _)
  rw [extract_list, hz, h]
  rfl
end Go.Proofs.YtnbiknaihogknaaDoor

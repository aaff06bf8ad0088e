/- Several texts in one. Names: what the drawn law asks, in plain words. The laws' own functions on lists of texts. -/
import Derived.Test.YtpkhdmhfkmajcaaDoorPzD
import Derived.Test.YtpkhdmhfkmajcaaDoorStrF
import Derived.Test.YtpkhdmhfkmajcaaDoorAdP
import Derived.Test.YtpkhdmhfkmajcaaDoorSmall
import Derived.Test.YtpkhdmhfkmajcaaDoorRegions
import Derived.Test.YtpkhdmhfkmajcaaDoorSimF
import Derived.Test.YtpkhdmhfkmajcaaDoorSimE
namespace Go.Proofs.YtpkhdmhfkmajcaaDoor
open Go.RowKit
set_option linter.unusedVariables false

theorem simS_symm (a b : List UInt8) : simS a b = simS b a := by
  unfold simS
  by_cases h : a.length = b.length
  · rw [diffOk_comm a b, diffs_comm h, decide_eq_true h, decide_eq_true h.symm, Bool.or_comm (lessL a b)]
  · rw [decide_eq_false h, decide_eq_false (fun e => h e.symm), Bool.or_comm (lessL a b)]
    rfl
theorem simS_irr (a : List UInt8) : simS a a = false := by
  unfold simS
  rw [lessL_self_len rfl, (diffs_nil a a rfl).2 rfl]
  simp [diffOk]
theorem simN_symm (a b : ByteArray) : simN a b = simN b a := simS_symm _ _
theorem simN_ne {a b : ByteArray} (h : simN a b = true) : (a.toList == b.toList) = false := by
  cases he : (a.toList == b.toList) with
  | false => rfl
  | true =>
    rw [simN_cong (eq_of_beq he), simN, simS_irr] at h
    cases h
theorem roadsK_mem2 {l : List StrT} {s : ByteArray} : ∀ (k : Nat) (y : ByteArray), y ∈ roadsK l s k → simN y s = true ∧ ∃ i x, i < k ∧ l[i]? = some x ∧ x.1 = y
  | 0, y, h => by simp [roadsK] at h
  | k + 1, y, h => by
    rw [roadsK] at h
    split at h
    · next x hx =>
      split at h
      · next hs =>
        rcases List.mem_append.1 h with h | h
        · obtain ⟨h0, i, z, hi, hz, he⟩ := roadsK_mem2 k y h
          exact ⟨h0, i, z, by omega, hz, he⟩
        · simp at h
          rw [Bool.and_eq_true] at hs
          exact ⟨by rw [h]; exact hs.1, k, x, by omega, hx, h.symm⟩
      · obtain ⟨h0, i, z, hi, hz, he⟩ := roadsK_mem2 k y h
        exact ⟨h0, i, z, by omega, hz, he⟩
    · obtain ⟨h0, i, z, hi, hz, he⟩ := roadsK_mem2 k y h
      exact ⟨h0, i, z, by omega, hz, he⟩
theorem roadsK_lt {l : List StrT} (h : strsB l = true) {s : ByteArray} {k : Nat} {a : StrT} (ha : l[k]? = some a) (hn : newAt l k = true) {y : ByteArray} (hy : y ∈ roadsK l s k) : y.toList < a.1.toList := by
  obtain ⟨-, i, x, hi, hx, he⟩ := roadsK_mem2 k y hy
  obtain ⟨j, rfl⟩ : ∃ j, k = j + 1 := ⟨k - 1, by omega⟩
  have hj : j < l.length := by have := (List.getElem?_eq_some_iff.1 ha).1; omega
  have hb := List.getElem?_eq_getElem hj
  have hnew := newAt_succ hb ha
  rw [hn] at hnew
  have h1 := names_le h (j - i) i x _ hx (by rw [show i + (j - i) = j by omega]; exact hb)
  have h2 := names_le h 1 j _ a hb ha
  have hne : l[j].1.toList ≠ a.1.toList := fun e => by rw [e] at hnew; simp at hnew
  have h3 : l[j].1.toList < a.1.toList := h2.resolve_right hne
  rw [← he]
  rcases h1 with h1 | h1
  · exact List.lt_trans h1 h3
  · rw [h1]; exact h3
theorem roads_up {l : List StrT} (h : strsB l = true) {s : ByteArray} : ∀ (k : Nat) (j : Nat) (p x : ByteArray), (roadsK l s k)[j]? = some p → (roadsK l s k)[j + 1]? = some x → p.toList < x.toList
  | 0, j, p, x, hp, hx => by simp [roadsK] at hp
  | k + 1, j, p, x, hp, hx => by
    cases hk : l[k]? with
    | none =>
      rw [roadsK, hk] at hp hx
      exact roads_up h k j p x hp hx
    | some a =>
      cases hs : simN a.1 s && newAt l k with
      | false =>
        rw [roadsK_no hk hs] at hp hx
        exact roads_up h k j p x hp hx
      | true =>
        rw [roadsK_yes hk hs] at hp hx
        rw [Bool.and_eq_true] at hs
        have hl := (List.getElem?_eq_some_iff.1 hx).1
        rw [List.length_append, List.length_singleton] at hl
        rw [List.getElem?_append_left (by omega)] at hp
        by_cases hj : j + 1 < (roadsK l s k).length
        · rw [List.getElem?_append_left hj] at hx
          exact roads_up h k j p x hp hx
        · rw [List.getElem?_append_right (by omega), show j + 1 - (roadsK l s k).length = 0 by omega] at hx
          simp at hx
          rw [← hx]
          exact roadsK_lt h hk hs.2 (List.mem_of_getElem? hp)
theorem sumK_ge {α : Type} {f : α → Int} {l : List α} (h : ∀ x ∈ l, 0 ≤ f x) {i : Nat} {a : α} (ha : l[i]? = some a) : ∀ k, i < k → f a ≤ sumK f l k
  | 0, hk => by omega
  | k + 1, hk => by
    cases hx : l[k]? with
    | none =>
      have : i < l.length := (List.getElem?_eq_some_iff.1 ha).1
      have : l.length ≤ k := List.getElem?_eq_none_iff.1 hx
      have e : sumK f l (k + 1) = sumK f l k := by simp [sumK, List.take_add_one, hx]
      rw [e]
      exact sumK_ge h ha k (by omega)
    | some b =>
      rw [sumK_succ hx]
      have h0 := h b (List.mem_of_getElem? hx)
      by_cases hik : i = k
      · subst hik
        rw [ha] at hx
        injection hx with hx
        subst hx
        have : ∀ k, 0 ≤ sumK f l k := fun k => by
          induction k with
          | zero => simp [sumK]
          | succ m ih =>
            cases hm : l[m]? with
            | none =>
              have e : sumK f l (m + 1) = sumK f l m := by simp [sumK, List.take_add_one, hm]
              rw [e]; exact ih
            | some c =>
              rw [sumK_succ hm]
              have := h c (List.mem_of_getElem? hm)
              omega
        have := this i
        omega
      · have := sumK_ge h ha k (by omega)
        omega

theorem road_len {x : ByteArray} (h : roadB x = true) : x.size ≤ 10 := by
  rw [roadB, Bool.and_eq_true, inB_iff] at h
  omega
/-- One of the similar roads. -/
theorem na1 {l : List StrT} {s : ByteArray} (ho : srOk l s = true) {i : Nat} {x : ByteArray} (hx : (srL l s)[i]? = some x) :
    roadB x = true ∧ x.size ≤ 10 ∧ (strsB l && roadB x) = true ∧ 1 ≤ housesV l x ∧ (x.toList == s.toList) = false ∧ srOk [(s, 1, 1, 0, 1)] x = true ∧ srL [(s, 1, 1, 0, 1)] x = [s] := by
  rw [srL, if_pos ho] at hx
  rw [srOk, Bool.and_eq_true] at ho
  obtain ⟨h0, j, z, hj, hz, he⟩ := roadsK_mem2 _ _ (List.mem_of_getElem? hx)
  have hp := strsB_elem ho.1 (List.mem_of_getElem? hz)
  obtain ⟨z0, z1, z2, z3, z4⟩ := z
  dsimp only at he
  subst he
  have hbd := strP_bd hp
  have hr : roadB z0 = true := by
    simp only [strP, strB, Bool.and_eq_true] at hp
    exact hp.1.1.1.1.1
  have hone : strsB [(s, 1, 1, 0, 1)] = true := by
    have : strP (s, 1, 1, 0, 1) = true := by simp [strP, strB, ho.2, inB]
    have h2 : stepB strP strR [(s, 1, 1, 0, 1)] 0 = true := by simp [stepB, this]
    simp [strsB, chainB, h2]
  refine ⟨hr, road_len hr, by rw [ho.1, hr]; rfl, ?_, simN_ne h0, by rw [srOk, hone, hr]; rfl, ?_⟩
  · rw [housesV, if_pos (by rw [ho.1, hr]; rfl)]
    refine Int.le_trans ?_ (sumK_ge (fun x hx => (houseF_bd ho.1 x hx).1) hz _ hj)
    simp only [houseF, beq_self_eq_true, if_true]
    omega
  · rw [srL, if_pos (by rw [srOk, hone, hr]; rfl)]
    have hk : ([(s, 1, 1, 0, 1)] : List StrT)[0]? = some (s, 1, 1, 0, 1) := rfl
    show roadsK _ _ (0 + 1) = _
    rw [roadsK_yes hk (by rw [simN_symm, h0]; rfl)]
    rfl
/-- Two neighbours. -/
theorem na2 {l : List StrT} {s : ByteArray} (ho : srOk l s = true) {i : Nat} {p x : ByteArray} (hp : (srL l s)[i]? = some p) (hx : (srL l s)[i + 1]? = some x) : Op.bytesLess p.toList x.toList = true := by
  rw [srL, if_pos ho] at hx hp
  rw [srOk, Bool.and_eq_true] at ho
  rw [less_lex, decide_eq_true_eq]
  exact roads_up ho.1 _ _ _ _ hp hx
theorem lkF_some {l : List StrT} {h : Int} : ∀ {L : List ByteArray} {n : ByteArray} {v : Int}, lkF l h L = some (n, v) → ∃ k : Nat, L[k]? = some n ∧ (∀ (i : Nat) (x : ByteArray), i < k → L[i]? = some x → findI (findP x h) l < 0) ∧ 0 ≤ findI (findP n h) l ∧ v = nodeAt l (findI (findP n h) l)
  | [], n, v, e => by simp [lkF] at e
  | x :: L, n, v, e => by
    rw [lkF] at e
    by_cases h0 : 0 ≤ findI (findP x h) l
    · rw [if_pos h0] at e
      injection e with e
      injection e with e1 e2
      subst e1
      exact ⟨0, rfl, fun i _ hi => absurd hi (by omega), h0, e2.symm⟩
    · rw [if_neg h0] at e
      obtain ⟨k, h1, h2, h3, h4⟩ := lkF_some e
      refine ⟨k + 1, by simpa using h1, fun i y hi hy => ?_, h3, h4⟩
      cases i with
      | zero => simp at hy; subst hy; omega
      | succ i => exact h2 i y (by omega) (by simpa using hy)
/-- A likely address. -/
theorem na3 {l : List StrT} {s : ByteArray} {h : Int} (hb : lkB l s h = true) :
    (lkS l s h).size ≤ 10 ∧ 0 ≤ addrK l (lkS l s h) h ∧ (addrV l (addrK l (lkS l s h) h)).1 = lkV l s h ∧ srOk l s = true ∧ decide (0 ≤ addrK l s h) = ((lkS l s h).toList == s.toList) ∧ (((lkS l s h).toList == s.toList) = false → hasS (srL l s) (lkS l s h) = true) := by
  cases ho : lkO l s h with
  | none => rw [lkB, ho] at hb; cases hb
  | some q =>
    obtain ⟨n, v⟩ := q
    have e1 : lkS l s h = n := by rw [lkS, ho]
    have e2 : lkV l s h = v := by rw [lkV, ho]
    rw [e1, e2]
    cases hk : lkOk l s h with
    | false => rw [lkO_no hk] at ho; cases ho
    | true =>
      rw [lkO_yes hk] at ho
      obtain ⟨k, h1, h2, h3, h4⟩ := lkF_some ho
      rw [lkOk, Bool.and_eq_true, Bool.and_eq_true] at hk
      obtain ⟨⟨k1, k2⟩, k3⟩ := hk
      have hs : srOk l s = true := by rw [srOk, k1, k2]; rfl
      have hcase : roadB n = true ∧ decide (0 ≤ addrK l s h) = (n.toList == s.toList) ∧ ((n.toList == s.toList) = false → hasS (srL l s) n = true) := by
        have ha : addrK l s h = findI (findP s h) l := by rw [addrK, if_pos (by rw [k1, k2, k3]; rfl)]
        cases k with
        | zero =>
          simp at h1
          subst h1
          refine ⟨k2, ?_, ?_⟩
          · rw [ha, decide_eq_true h3]; simp
          · simp
        | succ k =>
          have hm : n ∈ roadsK l s l.length := List.mem_of_getElem? (by simpa using h1)
          obtain ⟨m0, j, z, hj, hz, he⟩ := roadsK_mem2 _ _ hm
          have hp := strsB_elem k1 (List.mem_of_getElem? hz)
          have hr : roadB n = true := by
            rw [← he]
            obtain ⟨z0, z1, z2, z3, z4⟩ := z
            simp only [strP, strB, Bool.and_eq_true] at hp
            exact hp.1.1.1.1.1
          have hneg := h2 0 s (by omega) rfl
          refine ⟨hr, ?_, fun _ => ?_⟩
          · rw [ha, simN_ne m0, decide_eq_false (by omega)]
          · rw [srL, if_pos hs, hasS, List.any_eq_true]
            exact ⟨n, hm, by simp⟩
      obtain ⟨c1, c2, c3⟩ := hcase
      have ha : addrK l n h = findI (findP n h) l := by rw [addrK, if_pos (by rw [k1, c1, k3]; rfl)]
      refine ⟨road_len c1, by rw [ha]; exact h3, ?_, hs, c2, c3⟩
      rw [ha, h4, addrV, if_neg (by omega), nodeAt]
      cases l[(findI (findP n h) l).toNat]? <;> rfl
theorem na4 {s a : ByteArray} {n : Int} (h : adS s = some (a, n)) : 1 ≤ n ∧ n ≤ 999 ∧ a.size ≤ 10 := by
  unfold adS at h
  split at h
  · rename_i hc
    simp only [Bool.and_eq_true, inB_iff] at hc
    injection h with h
    injection h with h1 h2
    rw [← h1, ← h2]
    exact ⟨hc.2.1, hc.2.2, road_len hc.1.2⟩
  · cases h
end Go.Proofs.YtpkhdmhfkmajcaaDoor
namespace Go.Proofs.YtpkhdmhfkmajcaaDoor
open Go.RowKit
set_option linter.unusedVariables false

set_option maxHeartbeats 2000000 in
theorem qTexts_same (A B : Option Addr) (n c d : Nat) (l : List ByteArray) (w : World) (hn : n = l.length) (hm : n ≤ 1048576) (hr : Rd w A (strL l)) (hs : Rd w B (strL l)) :
    Calls Tryd.prog 13 #[.slice A n c, .slice B n d] w fun e w' => e = .returned (.bool true) ∧ Below w.heap.size w w' := by
  have Hn := hide hn
  have Hr := hide hr
  have Hs := hide hs
  clear hn hr hs
  go_enter Tryd.func13, Tryd.ntmps13
  go_wp2_with fail
  go_loopw [13] (fun t wr => ∃ k : Nat, k ≤ n ∧ t = .int .i64 k ∧ Below w.heap.size w wr) (fun t _ => n - (intOf t).toNat)
  case atStart => exact ⟨0, by omega, rfl, Below.refl _ _⟩
  case round =>
    obtain ⟨k, hk, rfl, hb⟩ := hrel
    by_cases hlt : k < n
    · obtain ⟨x, hx⟩ : ∃ x, (strL l)[k]? = some (.string x) := by
        have : k < l.length := by rw [← Hn.out]; exact hlt
        exact ⟨l[k], by simp [strL, this]⟩
      obtain ⟨b, off, rfl, hbs, c0⟩ := (Hr.out.below hb).get1 hx
      obtain ⟨b', off', rfl, hbs', d0⟩ := (Hs.out.below hb).get1 hx
      clear hx
      have hi0 : (0 : Int) ≤ (k : Int) := by omega
      have hi1 : (k : Int) < (n : Int) := by omega
      go_wp2_with fail
      refine wp_region_later (by kernel_rfl) (by kernel_rfl) ?_
      repeat (go_big_quiet_step (fail))
      refine wpQuiet_nil ?_
      refine later_intro fun w1 hb1 => ?_
      go_wp2
      go_roundw
      case rel => exact ⟨k + 1, by omega, by go_num, below_step hb hb1⟩
      case measure => simp [intOf]; omega
    · have hkn : ((k : Int) < (n : Int)) = False := by simp; omega
      go_wp2
      go_ret
      exact ⟨rfl, hb⟩

set_option maxHeartbeats 2000000 in
theorem qSay_any (A : Option Addr) (n c : Nat) (l : List ByteArray) (s : ByteArray) (w : World) (hn : n = l.length) (hm : n ≤ 1048576) (hr : Rd w A (strL l)) :
    Calls Tryd.prog 17 #[.slice A n c, .string s] w fun e w' => e = .returned (.bool (hasS l s)) ∧ Below w.heap.size w w' := by
  have Hn := hide hn
  have Hr := hide hr
  clear hn hr
  go_enter Tryd.func17, Tryd.ntmps17
  go_wp2_with fail
  go_loopw [9] (fun t wr => ∃ k : Nat, k ≤ n ∧ t = .int .i64 k ∧ Hid (hasS (l.take k) s = false) ∧ Below w.heap.size w wr) (fun t _ => n - (intOf t).toNat)
  case atStart => exact ⟨0, by omega, rfl, hide (by simp [hasS]), Below.refl _ _⟩
  case round =>
    obtain ⟨k, hk, rfl, HN, hb⟩ := hrel
    by_cases hlt : k < n
    · obtain ⟨x, hl⟩ : ∃ x, l[k]? = some x := ⟨_, List.getElem?_eq_getElem (by rw [← Hn.out]; exact hlt)⟩
      have hx : (strL l)[k]? = some (.string x) := by rw [strL, List.getElem?_map, hl]; rfl
      obtain ⟨b, off, rfl, hbs, c0⟩ := (Hr.out.below hb).get1 hx
      have HL := hide hl
      clear hx hl
      have hi0 : (0 : Int) ≤ (k : Int) := by omega
      have hi1 : (k : Int) < (n : Int) := by omega
      cases he : (x.toList == s.toList) with
      | true =>
        have HE := hide he
        go_wp2
        go_ret
        refine ⟨ret_bool ?_, hb⟩
        rw [hasS]
        exact (List.any_eq_true.2 ⟨x, List.mem_of_getElem? HL.out, HE.out⟩).symm
      | false =>
        have HE := hide he
        go_wp2
        go_roundw
        case rel => exact ⟨k + 1, by omega, by go_num, hide (by rw [List.take_add_one, HL.out, hasS_append, HN.out]; simp [hasS, HE.out]), hb⟩
        case measure => simp [intOf]; omega
    · have hkn : ((k : Int) < (n : Int)) = False := by simp; omega
      go_wp2
      go_ret
      exact ⟨ret_bool (by have h := HN.out; rw [List.take_of_length_le (by have := Hn.out; omega)] at h; exact h.symm), hb⟩
end Go.Proofs.YtpkhdmhfkmajcaaDoor

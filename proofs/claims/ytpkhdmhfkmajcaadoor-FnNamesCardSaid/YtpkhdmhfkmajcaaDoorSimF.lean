/- Similar roads: whether a text is in a list. -/
import Derived.Test.YtpkhdmhfkmajcaaDoorSimE
import Derived.Test.YtpkhdmhfkmajcaaDoorOwn
namespace Go.Proofs.YtpkhdmhfkmajcaaDoor
open Go.RowKit
set_option linter.unusedVariables false

def strL (L : List ByteArray) : List Value := L.map Value.string
theorem strL_append (A B : List ByteArray) : strL (A ++ B) = strL A ++ strL B := by simp [strL]
theorem strL_length (A : List ByteArray) : (strL A).length = A.length := by simp [strL]
theorem strL_get {L : List ByteArray} {i : Nat} {x : ByteArray} (h : L[i]? = some x) : (strL L)[i]? = some (.string x) := by simp [strL, h]
theorem hasS_at {L : List ByteArray} {s y : ByteArray} {k : Nat} (h : L[k]? = some y) (e : (y.toList == s.toList) = true) : hasS L s = true := List.any_eq_true.2 ⟨y, List.mem_of_getElem? h, e⟩
theorem hasS_none {L : List ByteArray} {s : ByteArray} (h : ∀ (i : Nat) (y : ByteArray), L[i]? = some y → (y.toList == s.toList) = false) : hasS L s = false := by
  rw [hasS, List.any_eq_false]
  intro y hy
  obtain ⟨i, hi⟩ := List.mem_iff_getElem?.1 hy
  simp [h i y hi]
theorem hasS_find {L : List ByteArray} {s : ByteArray} : decide (0 ≤ findI (fun y : ByteArray => y.toList == s.toList) L) = hasS L s := by
  rcases findI_cases (fun y : ByteArray => y.toList == s.toList) L with h | ⟨k, a, h, hk, hp⟩
  · rw [h, hasS_none]
    · simp
    · intro i y hy
      unfold findI at h
      cases hf : L.findIdx? (fun y : ByteArray => y.toList == s.toList) with
      | some q => rw [hf] at h; simp at h
      | none => exact List.findIdx?_eq_none_iff.1 hf y (List.mem_of_getElem? hy)
  · rw [h, hasS_at hk hp]; simp

set_option maxHeartbeats 1000000 in
theorem idxStrS_any (A : Option Addr) (n c : Nat) (L : List ByteArray) (x : ByteArray) (w : World) (hn : n = L.length) (hm : n ≤ 1048576) (hr : Rd w A (strL L)) :
    Calls Tryd.prog 57 #[.slice A n c, .string x] w fun e w' => e = .returned (.int .i64 (findI (fun y : ByteArray => y.toList == x.toList) L)) ∧ w = w' := by
  have Hn := hide hn
  have Hr := hide hr
  clear hn hr
  go_enter Tryd.func57, Tryd.ntmps57
  go_wp2_with fail
  go_loop [8] (fun t => ∃ k : Nat, k ≤ n ∧ t = .int .i64 k ∧ Hid (∀ (i : Nat) (y : ByteArray), i < k → L[i]? = some y → (y.toList == x.toList) = false)) (fun t => n - (intOf t).toNat)
  case atStart => exact ⟨0, by omega, rfl, hide (fun i y hi => absurd hi (by omega))⟩
  case round =>
    obtain ⟨k, hk, rfl, HA⟩ := hrel
    by_cases hlt : k < n
    · obtain ⟨y, hy⟩ : ∃ y, L[k]? = some y := ⟨_, List.getElem?_eq_getElem (by rw [← Hn.out]; exact hlt)⟩
      obtain ⟨b', off, rfl, hbs, c0⟩ := Hr.out.get1 (strL_get hy)
      have Hy := hide hy
      clear hy
      cases hxy : (y.toList == x.toList) with
      | true =>
        have g : (x.toList == y.toList) = true := by simpa using (by simpa using hxy : y.toList = x.toList).symm
        have HF : Hid (findI (fun y : ByteArray => y.toList == x.toList) L = (k : Nat)) := hide (findI_at Hy.out hxy (fun i b hi hb => HA.out i b hi hb))
        clear hxy
        go_wp2
        go_ret
        exact ⟨ret_int HF.out.symm, rfl⟩
      | false =>
        have g : (x.toList == y.toList) = false := by simpa using fun e => (by simpa using hxy : ¬ y.toList = x.toList) e.symm
        have HN : Hid (∀ (i : Nat) (z : ByteArray), i < k + 1 → L[i]? = some z → (z.toList == x.toList) = false) := hide (fun i z hi hz => by
          by_cases hi2 : i < k
          · exact HA.out i z hi2 hz
          · have hik : i = k := by omega
            rw [hik, Hy.out] at hz
            cases hz
            exact hxy)
        clear hxy
        go_wp2
        go_round
        case rel => exact ⟨k + 1, by omega, by go_num, HN⟩
        case measure => simp [intOf]; omega
    · go_wp2
      go_ret
      exact ⟨ret_int (findI_none (fun i y hy => HA.out i y (by have := (List.getElem?_eq_some_iff.1 hy).1; have := Hn.out; omega) hy)).symm, rfl⟩

set_option maxHeartbeats 1000000 in
theorem hasStr_any (A : Option Addr) (n c : Nat) (L : List ByteArray) (x : ByteArray) (w : World) (hn : n = L.length) (hm : n ≤ 1048576) (hr : Rd w A (strL L)) :
    Calls Tryd.prog 42 #[.slice A n c, .string x] w fun e w' => e = .returned (.bool (hasS L x)) ∧ w = w' := by
  have Q := hide (idxStrS_any A n c L x w hn hm hr)
  have HE := hide (hasS_find (L := L) (s := x))
  clear hn hr
  go_enter Tryd.func42, Tryd.ntmps42
  go_wp2_with (go_at_call 57; ((with_reducible refine (Q.out).mono ?_); rintro e w' ⟨rfl, rfl⟩))
  go_ret
  exact ⟨ret_bool HE.out, rfl⟩
end Go.Proofs.YtpkhdmhfkmajcaaDoor

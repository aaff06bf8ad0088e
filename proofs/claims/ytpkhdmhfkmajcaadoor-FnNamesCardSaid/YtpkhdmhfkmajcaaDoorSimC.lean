/- Similar names: the reference's test. -/
import Derived.Test.YtpkhdmhfkmajcaaDoorSimA
import Derived.Test.YtpkhdmhfkmajcaaDoorOwn
import Derived.Lib.SmallJoins
namespace Go.Proofs.YtpkhdmhfkmajcaaDoor
open Go.RowKit
set_option linter.unusedVariables false

theorem cat_data (a b : ByteArray) : (a ++ b).data.toList = a.data.toList ++ b.data.toList := by simp
theorem erase_data (b : ByteArray) (i : Nat) : (b.extract 0 i ++ b.extract (i + 1) b.size).toList = eraseB b.data.toList i := by
  rw [toList_data, cat_data, Lib.extract_data, Lib.extract_data, eraseB, List.drop_zero, Nat.sub_zero]
  congr 1
  rw [List.take_of_length_le (by simp)]
theorem lessL_no {a b : List UInt8} (h : ∀ i, i < b.length → ¬ eraseB b i = a) : lessL a b = false := by
  cases hc : lessL a b with
  | false => rfl
  | true =>
    obtain ⟨i, hi, he⟩ := lessL_iff.1 hc
    exact absurd he (h i hi)

set_option maxRecDepth 100000 in
set_option maxHeartbeats 4000000 in
theorem adLess_any (a b : ByteArray) (w : World) (ha : a.size ≤ 100) (hb : b.size ≤ 100) :
    Calls Tryd.prog 58 #[.string a, .string b] w fun e w' => e = .returned (.bool (lessL a.data.toList b.data.toList)) ∧ Below w.heap.size w w' := by
  go_enter Tryd.func58, Tryd.ntmps58
  go_wp2_with fail
  go_loopw [5] (fun t wr => ∃ i : Nat, i ≤ b.size ∧ t = .int .i64 i ∧ Hid (∀ j, j < i → ¬ eraseB b.data.toList j = a.data.toList) ∧ Hid (Below w.heap.size w wr)) (fun t _ => b.size - (intOf t).toNat)
  case atStart => exact ⟨0, by omega, rfl, hide (fun j hj => absurd hj (by omega)), hide (Below.refl _ _)⟩
  case round =>
    obtain ⟨i, hi, rfl, HA, HB⟩ := hrel
    by_cases hlt : i < b.size
    · have e1 : IntKind.i64.wrap ((i : Int) + 1) = (i : Int) + 1 := IntWalk.i64_in _ (by omega)
      have n1 : ((i : Int) + 1).toNat = i + 1 := by omega
      have p1 : (0 : Int) ≤ (i : Int) + 1 := by omega
      have l1 : (i : Int) + 1 ≤ (b.size : Int) := by omega
      have l2 : i + 1 ≤ b.size := by omega
      by_cases he : eraseB b.data.toList i = a.data.toList
      · have hE : ((b.extract 0 i ++ b.extract (i + 1) b.size).toList == a.toList) = true := by rw [erase_data, toList_data, he]; simp
        have HF := hide (show lessL a.data.toList b.data.toList = true from lessL_iff.2 ⟨i, by simpa using hlt, he⟩)
        clear he
        go_wp2_with fail
        refine wp_region_later (by kernel_rfl) (by kernel_rfl) ?_
        repeat (go_big_quiet_step (fail))
        refine wpQuiet_nil ?_
        refine later_intro fun w3 hb3 => ?_
        go_wp2
        go_ret
        exact ⟨ret_bool HF.out.symm, below_step HB.out hb3⟩
      · have hE : ((b.extract 0 i ++ b.extract (i + 1) b.size).toList == a.toList) = false := by rw [erase_data, toList_data]; simpa using he
        have HN := hide (show ∀ j, j < i + 1 → ¬ eraseB b.data.toList j = a.data.toList from fun j hj => by
          by_cases hj2 : j < i
          · exact HA.out j hj2
          · rw [show j = i by omega]; exact he)
        clear he
        go_wp2_with fail
        refine wp_region_later (by kernel_rfl) (by kernel_rfl) ?_
        repeat (go_big_quiet_step (fail))
        refine wpQuiet_nil ?_
        refine later_intro fun w3 hb3 => ?_
        have HB3 := hide (below_step HB.out hb3)
        clear hb3
        go_wp2
        go_roundw
        case rel => exact ⟨i + 1, by omega, by go_num, HN, HB3⟩
        case measure => simp [intOf]; omega
    · have HF := hide (show lessL a.data.toList b.data.toList = false from lessL_no (fun j hj => HA.out j (by simp at hj; omega)))
      go_wp2
      go_ret
      exact ⟨ret_bool HF.out.symm, HB.out⟩

end Go.Proofs.YtpkhdmhfkmajcaaDoor

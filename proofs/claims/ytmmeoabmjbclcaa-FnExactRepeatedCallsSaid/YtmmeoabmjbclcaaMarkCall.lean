/- What the laws' markCallS leaves. -/
import Derived.Test.YtmmeoabmjbclcaaOwn
import Derived.Test.YtmmeoabmjbclcaaSmall
namespace Go.Proofs.Ytmmeoabmjbclcaa
open Go.RowKit
set_option linter.unusedVariables false

set_option maxHeartbeats 4000000 in
theorem markCallS_any (g n c : Nat) (xs : List Value) (t : Int) (w : World) (h : Row w g xs) (hl : xs.length = n * 5) (hm : n ≤ 1048576) (h0 : 0 ≤ t) (h1 : t ≤ 1099511627776) :
    Calls Try.prog 14 #[.slice (some ⟨g, 0, none⟩) n c, .int .i64 t] w fun e w' => e = .returned (.int .i64 (t + 5 * n)) ∧ (∃ ys, Row w' g ys ∧ ys.length = n * 5) ∧ w.grownBy w' (some g) := by
  have H := hide h
  have HL := hide hl
  clear h hl
  go_enter Try.func14, Try.ntmps14
  go_wp2_with fail
  go_loopw [1, 5] (fun s i wr => ∃ k : Nat, k ≤ n ∧ s = .int .i64 (t + 5 * k) ∧ i = .int .i64 k ∧ Hid (∃ ys, Row wr g ys ∧ ys.length = n * 5) ∧ Hid (w.grownBy wr (some g))) (fun _ i _ => n - (intOf i).toNat)
  case atStart => exact ⟨0, by omega, by simp, rfl, hide ⟨_, H.out, HL.out⟩, hide (grown_refl _ _)⟩
  case round =>
    obtain ⟨k, hk, rfl, rfl, HX, HG⟩ := hrel
    by_cases hlt : k < n
    · obtain ⟨ys, hR, hyl⟩ := HX.out
      have HR := hide hR
      have H2 := hide (show ∀ j, j < 5 → k * 5 + j < ys.length from fun j hj => by rw [hyl]; have : (k + 1) * 5 ≤ n * 5 := Nat.mul_le_mul_right _ hlt; omega)
      have HY := hide hyl
      clear hR hyl
      obtain ⟨o0, q0⟩ := HR.out.there (j := k * 5) (by have := H2.out 0 (by omega); omega)
      have f0 := HR.out.free (k * 5)
      obtain ⟨o1, q1⟩ := HR.out.there (j := k * 5 + 1) (by have := H2.out 1 (by omega); omega)
      have f1 := HR.out.free (k * 5 + 1)
      obtain ⟨o2, q2⟩ := HR.out.there (j := k * 5 + 2) (by have := H2.out 2 (by omega); omega)
      have f2 := HR.out.free (k * 5 + 2)
      obtain ⟨o3, q3⟩ := HR.out.there (j := k * 5 + 3) (by have := H2.out 3 (by omega); omega)
      have f3 := HR.out.free (k * 5 + 3)
      obtain ⟨o4, q4⟩ := HR.out.there (j := k * 5 + 4) (by have := H2.out 4 (by omega); omega)
      have f4 := HR.out.free (k * 5 + 4)
      go_wp2
      go_roundw
      case rel => exact ⟨k + 1, by omega, by go_num <;> omega, by go_num, hide ⟨_, Row.set (Row.set (Row.set (Row.set (Row.set (HR.out) (by simpa using H2.out 0 (by omega)) _) (by simpa using H2.out 1 (by omega)) _) (by simpa using H2.out 2 (by omega)) _) (by simpa using H2.out 3 (by omega)) _) (by simpa using H2.out 4 (by omega)) _, by simpa using HY.out⟩, hide (grown_trans HG.out (grown_trans (grown_trans (grown_trans (grown_trans (grown_set _ rfl) (grown_set _ rfl)) (grown_set _ rfl)) (grown_set _ rfl)) (grown_set _ rfl)))⟩
      case measure => simp [intOf]; omega
    · have hkn : k = n := by omega
      subst hkn
      go_wp2
      go_ret
      exact ⟨rfl, HX.out, HG.out⟩
end Go.Proofs.Ytmmeoabmjbclcaa

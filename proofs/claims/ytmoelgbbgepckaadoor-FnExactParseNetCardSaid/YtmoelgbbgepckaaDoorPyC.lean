/- Several texts in one. What the laws' markMainS leaves. What the laws' markHydrantS leaves. What the laws' markMainS and heldMainS do to a row of the call's own. What the laws' markHydrantS and heldHydrantS do to a row of the call's own. -/
import Derived.Test.YtmoelgbbgepckaaDoorOwn
import Derived.Test.YtmoelgbbgepckaaDoorSmall
namespace Go.Proofs.YtmoelgbbgepckaaDoor
open Go.RowKit
set_option linter.unusedVariables false

set_option maxHeartbeats 4000000 in
theorem markMainS_any (g n c : Nat) (xs : List Value) (t : Int) (w : World) (h : Row w g xs) (hl : xs.length = n * 2) (hm : n ≤ 1048576) (h0 : 0 ≤ t) (h1 : t ≤ 1099511627776) :
    Calls Tryd.prog 94 #[.slice (some ⟨g, 0, none⟩) n c, .int .i64 t] w fun e w' => e = .returned (.int .i64 (t + 2 * n)) ∧ (∃ ys, Row w' g ys ∧ ys.length = n * 2) ∧ w.grownBy w' (some g) := by
  have H := hide h
  have HL := hide hl
  clear h hl
  go_enter Tryd.func94, Tryd.ntmps94
  go_wp2_with fail
  go_loopw [1, 5] (fun s i wr => ∃ k : Nat, k ≤ n ∧ s = .int .i64 (t + 2 * k) ∧ i = .int .i64 k ∧ Hid (∃ ys, Row wr g ys ∧ ys.length = n * 2) ∧ Hid (w.grownBy wr (some g))) (fun _ i _ => n - (intOf i).toNat)
  case atStart => exact ⟨0, by omega, by simp, rfl, hide ⟨_, H.out, HL.out⟩, hide (grown_refl _ _)⟩
  case round =>
    obtain ⟨k, hk, rfl, rfl, HX, HG⟩ := hrel
    by_cases hlt : k < n
    · obtain ⟨ys, hR, hyl⟩ := HX.out
      have HR := hide hR
      have H2 := hide (show ∀ j, j < 2 → k * 2 + j < ys.length from fun j hj => by rw [hyl]; have : (k + 1) * 2 ≤ n * 2 := Nat.mul_le_mul_right _ hlt; omega)
      have HY := hide hyl
      clear hR hyl
      obtain ⟨o0, q0⟩ := HR.out.there (j := k * 2) (by have := H2.out 0 (by omega); omega)
      have f0 := HR.out.free (k * 2)
      obtain ⟨o1, q1⟩ := HR.out.there (j := k * 2 + 1) (by have := H2.out 1 (by omega); omega)
      have f1 := HR.out.free (k * 2 + 1)
      go_wp2
      go_roundw
      case rel => exact ⟨k + 1, by omega, by go_num <;> omega, by go_num, hide ⟨_, Row.set (Row.set (HR.out) (by simpa using H2.out 0 (by omega)) _) (by simpa using H2.out 1 (by omega)) _, by simpa using HY.out⟩, hide (grown_trans HG.out (grown_trans (grown_set _ rfl) (grown_set _ rfl)))⟩
      case measure => simp [intOf]; omega
    · have hkn : k = n := by omega
      subst hkn
      go_wp2
      go_ret
      exact ⟨rfl, HX.out, HG.out⟩
end Go.Proofs.YtmoelgbbgepckaaDoor
namespace Go.Proofs.YtmoelgbbgepckaaDoor
open Go.RowKit
set_option linter.unusedVariables false

set_option maxHeartbeats 4000000 in
theorem markHydrantS_any (g n c : Nat) (xs : List Value) (t : Int) (w : World) (h : Row w g xs) (hl : xs.length = n * 2) (hm : n ≤ 1048576) (h0 : 0 ≤ t) (h1 : t ≤ 1099511627776) :
    Calls Tryd.prog 95 #[.slice (some ⟨g, 0, none⟩) n c, .int .i64 t] w fun e w' => e = .returned (.int .i64 (t + 2 * n)) ∧ (∃ ys, Row w' g ys ∧ ys.length = n * 2) ∧ w.grownBy w' (some g) := by
  have H := hide h
  have HL := hide hl
  clear h hl
  go_enter Tryd.func95, Tryd.ntmps95
  go_wp2_with fail
  go_loopw [1, 5] (fun s i wr => ∃ k : Nat, k ≤ n ∧ s = .int .i64 (t + 2 * k) ∧ i = .int .i64 k ∧ Hid (∃ ys, Row wr g ys ∧ ys.length = n * 2) ∧ Hid (w.grownBy wr (some g))) (fun _ i _ => n - (intOf i).toNat)
  case atStart => exact ⟨0, by omega, by simp, rfl, hide ⟨_, H.out, HL.out⟩, hide (grown_refl _ _)⟩
  case round =>
    obtain ⟨k, hk, rfl, rfl, HX, HG⟩ := hrel
    by_cases hlt : k < n
    · obtain ⟨ys, hR, hyl⟩ := HX.out
      have HR := hide hR
      have H2 := hide (show ∀ j, j < 2 → k * 2 + j < ys.length from fun j hj => by rw [hyl]; have : (k + 1) * 2 ≤ n * 2 := Nat.mul_le_mul_right _ hlt; omega)
      have HY := hide hyl
      clear hR hyl
      obtain ⟨o0, q0⟩ := HR.out.there (j := k * 2) (by have := H2.out 0 (by omega); omega)
      have f0 := HR.out.free (k * 2)
      obtain ⟨o1, q1⟩ := HR.out.there (j := k * 2 + 1) (by have := H2.out 1 (by omega); omega)
      have f1 := HR.out.free (k * 2 + 1)
      go_wp2
      go_roundw
      case rel => exact ⟨k + 1, by omega, by go_num <;> omega, by go_num, hide ⟨_, Row.set (Row.set (HR.out) (by simpa using H2.out 0 (by omega)) _) (by simpa using H2.out 1 (by omega)) _, by simpa using HY.out⟩, hide (grown_trans HG.out (grown_trans (grown_set _ rfl) (grown_set _ rfl)))⟩
      case measure => simp [intOf]; omega
    · have hkn : k = n := by omega
      subst hkn
      go_wp2
      go_ret
      exact ⟨rfl, HX.out, HG.out⟩
end Go.Proofs.YtmoelgbbgepckaaDoor
namespace Go.Proofs.YtmoelgbbgepckaaDoor
open Go.RowKit
set_option linter.unusedVariables false

set_option maxHeartbeats 4000000 in
theorem markMainS_own (B : Nat) (v : Value) (n : Nat) (xs : List Value) (t : Int) (w : World) (h : w.ownsRow B 120 2 v n xs) (hm : n ≤ 1048576) (h0 : 0 ≤ t) (h1 : t ≤ 1099511627776) :
    Calls Tryd.prog 94 #[v, .int .i64 t] w fun e w' => e = .returned (.int .i64 (t + 2 * n)) ∧ w'.ownsRow B 120 2 v n (marks t (n * 2)) ∧ w.grownBy w' v.ownBlock := by
  rcases h.2 with ⟨rfl, rfl⟩ | ⟨g, cap, cur, rfl, hg, hh, hn1, hn2, hn3, hn4⟩
  · have H := hide h
    clear h
    go_enter Tryd.func94, Tryd.ntmps94
    go_wp2_with fail
    go_loopw [1, 5] (fun s i wr => s = .int .i64 t ∧ i = .int .i64 0 ∧ wr = w) (fun _ _ _ => 0)
    case atStart => exact ⟨rfl, rfl, rfl⟩
    case round =>
      obtain ⟨rfl, rfl, rfl⟩ := hrel
      go_wp2
      go_ret
      exact ⟨ret_int (by simp), by simpa [marks] using (World.ownsRow_nil _ _ _ _), grown_refl _ _⟩
  · have H := hide h
    have hl : xs.length = n * 2 := h.1
    have HL := hide hl
    clear h hh hn3 hn4 hl
    go_enter Tryd.func94, Tryd.ntmps94
    go_wp2_with fail
    go_loopw [1, 5] (fun s i wr => ∃ k : Nat, k ≤ n ∧ s = .int .i64 (t + ((k * 2 : Nat) : Int)) ∧ i = .int .i64 k ∧ Hid (wr.ownsRow B 120 2 (.slice (some ⟨g, 0, none⟩) n cap) n (marks t (k * 2) ++ xs.drop (k * 2)) ∧ w.grownBy wr (some g))) (fun _ i _ => n - (intOf i).toNat)
    case atStart => exact ⟨0, by omega, by simp, rfl, hide ⟨by simpa [marks] using H.out, grown_refl _ _⟩⟩
    case round =>
      obtain ⟨k, hk, rfl, rfl, HR⟩ := hrel
      by_cases hlt : k < n
      · have hkm : k * 2 + 2 ≤ xs.length := by rw [HL.out]; have : (k + 1) * 2 ≤ n * 2 := Nat.mul_le_mul_right _ hlt; omega
        have hlen : (marks t (k * 2) ++ xs.drop (k * 2)).length = n * 2 := HR.out.1.1
        obtain ⟨u0, hu0⟩ : ∃ u, (marks t (k * 2) ++ xs.drop (k * 2))[k * 2]? = some u := ⟨_, List.getElem?_eq_getElem (by have := HL.out; omega)⟩
        have c0 := (HR.out.1.cellAt (k * 2) (by have := HL.out; omega)).trans hu0
        have f0 := HR.out.1.frozenAt (k * 2)
        obtain ⟨u1, hu1⟩ : ∃ u, (marks t (k * 2) ++ xs.drop (k * 2))[k * 2 + 1]? = some u := ⟨_, List.getElem?_eq_getElem (by have := HL.out; omega)⟩
        have c1 := (HR.out.1.cellAt (k * 2 + 1) (by have := HL.out; omega)).trans hu1
        have f1 := HR.out.1.frozenAt (k * 2 + 1)
        have HS := hide (World.ownsRow.stored ((World.ownsRow.stored (HR.out.1) (k * 2) (.int .i64 (t + ((k * 2 : Nat) : Int)))).1) (k * 2 + 1) (.int .i64 (t + ((k * 2 : Nat) : Int) + 1))).1
        have HG := hide HR.out.2
        have HM : Hid (((marks t (k * 2) ++ xs.drop (k * 2)).set (k * 2) (.int .i64 (t + ((k * 2 : Nat) : Int)))).set (k * 2 + 1) (.int .i64 (t + ((k * 2 : Nat) : Int) + 1)) = marks t ((k + 1) * 2) ++ xs.drop ((k + 1) * 2)) := hide (by
          have e0 := marks_set (t := t) (k := k * 2) (xs := xs) (by omega)
          have e1 := marks_set (t := t) (k := k * 2 + 1) (xs := xs) (by omega)
          rw [show (t + ((k * 2 + 1 : Nat) : Int)) = t + ((k * 2 : Nat) : Int) + 1 by omega] at e1
          rw [e0, e1, show (k + 1) * 2 = k * 2 + 1 + 1 by omega])
        clear HR hkm hlen hu0 hu1
        go_wp2
        go_roundw
        case rel =>
          refine ⟨k + 1, by omega, by go_num <;> omega, by go_num, hide ⟨?_, grown_trans (grown_trans (HG.out) (grown_set _ rfl)) (grown_set _ rfl)⟩⟩
          rw [← HM.out]
          exact HS.out
        case measure => simp [intOf]; omega
      · have hkn : k = n := by omega
        subst hkn
        go_wp2
        go_ret
        refine ⟨ret_int (by omega), ?_, HR.out.2⟩
        have := HR.out.1
        rwa [List.drop_eq_nil_of_le (by rw [HL.out]; exact Nat.le_refl _), List.append_nil] at this

set_option maxHeartbeats 4000000 in
theorem heldMainS_any (A : Option Addr) (n c : Nat) (t : Int) (w : World) (h : Rd w A (marks t (n * 2))) (hm : n ≤ 1048576) (h0 : 0 ≤ t) (h1 : t ≤ 1099511627776) :
    Calls Tryd.prog 96 #[.slice A n c, .int .i64 t] w fun e w' => e = .returned (.int .i64 (t + 2 * n)) ∧ w = w' := by
  have H := hide h
  clear h
  go_enter Tryd.func96, Tryd.ntmps96
  go_wp2_with fail
  go_loop [1, 5] (fun s i => ∃ k : Nat, k ≤ n ∧ s = .int .i64 (t + ((k * 2 : Nat) : Int)) ∧ i = .int .i64 k) (fun _ i => n - (intOf i).toNat)
  case atStart => exact ⟨0, by omega, by simp, rfl⟩
  case round =>
    obtain ⟨k, hk, rfl, rfl⟩ := hrel
    by_cases hlt : k < n
    · have hkm : k * 2 + 2 ≤ n * 2 := by have : (k + 1) * 2 ≤ n * 2 := Nat.mul_le_mul_right _ hlt; omega
      obtain ⟨b, off, rfl, hbs, hc⟩ := H.out.at_ (k := k * 2) (by rw [marks_length]; omega)
      have c0 : w.cell? ⟨b, off + k * 2, none⟩ = some (.int .i64 (t + ((k * 2 : Nat) : Int))) := by
        have := hc (k * 2) _ (marks_get (by omega))
        rw [show (t + ((k * 2 : Nat) : Int)) = t + ((k * 2 : Nat) : Int) by omega] at this
        exact this
      have c1 : w.cell? ⟨b, off + k * 2 + 1, none⟩ = some (.int .i64 (t + ((k * 2 : Nat) : Int) + 1)) := by
        have := hc (k * 2 + 1) _ (marks_get (by omega))
        rw [show (t + ((k * 2 + 1 : Nat) : Int)) = t + ((k * 2 : Nat) : Int) + 1 by omega] at this
        exact this
      clear hc hkm
      go_wp2
      go_round
      case rel => exact ⟨k + 1, by omega, by go_num <;> omega, by go_num⟩
      case measure => simp [intOf]; omega
    · have hkn : k = n := by omega
      subst hkn
      go_wp2
      go_ret
      exact ⟨ret_int (by omega), rfl⟩
end Go.Proofs.YtmoelgbbgepckaaDoor
namespace Go.Proofs.YtmoelgbbgepckaaDoor
open Go.RowKit
set_option linter.unusedVariables false

set_option maxHeartbeats 4000000 in
theorem markHydrantS_own (B : Nat) (v : Value) (n : Nat) (xs : List Value) (t : Int) (w : World) (h : w.ownsRow B 118 2 v n xs) (hm : n ≤ 1048576) (h0 : 0 ≤ t) (h1 : t ≤ 1099511627776) :
    Calls Tryd.prog 95 #[v, .int .i64 t] w fun e w' => e = .returned (.int .i64 (t + 2 * n)) ∧ w'.ownsRow B 118 2 v n (marks t (n * 2)) ∧ w.grownBy w' v.ownBlock := by
  rcases h.2 with ⟨rfl, rfl⟩ | ⟨g, cap, cur, rfl, hg, hh, hn1, hn2, hn3, hn4⟩
  · have H := hide h
    clear h
    go_enter Tryd.func95, Tryd.ntmps95
    go_wp2_with fail
    go_loopw [1, 5] (fun s i wr => s = .int .i64 t ∧ i = .int .i64 0 ∧ wr = w) (fun _ _ _ => 0)
    case atStart => exact ⟨rfl, rfl, rfl⟩
    case round =>
      obtain ⟨rfl, rfl, rfl⟩ := hrel
      go_wp2
      go_ret
      exact ⟨ret_int (by simp), by simpa [marks] using (World.ownsRow_nil _ _ _ _), grown_refl _ _⟩
  · have H := hide h
    have hl : xs.length = n * 2 := h.1
    have HL := hide hl
    clear h hh hn3 hn4 hl
    go_enter Tryd.func95, Tryd.ntmps95
    go_wp2_with fail
    go_loopw [1, 5] (fun s i wr => ∃ k : Nat, k ≤ n ∧ s = .int .i64 (t + ((k * 2 : Nat) : Int)) ∧ i = .int .i64 k ∧ Hid (wr.ownsRow B 118 2 (.slice (some ⟨g, 0, none⟩) n cap) n (marks t (k * 2) ++ xs.drop (k * 2)) ∧ w.grownBy wr (some g))) (fun _ i _ => n - (intOf i).toNat)
    case atStart => exact ⟨0, by omega, by simp, rfl, hide ⟨by simpa [marks] using H.out, grown_refl _ _⟩⟩
    case round =>
      obtain ⟨k, hk, rfl, rfl, HR⟩ := hrel
      by_cases hlt : k < n
      · have hkm : k * 2 + 2 ≤ xs.length := by rw [HL.out]; have : (k + 1) * 2 ≤ n * 2 := Nat.mul_le_mul_right _ hlt; omega
        have hlen : (marks t (k * 2) ++ xs.drop (k * 2)).length = n * 2 := HR.out.1.1
        obtain ⟨u0, hu0⟩ : ∃ u, (marks t (k * 2) ++ xs.drop (k * 2))[k * 2]? = some u := ⟨_, List.getElem?_eq_getElem (by have := HL.out; omega)⟩
        have c0 := (HR.out.1.cellAt (k * 2) (by have := HL.out; omega)).trans hu0
        have f0 := HR.out.1.frozenAt (k * 2)
        obtain ⟨u1, hu1⟩ : ∃ u, (marks t (k * 2) ++ xs.drop (k * 2))[k * 2 + 1]? = some u := ⟨_, List.getElem?_eq_getElem (by have := HL.out; omega)⟩
        have c1 := (HR.out.1.cellAt (k * 2 + 1) (by have := HL.out; omega)).trans hu1
        have f1 := HR.out.1.frozenAt (k * 2 + 1)
        have HS := hide (World.ownsRow.stored ((World.ownsRow.stored (HR.out.1) (k * 2) (.int .i64 (t + ((k * 2 : Nat) : Int)))).1) (k * 2 + 1) (.int .i64 (t + ((k * 2 : Nat) : Int) + 1))).1
        have HG := hide HR.out.2
        have HM : Hid (((marks t (k * 2) ++ xs.drop (k * 2)).set (k * 2) (.int .i64 (t + ((k * 2 : Nat) : Int)))).set (k * 2 + 1) (.int .i64 (t + ((k * 2 : Nat) : Int) + 1)) = marks t ((k + 1) * 2) ++ xs.drop ((k + 1) * 2)) := hide (by
          have e0 := marks_set (t := t) (k := k * 2) (xs := xs) (by omega)
          have e1 := marks_set (t := t) (k := k * 2 + 1) (xs := xs) (by omega)
          rw [show (t + ((k * 2 + 1 : Nat) : Int)) = t + ((k * 2 : Nat) : Int) + 1 by omega] at e1
          rw [e0, e1, show (k + 1) * 2 = k * 2 + 1 + 1 by omega])
        clear HR hkm hlen hu0 hu1
        go_wp2
        go_roundw
        case rel =>
          refine ⟨k + 1, by omega, by go_num <;> omega, by go_num, hide ⟨?_, grown_trans (grown_trans (HG.out) (grown_set _ rfl)) (grown_set _ rfl)⟩⟩
          rw [← HM.out]
          exact HS.out
        case measure => simp [intOf]; omega
      · have hkn : k = n := by omega
        subst hkn
        go_wp2
        go_ret
        refine ⟨ret_int (by omega), ?_, HR.out.2⟩
        have := HR.out.1
        rwa [List.drop_eq_nil_of_le (by rw [HL.out]; exact Nat.le_refl _), List.append_nil] at this

set_option maxHeartbeats 4000000 in
theorem heldHydrantS_any (A : Option Addr) (n c : Nat) (t : Int) (w : World) (h : Rd w A (marks t (n * 2))) (hm : n ≤ 1048576) (h0 : 0 ≤ t) (h1 : t ≤ 1099511627776) :
    Calls Tryd.prog 97 #[.slice A n c, .int .i64 t] w fun e w' => e = .returned (.int .i64 (t + 2 * n)) ∧ w = w' := by
  have H := hide h
  clear h
  go_enter Tryd.func97, Tryd.ntmps97
  go_wp2_with fail
  go_loop [1, 5] (fun s i => ∃ k : Nat, k ≤ n ∧ s = .int .i64 (t + ((k * 2 : Nat) : Int)) ∧ i = .int .i64 k) (fun _ i => n - (intOf i).toNat)
  case atStart => exact ⟨0, by omega, by simp, rfl⟩
  case round =>
    obtain ⟨k, hk, rfl, rfl⟩ := hrel
    by_cases hlt : k < n
    · have hkm : k * 2 + 2 ≤ n * 2 := by have : (k + 1) * 2 ≤ n * 2 := Nat.mul_le_mul_right _ hlt; omega
      obtain ⟨b, off, rfl, hbs, hc⟩ := H.out.at_ (k := k * 2) (by rw [marks_length]; omega)
      have c0 : w.cell? ⟨b, off + k * 2, none⟩ = some (.int .i64 (t + ((k * 2 : Nat) : Int))) := by
        have := hc (k * 2) _ (marks_get (by omega))
        rw [show (t + ((k * 2 : Nat) : Int)) = t + ((k * 2 : Nat) : Int) by omega] at this
        exact this
      have c1 : w.cell? ⟨b, off + k * 2 + 1, none⟩ = some (.int .i64 (t + ((k * 2 : Nat) : Int) + 1)) := by
        have := hc (k * 2 + 1) _ (marks_get (by omega))
        rw [show (t + ((k * 2 + 1 : Nat) : Int)) = t + ((k * 2 : Nat) : Int) + 1 by omega] at this
        exact this
      clear hc hkm
      go_wp2
      go_round
      case rel => exact ⟨k + 1, by omega, by go_num <;> omega, by go_num⟩
      case measure => simp [intOf]; omega
    · have hkn : k = n := by omega
      subst hkn
      go_wp2
      go_ret
      exact ⟨ret_int (by omega), rfl⟩
end Go.Proofs.YtmoelgbbgepckaaDoor

/- What the laws' markStreetS and heldStreetS do to a row of the call's own. -/
import Derived.Test.YtnbiknaihogknaaDoorOwn
import Derived.Test.YtnbiknaihogknaaDoorSmall
namespace Go.Proofs.YtnbiknaihogknaaDoor
open Go.RowKit
set_option linter.unusedVariables false

set_option maxHeartbeats 4000000 in
theorem markStreetS_own (B : Nat) (v : Value) (n : Nat) (xs : List Value) (t : Int) (w : World) (h : w.ownsRow B 34 3 v n xs) (hm : n ≤ 1048576) (h0 : 0 ≤ t) (h1 : t ≤ 1099511627776) :
    Calls Tryd.prog 16 #[v, .int .i64 t] w fun e w' => e = .returned (.int .i64 (t + 3 * n)) ∧ w'.ownsRow B 34 3 v n (marks t (n * 3)) ∧ w.grownBy w' v.ownBlock := by
  rcases h.2 with ⟨rfl, rfl⟩ | ⟨g, cap, cur, rfl, hg, hh, hn1, hn2, hn3, hn4⟩
  · have H := hide h
    clear h
    go_enter Tryd.func16, Tryd.ntmps16
    go_wp2_with fail
    go_loopw [1, 5] (fun s i wr => s = .int .i64 t ∧ i = .int .i64 0 ∧ wr = w) (fun _ _ _ => 0)
    case atStart => exact ⟨rfl, rfl, rfl⟩
    case round =>
      obtain ⟨rfl, rfl, rfl⟩ := hrel
      go_wp2
      go_ret
      exact ⟨ret_int (by simp), by simpa [marks] using (World.ownsRow_nil _ _ _ _), grown_refl _ _⟩
  · have H := hide h
    have hl : xs.length = n * 3 := h.1
    have HL := hide hl
    clear h hh hn3 hn4 hl
    go_enter Tryd.func16, Tryd.ntmps16
    go_wp2_with fail
    go_loopw [1, 5] (fun s i wr => ∃ k : Nat, k ≤ n ∧ s = .int .i64 (t + ((k * 3 : Nat) : Int)) ∧ i = .int .i64 k ∧ Hid (wr.ownsRow B 34 3 (.slice (some ⟨g, 0, none⟩) n cap) n (marks t (k * 3) ++ xs.drop (k * 3)) ∧ w.grownBy wr (some g))) (fun _ i _ => n - (intOf i).toNat)
    case atStart => exact ⟨0, by omega, by simp, rfl, hide ⟨by simpa [marks] using H.out, grown_refl _ _⟩⟩
    case round =>
      obtain ⟨k, hk, rfl, rfl, HR⟩ := hrel
      by_cases hlt : k < n
      · have hkm : k * 3 + 3 ≤ xs.length := by rw [HL.out]; have : (k + 1) * 3 ≤ n * 3 := Nat.mul_le_mul_right _ hlt; omega
        have hlen : (marks t (k * 3) ++ xs.drop (k * 3)).length = n * 3 := HR.out.1.1
        obtain ⟨u0, hu0⟩ : ∃ u, (marks t (k * 3) ++ xs.drop (k * 3))[k * 3]? = some u := ⟨_, List.getElem?_eq_getElem (by have := HL.out; omega)⟩
        have c0 := (HR.out.1.cellAt (k * 3) (by have := HL.out; omega)).trans hu0
        have f0 := HR.out.1.frozenAt (k * 3)
        obtain ⟨u1, hu1⟩ : ∃ u, (marks t (k * 3) ++ xs.drop (k * 3))[k * 3 + 1]? = some u := ⟨_, List.getElem?_eq_getElem (by have := HL.out; omega)⟩
        have c1 := (HR.out.1.cellAt (k * 3 + 1) (by have := HL.out; omega)).trans hu1
        have f1 := HR.out.1.frozenAt (k * 3 + 1)
        obtain ⟨u2, hu2⟩ : ∃ u, (marks t (k * 3) ++ xs.drop (k * 3))[k * 3 + 2]? = some u := ⟨_, List.getElem?_eq_getElem (by have := HL.out; omega)⟩
        have c2 := (HR.out.1.cellAt (k * 3 + 2) (by have := HL.out; omega)).trans hu2
        have f2 := HR.out.1.frozenAt (k * 3 + 2)
        have HS := hide (World.ownsRow.stored ((World.ownsRow.stored ((World.ownsRow.stored (HR.out.1) (k * 3) (.int .i64 (t + ((k * 3 : Nat) : Int)))).1) (k * 3 + 1) (.int .i64 (t + ((k * 3 : Nat) : Int) + 1))).1) (k * 3 + 2) (.int .i64 (t + ((k * 3 : Nat) : Int) + 1 + 1))).1
        have HG := hide HR.out.2
        have HM : Hid ((((marks t (k * 3) ++ xs.drop (k * 3)).set (k * 3) (.int .i64 (t + ((k * 3 : Nat) : Int)))).set (k * 3 + 1) (.int .i64 (t + ((k * 3 : Nat) : Int) + 1))).set (k * 3 + 2) (.int .i64 (t + ((k * 3 : Nat) : Int) + 1 + 1)) = marks t ((k + 1) * 3) ++ xs.drop ((k + 1) * 3)) := hide (by
          have e0 := marks_set (t := t) (k := k * 3) (xs := xs) (by omega)
          have e1 := marks_set (t := t) (k := k * 3 + 1) (xs := xs) (by omega)
          rw [show (t + ((k * 3 + 1 : Nat) : Int)) = t + ((k * 3 : Nat) : Int) + 1 by omega] at e1
          have e2 := marks_set (t := t) (k := k * 3 + 2) (xs := xs) (by omega)
          rw [show (t + ((k * 3 + 2 : Nat) : Int)) = t + ((k * 3 : Nat) : Int) + 1 + 1 by omega] at e2
          rw [e0, e1, e2, show (k + 1) * 3 = k * 3 + 2 + 1 by omega])
        clear HR hkm hlen hu0 hu1 hu2
        go_wp2
        go_roundw
        case rel =>
          refine ⟨k + 1, by omega, by go_num <;> omega, by go_num, hide ⟨?_, grown_trans (grown_trans (grown_trans (HG.out) (grown_set _ rfl)) (grown_set _ rfl)) (grown_set _ rfl)⟩⟩
          rw [← HM.out]
          exact HS.out
        case measure => simp [intOf]; omega
      · have hkn : k = n := by omega
        subst hkn
        go_wp2
        go_ret
        refine ⟨ret_int (by omega), ?_, HR.out.2⟩
        have := HR.out.1
        rwa [List.drop_eq_nil_of_le (by rw [HL.out]; exact Nat.le_refl _), List.append_nil] at this

set_option maxHeartbeats 4000000 in
theorem heldStreetS_any (A : Option Addr) (n c : Nat) (t : Int) (w : World) (h : Rd w A (marks t (n * 3))) (hm : n ≤ 1048576) (h0 : 0 ≤ t) (h1 : t ≤ 1099511627776) :
    Calls Tryd.prog 17 #[.slice A n c, .int .i64 t] w fun e w' => e = .returned (.int .i64 (t + 3 * n)) ∧ w = w' := by
  have H := hide h
  clear h
  go_enter Tryd.func17, Tryd.ntmps17
  go_wp2_with fail
  go_loop [1, 5] (fun s i => ∃ k : Nat, k ≤ n ∧ s = .int .i64 (t + ((k * 3 : Nat) : Int)) ∧ i = .int .i64 k) (fun _ i => n - (intOf i).toNat)
  case atStart => exact ⟨0, by omega, by simp, rfl⟩
  case round =>
    obtain ⟨k, hk, rfl, rfl⟩ := hrel
    by_cases hlt : k < n
    · have hkm : k * 3 + 3 ≤ n * 3 := by have : (k + 1) * 3 ≤ n * 3 := Nat.mul_le_mul_right _ hlt; omega
      obtain ⟨b, off, rfl, hbs, hc⟩ := H.out.at_ (k := k * 3) (by rw [marks_length]; omega)
      have c0 : w.cell? ⟨b, off + k * 3, none⟩ = some (.int .i64 (t + ((k * 3 : Nat) : Int))) := by
        have := hc (k * 3) _ (marks_get (by omega))
        rw [show (t + ((k * 3 : Nat) : Int)) = t + ((k * 3 : Nat) : Int) by omega] at this
        exact this
      have c1 : w.cell? ⟨b, off + k * 3 + 1, none⟩ = some (.int .i64 (t + ((k * 3 : Nat) : Int) + 1)) := by
        have := hc (k * 3 + 1) _ (marks_get (by omega))
        rw [show (t + ((k * 3 + 1 : Nat) : Int)) = t + ((k * 3 : Nat) : Int) + 1 by omega] at this
        exact this
      have c2 : w.cell? ⟨b, off + k * 3 + 2, none⟩ = some (.int .i64 (t + ((k * 3 : Nat) : Int) + 1 + 1)) := by
        have := hc (k * 3 + 2) _ (marks_get (by omega))
        rw [show (t + ((k * 3 + 2 : Nat) : Int)) = t + ((k * 3 : Nat) : Int) + 1 + 1 by omega] at this
        exact this
      clear hc hkm
      go_wp2
      go_round
      case rel => exact ⟨k + 1, by omega, by go_num <;> omega, by go_num⟩
      case measure => simp [intOf]; omega
    · have hkn : k = n := by omega
      subst hkn
      go_wp2
      go_ret
      exact ⟨ret_int (by omega), rfl⟩
end Go.Proofs.YtnbiknaihogknaaDoor

/- What the laws' markStretchS and heldStretchS do to a row of the call's own. -/
import Derived.Test.YtobdebagijmkjaaOwn
import Derived.Test.YtobdebagijmkjaaSmall
import Derived.Test.YtobdebagijmkjaaMarkText
namespace Go.Proofs.Ytobdebagijmkjaa
open Go.RowKit
set_option linter.unusedVariables false

def mk5 (t : Int) (i : Nat) : List Value := [.string (mtext (t + 5 * (i : Int)).toNat), .int .i64 (t + 5 * (i : Int) + 1), .int .i64 (t + 5 * (i : Int) + 1 + 1), .int .i64 (t + 5 * (i : Int) + 1 + 1 + 1), .int .i64 (t + 5 * (i : Int) + 1 + 1 + 1 + 1)]
def marks5 (t : Int) (n : Nat) : List Value := (List.range n).flatMap (mk5 t)
theorem marks5_length (t : Int) (n : Nat) : (marks5 t n).length = n * 5 := by rw [marks5, flat_length (mk5 t) 5 (fun _ => rfl), List.length_range, Nat.mul_comm]
theorem range_get {n k : Nat} (h : k < n) : (List.range n)[k]? = some k := by simp [h]
theorem marks5_set {t : Int} {k n : Nat} {xs : List Value} (hl : xs.length = n * 5) (hk : k < n) :
    (((((marks5 t k ++ xs.drop (k * 5)).set (k * 5) (.string (mtext (t + 5 * (k : Int)).toNat))).set (k * 5 + 1) (.int .i64 (t + 5 * (k : Int) + 1))).set (k * 5 + 2) (.int .i64 (t + 5 * (k : Int) + 1 + 1))).set (k * 5 + 3) (.int .i64 (t + 5 * (k : Int) + 1 + 1 + 1))).set (k * 5 + 4) (.int .i64 (t + 5 * (k : Int) + 1 + 1 + 1 + 1)) = marks5 t (k + 1) ++ xs.drop ((k + 1) * 5) := by
  have h1 : (k + 1) * 5 ≤ n * 5 := Nat.mul_le_mul_right _ hk
  rw [set_run5 _ _ k (marks5_length t k) (by rw [List.length_drop, hl]; omega), List.drop_drop, show k * 5 + 5 = (k + 1) * 5 by omega]
  simp [marks5, List.range_succ, mk5]

set_option maxHeartbeats 4000000 in
theorem markStretchS_own (B : Nat) (v : Value) (n : Nat) (xs : List Value) (t : Int) (w : World) (h : w.ownsRow B 35 5 v n xs) (hm : n ≤ 1048576) (h0 : 1 ≤ t) (h1 : t ≤ 1000) :
    Calls Try.prog 12 #[v, .int .i64 t] w fun e w' => e = .returned (.int .i64 (t + 5 * n)) ∧ w'.ownsRow B 35 5 v n (marks5 t n) ∧ w.grownBy w' v.ownBlock := by
  rcases h.2 with ⟨rfl, rfl⟩ | ⟨g, cap, cur, rfl, hg, hh, hn1, hn2, hn3, hn4⟩
  · have H := hide h
    clear h
    go_enter Try.func12, Try.ntmps12
    go_wp2_with fail
    go_loopw [1, 5] (fun s i wr => s = .int .i64 t ∧ i = .int .i64 0 ∧ wr = w) (fun _ _ _ => 0)
    case atStart => exact ⟨rfl, rfl, rfl⟩
    case round =>
      obtain ⟨rfl, rfl, rfl⟩ := hrel
      go_wp2
      go_ret
      exact ⟨ret_int (by simp), by simpa [marks5] using (World.ownsRow_nil _ _ _ _), grown_refl _ _⟩
  · have H := hide h
    have hl : xs.length = n * 5 := h.1
    have HL := hide hl
    clear h hh hn3 hn4 hl
    go_enter Try.func12, Try.ntmps12
    go_wp2_with fail
    go_loopw [1, 5] (fun s i wr => ∃ k : Nat, k ≤ n ∧ s = .int .i64 (t + 5 * k) ∧ i = .int .i64 k ∧ Hid (wr.ownsRow B 35 5 (.slice (some ⟨g, 0, none⟩) n cap) n (marks5 t k ++ xs.drop (k * 5)) ∧ w.grownBy wr (some g))) (fun _ i _ => n - (intOf i).toNat)
    case atStart => exact ⟨0, by omega, by simp, rfl, hide ⟨by simpa [marks5] using H.out, grown_refl _ _⟩⟩
    case round =>
      obtain ⟨k, hk, rfl, rfl, HR⟩ := hrel
      by_cases hlt : k < n
      · have hkm : k * 5 + 5 ≤ n * 5 := by have : (k + 1) * 5 ≤ n * 5 := Nat.mul_le_mul_right _ hlt; omega
        have hlen : (marks5 t k ++ xs.drop (k * 5)).length = n * 5 := HR.out.1.1
        have HU := hide (show ∀ j, j < 5 → ∃ u, (marks5 t k ++ xs.drop (k * 5))[k * 5 + j]? = some u from fun j hj => ⟨_, List.getElem?_eq_getElem (by omega)⟩)
        have HLEN := hide hlen
        have HKM := hide hkm
        clear hlen hkm
        go_wp2_with fail
        refine (markTextZ_any (t + 5 * k) _ (by omega) (by omega)).mono ?_
        rintro e w1 ⟨rfl, hb1⟩
        have HR1 := hide (own_below HR.out.1 hb1)
        have HG := hide (grown_trans HR.out.2 (grown_of_below hb1 (some g)))
        clear hb1
        obtain ⟨u0, hu0⟩ := HU.out 0 (by omega)
        obtain ⟨u1, hu1⟩ := HU.out 1 (by omega)
        obtain ⟨u2, hu2⟩ := HU.out 2 (by omega)
        obtain ⟨u3, hu3⟩ := HU.out 3 (by omega)
        obtain ⟨u4, hu4⟩ := HU.out 4 (by omega)
        have c0 := (HR1.out.cellAt (k * 5) (by have := HKM.out; have := HLEN.out; omega)).trans hu0
        have c1 := (HR1.out.cellAt (k * 5 + 1) (by have := HKM.out; have := HLEN.out; omega)).trans hu1
        have c2 := (HR1.out.cellAt (k * 5 + 2) (by have := HKM.out; have := HLEN.out; omega)).trans hu2
        have c3 := (HR1.out.cellAt (k * 5 + 3) (by have := HKM.out; have := HLEN.out; omega)).trans hu3
        have c4 := (HR1.out.cellAt (k * 5 + 4) (by have := HKM.out; have := HLEN.out; omega)).trans hu4
        have f0 := HR1.out.frozenAt (k * 5)
        have f1 := HR1.out.frozenAt (k * 5 + 1)
        have f2 := HR1.out.frozenAt (k * 5 + 2)
        have f3 := HR1.out.frozenAt (k * 5 + 3)
        have f4 := HR1.out.frozenAt (k * 5 + 4)
        have HM := hide (marks5_set (t := t) (k := k) (n := n) (xs := xs) HL.out hlt)
        have HS := hide (World.ownsRow.stored ((World.ownsRow.stored ((World.ownsRow.stored ((World.ownsRow.stored ((World.ownsRow.stored (HR1.out) (k * 5) (.string (mtext (t + 5 * (k : Int)).toNat))).1) (k * 5 + 1) (.int .i64 (t + 5 * (k : Int) + 1))).1) (k * 5 + 2) (.int .i64 (t + 5 * (k : Int) + 1 + 1))).1) (k * 5 + 3) (.int .i64 (t + 5 * (k : Int) + 1 + 1 + 1))).1) (k * 5 + 4) (.int .i64 (t + 5 * (k : Int) + 1 + 1 + 1 + 1))).1
        clear HR HR1 HU hu0 hu1 hu2 hu3 hu4
        generalize mtext (t + 5 * (k : Int)).toNat = mt at *
        go_wp2
        go_roundw
        case rel =>
          refine ⟨k + 1, by omega, by go_num <;> omega, by go_num, hide ⟨?_, grown_trans HG.out (grown_trans (grown_trans (grown_trans (grown_trans (grown_set _ rfl) (grown_set _ rfl)) (grown_set _ rfl)) (grown_set _ rfl)) (grown_set _ rfl))⟩⟩
          rw [← HM.out]
          exact HS.out
        case measure => simp [intOf]; omega
      · have hkn : k = n := by omega
        subst hkn
        go_wp2
        go_ret
        refine ⟨rfl, ?_, HR.out.2⟩
        have := HR.out.1
        rwa [List.drop_eq_nil_of_le (by rw [HL.out]; exact Nat.le_refl _), List.append_nil] at this

set_option maxHeartbeats 4000000 in
theorem heldStretchS_any (A : Option Addr) (n c : Nat) (t : Int) (w : World) (h : Rd w A (marks5 t n)) (hm : n ≤ 1048576) (h0 : 1 ≤ t) (h1 : t ≤ 1000) :
    Calls Try.prog 13 #[.slice A n c, .int .i64 t] w fun e w' => e = .returned (.int .i64 (t + 5 * n)) ∧ Below w.heap.size w w' := by
  have H := hide h
  clear h
  go_enter Try.func13, Try.ntmps13
  go_wp2_with fail
  go_loopw [1, 5] (fun s i wr => ∃ k : Nat, k ≤ n ∧ s = .int .i64 (t + 5 * k) ∧ i = .int .i64 k ∧ Hid (Below w.heap.size w wr)) (fun _ i _ => n - (intOf i).toNat)
  case atStart => exact ⟨0, by omega, by simp, rfl, hide (Below.refl _ _)⟩
  case round =>
    obtain ⟨k, hk, rfl, rfl, HB⟩ := hrel
    by_cases hlt : k < n
    · obtain ⟨b, off, rfl, hbs, c0, c1, c2, c3, c4⟩ := (H.out.below HB.out).get5 (f := mk5 t) (fun _ => rfl) (range_get hlt) rfl
      have QM := hide (fun W => markTextZ_any (t + 5 * k) W (by omega) (by omega))
      have hi0 : (0 : Int) ≤ (k : Int) := by omega
      have hi1 : (k : Int) < (n : Int) := by omega
      generalize mtext (t + 5 * (k : Int)).toNat = mt at *
      go_wp2_with fail
      refine wp_region_later (by kernel_rfl) (by kernel_rfl) ?_
      repeat (go_big_quiet_step ((go_at_call 48; exact calls_later (QM.out _))))
      refine wpQuiet_nil ?_
      refine later_intro fun w1 hb1 => ?_
      have HB1 := hide (below_step HB.out hb1)
      replace c1 := cell_on c1 hb1
      replace c2 := cell_on c2 hb1
      replace c3 := cell_on c3 hb1
      replace c4 := cell_on c4 hb1
      clear hb1 c0 hbs QM
      go_wp2
      go_roundw
      case rel => exact ⟨k + 1, by omega, by go_num <;> omega, by go_num, HB1⟩
      case measure => simp [intOf]; omega
    · have hkn : k = n := by omega
      subst hkn
      go_wp2
      go_ret
      exact ⟨rfl, HB.out⟩
end Go.Proofs.Ytobdebagijmkjaa

/- The search by compareStreets. -/
import Derived.Test.YtbhnaakknfienaaGreatDoorTownZ
namespace Go.Proofs.YtbhnaakknfienaaGreatDoor
open Go.RowKit
set_option linter.unusedVariables false

theorem cmpS_neg (x s : StT) : decide (cmpS x s < 0) = befB x s := by
  have h := cmpS_bef x s
  by_cases hc : 0 ≤ cmpS x s
  · rw [decide_eq_true hc] at h
    rw [decide_eq_false (by omega)]
    cases hb : befB x s with
    | false => rfl
    | true => rw [hb] at h; cases h
  · rw [decide_eq_false hc] at h
    rw [decide_eq_true (by omega)]
    cases hb : befB x s with
    | true => rfl
    | false => rw [hb] at h; cases h
/-- Where the search ends. -/
def SrchAt (l : List StT) (s : StT) (k : Nat) : Prop := k ≤ l.length ∧ (∀ x, 0 < k → l[k - 1]? = some x → befB x s = true) ∧ (∀ x, l[k]? = some x → befB x s = false)

set_option maxRecDepth 100000 in
set_option maxHeartbeats 4000000 in
theorem search_any (A : Option Addr) (n c : Nat) (l : List StT) (s0 s1 s2 : Int) (w : World) (hn : n = l.length) (hm : n ≤ 1000) (hr : Rd w A (l.flatMap tcells)) :
    Calls Tryz.prog 46 #[.slice A n c, .agg #[.int .i64 s0, .int .i64 s1, .int .i64 s2], .func (.func 47) #[] #[]] w fun e w' => (∃ (k : Nat) (b : Bool), e = .returned (.tuple #[.int .i64 (k : Int), .bool b]) ∧ SrchAt l (s0, s1, s2) k) ∧ Below w.heap.size w w' := by
  have Hn := hide hn
  have Hr := hide hr
  clear hn hr
  go_enter Tryz.func46, Tryz.ntmps46
  go_wp2_with fail
  have HSX := hide (Row.new w #[.int .i64 s0, .int .i64 s1, .int .i64 s2] 39)
  have HW0 := hide (below_alloc (Below.refl w.heap.size w) (.cells #[.int .i64 s0, .int .i64 s1, .int .i64 s2] 39))
  have HC := hide (fun (x0 x1 x2 : Int) W => compareStreets_any x0 x1 x2 s0 s1 s2 W)
  generalize w.alloc (.cells #[.int .i64 s0, .int .i64 s1, .int .i64 s2] 39) = W0 at *
  generalize hBB : w.heap.size = BB at *
  go_loopw [9, 10] (fun u v wr => ∃ i j : Nat, u = .int .i64 i ∧ v = .int .i64 j ∧ i ≤ j ∧ j ≤ n ∧ Hid (∀ x, 0 < i → l[i - 1]? = some x → befB x (s0, s1, s2) = true) ∧ Hid (∀ x, j < n → l[j]? = some x → befB x (s0, s1, s2) = false) ∧ Hid (Below BB w wr) ∧ Hid (Row wr BB [.int .i64 s0, .int .i64 s1, .int .i64 s2])) (fun u v _ => (intOf v).toNat - (intOf u).toNat)
  case atStart => exact ⟨0, n, rfl, rfl, by omega, by omega, hide (fun x h => by omega), hide (fun x h => by omega), HW0, HSX⟩
  case round =>
    clear HW0 HSX
    obtain ⟨i, j, rfl, rfl, hij, hjn, HI, HJ, HB, HX⟩ := hrel
    have r0 := HX.out.2.1 0 _ rfl
    have r1 := HX.out.2.1 1 _ rfl
    have r2 := HX.out.2.1 2 _ rfl
    have rz := HX.out.1
    by_cases hlt : i < j
    · obtain ⟨m, hm⟩ : ∃ m, m = (i + j) / 2 := ⟨_, rfl⟩
      have hmi : i ≤ m := by omega
      have hmj : m < j := by omega
      obtain ⟨⟨x0, x1, x2⟩, hx⟩ : ∃ x, l[m]? = some x := ⟨_, List.getElem?_eq_getElem (by rw [← Hn.out]; omega)⟩
      obtain ⟨b, off, rfl, hbs, c0, c1, c2⟩ := (Hr.out.below (by rw [hBB]; exact HB.out)).get3 (fun _ => rfl) hx rfl
      dsimp only at c0 c1 c2
      have HXX := hide hx
      have hmid : ((i : Int) + (j : Int)) / 2 = (m : Int) := by omega
      clear hx hm
      have HCX := hide (fun W => HC.out x0 x1 x2 W)
      have HLT := hide (cmpS_neg (x0, x1, x2) (s0, s1, s2))
      generalize cmpS (x0, x1, x2) (s0, s1, s2) = cv at *
      cases hbf : befB (x0, x1, x2) (s0, s1, s2) with
      | true =>
        have hcv : cv < 0 := by have := HLT.out; rw [hbf] at this; exact of_decide_eq_true this
        have HBF := hide hbf
        clear hbf
        go_wp2_with fail
        refine wp_region_later (by kernel_rfl) (by kernel_rfl) ?_
        repeat (go_big_quiet_step ((go_at_call 47; exact calls_later (HCX.out _))))
        refine wpQuiet_nil ?_
        refine later_intro fun w3 hb3 => ?_
        have HB3 := hide (show Below BB w w3 by have h := HB.out; exact h.trans (hb3.mono (by rw [← hBB]; exact h.size)))
        have HX3 := hide (HX.out.below hb3)
        clear hb3 c0 c1 c2 r0 r1 r2 rz hbs
        go_wp2
        go_roundw
        case rel => exact ⟨m + 1, j, by go_num, rfl, by omega, hjn, hide (fun x _ hx => by rw [show m + 1 - 1 = m by omega, HXX.out] at hx; injection hx with hx; rw [← hx]; exact HBF.out), HJ, HB3, HX3⟩
        case measure => simp [intOf]; omega
      | false =>
        have hcv : ¬ cv < 0 := by have := HLT.out; rw [hbf] at this; exact of_decide_eq_false this
        have HBF := hide hbf
        clear hbf
        go_wp2_with fail
        refine wp_region_later (by kernel_rfl) (by kernel_rfl) ?_
        repeat (go_big_quiet_step ((go_at_call 47; exact calls_later (HCX.out _))))
        refine wpQuiet_nil ?_
        refine later_intro fun w3 hb3 => ?_
        have HB3 := hide (show Below BB w w3 by have h := HB.out; exact h.trans (hb3.mono (by rw [← hBB]; exact h.size)))
        have HX3 := hide (HX.out.below hb3)
        clear hb3 c0 c1 c2 r0 r1 r2 rz hbs
        go_wp2
        go_roundw
        case rel => exact ⟨i, m, rfl, rfl, by omega, by omega, HI, hide (fun x _ hx => by rw [HXX.out] at hx; injection hx with hx; rw [← hx]; exact HBF.out), HB3, HX3⟩
        case measure => simp [intOf]; omega
    · have hijE : i = j := by omega
      subst hijE
      have HAT := hide (show SrchAt l (s0, s1, s2) i from ⟨by have := Hn.out; omega, HI.out, fun x hx => HJ.out x (by have h := (List.getElem?_eq_some_iff.1 hx).1; have := Hn.out; omega) hx⟩)
      by_cases hin : i < n
      · obtain ⟨⟨x0, x1, x2⟩, hx⟩ : ∃ x, l[i]? = some x := ⟨_, List.getElem?_eq_getElem (by rw [← Hn.out]; omega)⟩
        obtain ⟨b, off, rfl, hbs, c0, c1, c2⟩ := (Hr.out.below (by rw [hBB]; exact HB.out)).get3 (fun _ => rfl) hx rfl
        dsimp only at c0 c1 c2
        clear hx
        have HCX := hide (fun W => HC.out x0 x1 x2 W)
        generalize cmpS (x0, x1, x2) (s0, s1, s2) = cv at *
        go_wp2_with fail
        refine wp_region_later (by kernel_rfl) (by kernel_rfl) ?_
        repeat (go_big_quiet_step ((go_at_call 47; exact calls_later (HCX.out _))))
        refine wpQuiet_nil ?_
        refine later_intro fun w3 hb3 => ?_
        have HB3 := hide (show Below BB w w3 by have h := HB.out; exact h.trans (hb3.mono (by rw [← hBB]; exact h.size)))
        clear hb3 c0 c1 c2 r0 r1 r2 rz hbs
        go_wp2
        go_ret2
        exact ⟨⟨i, _, rfl, HAT.out⟩, by rw [hBB]; exact HB3.out⟩
      · go_wp2_with fail
        refine wp_region_later (by kernel_rfl) (by kernel_rfl) ?_
        repeat (go_big_quiet_step (fail))
        refine wpQuiet_nil ?_
        refine later_intro fun w3 hb3 => ?_
        have HB3 := hide (show Below BB w w3 by have h := HB.out; exact h.trans (hb3.mono (by rw [← hBB]; exact h.size)))
        clear hb3 r0 r1 r2 rz
        go_wp2
        go_ret2
        exact ⟨⟨i, _, rfl, HAT.out⟩, by rw [hBB]; exact HB3.out⟩

end Go.Proofs.YtbhnaakknfienaaGreatDoor

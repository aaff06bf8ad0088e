/- Lists of calls: whether they are valid. -/
import Derived.Test.YtmmeoabmjbclcaaCallA
namespace Go.Proofs.Ytmmeoabmjbclcaa
open Go.RowKit
set_option linter.unusedVariables false

abbrev CallT := Int × Int × Int × Int × Int
def ccells (c : Int × Int × Int × Int × Int) : List Value := [.int .i64 c.1, .int .i64 c.2.1, .int .i64 c.2.2.1, .int .i64 c.2.2.2.1, .int .i64 c.2.2.2.2]
def callP (c : Int × Int × Int × Int × Int) : Bool := callB c.1 c.2.1 c.2.2.1 c.2.2.2.1 c.2.2.2.2
def callLe (b a : Int × Int × Int × Int × Int) : Bool := decide (b.1 ≤ a.1)
def callsB (l : List (Int × Int × Int × Int × Int)) : Bool := chainB callP callLe l && decide (l.length ≤ 20)

set_option maxHeartbeats 4000000 in
theorem areCalls_any (A : Option Addr) (n c : Nat) (l : List (Int × Int × Int × Int × Int)) (w : World) (hn : n = l.length) (hm : n ≤ 1048576) (hr : Rd w A (l.flatMap ccells)) :
    Calls Try.prog 20 #[.slice A n c] w fun e w' => e = .returned (.bool (callsB l)) ∧ Below w.heap.size w w' := by
  have Hn := hide hn
  have Hr := hide hr
  clear hn hr
  go_enter Try.func20, Try.ntmps20
  go_wp2_with fail
  go_loopw [7] (fun t wr => ∃ k : Nat, k ≤ n ∧ t = .int .i64 k ∧ Hid (∀ i, i < k → stepB callP callLe l i = true) ∧ Below w.heap.size w wr) (fun t _ => n - (intOf t).toNat)
  case atStart => exact ⟨0, by omega, rfl, hide (fun i hi => absurd hi (by omega)), Below.refl _ _⟩
  case round =>
    obtain ⟨k, hk, rfl, HA, hb⟩ := hrel
    by_cases hlt : k < n
    · obtain ⟨⟨x0, x1, x2, x3, x4⟩, hh⟩ : ∃ h, l[k]? = some h := ⟨_, List.getElem?_eq_getElem (by rw [← Hn.out]; exact hlt)⟩
      obtain ⟨b, off, rfl, hbs, c0, c1, c2, c3, c4⟩ := (Hr.out.below hb).get5 (fun _ => rfl) hh rfl
      have Hh := hide hh
      clear hh
      dsimp only at c0 c1 c2 c3 c4
      have hbs1 : b < wr.heap.size + 1 := by omega
      have Q := hide (fun w => isCall_any x0 x1 x2 x3 x4 w)
      cases hx : callB x0 x1 x2 x3 x4 with
      | false =>
        rw [hx] at Q
        have Hx := hide hx
        clear hx
        have hst : stepB callP callLe l k = false := stepB_bad Hh.out Hx.out
        have HS := hide hst
        clear hst
        go_wp2_with fail
        refine wp_region_later (by kernel_rfl) (by kernel_rfl) ?_
        repeat (go_big_quiet_step ((go_at_call 29; exact calls_later (Q.out _))))
        refine wpQuiet_nil ?_
        refine later_intro fun w1 hb1 => ?_
        go_wp2
        go_ret
        exact ⟨ret_bool (by rw [callsB, chainB_false HS.out]; rfl), below_step (below_alloc hb _) hb1⟩
      | true =>
        rw [hx] at Q
        have Hx := hide hx
        clear hx
        by_cases h0 : k = 0
        · have hst : stepB callP callLe l k = true := by
            subst h0
            rw [stepB_zero Hh.out]
            exact Hx.out
          have HS := hide hst
          have H0 := hide h0
          have e3 : decide ((0 : Int) < (k : Int)) = false := by simp; omega
          have e3' : decide (0 < k) = false := by simp; omega
          clear hst h0
          go_wp2_with fail
          refine wp_region_later (by kernel_rfl) (by kernel_rfl) ?_
          repeat (go_big_quiet_step ((go_at_call 29; exact calls_later (Q.out _))))
          refine wpQuiet_nil ?_
          refine later_intro fun w1 hb1 => ?_
          go_wp2
          go_roundw
          case rel => exact ⟨k + 1, by omega, by go_num, hide (fun i hi => by rw [show i = k by have := H0.out; omega]; exact HS.out), below_step (below_alloc hb _) hb1⟩
          case measure => simp [intOf]; omega
        · obtain ⟨j, hj⟩ : ∃ j, k = j + 1 := ⟨k - 1, by omega⟩
          obtain ⟨⟨y0, y1, y2, y3, y4⟩, hy⟩ : ∃ h, l[j]? = some h := ⟨_, List.getElem?_eq_getElem (by rw [← Hn.out]; omega)⟩
          obtain ⟨b', off', hA', hbs', d0, d1, d2, d3, d4⟩ := (Hr.out.below hb).get5 (fun _ => rfl) hy rfl
          injection hA' with hA'
          injection hA' with hA1 hA2
          subst hA1
          subst hA2
          dsimp only at d0 d1 d2 d3 d4
          have hst : stepB callP callLe l k = decide (y0 ≤ x0) := by
            subst hj
            rw [stepB_succ Hh.out hy, show callP (x0, x1, x2, x3, x4) = true from Hx.out]
            rfl
          have HS := hide hst
          clear hst hy
          have e1 : IntKind.i64.wrap ((k : Int) - 1) = (k : Int) - 1 := IntWalk.i64_in _ (by omega)
          have e2 : ((k : Int) - 1).toNat = j := by omega
          have e3 : (0 : Int) < (k : Int) := by omega
          have e3' : 0 < k := by omega
          have e4 : (k : Int) - 1 < (n : Int) := by omega
          have e5 : (0 : Int) ≤ (k : Int) - 1 := by omega
          have Hj := hide hj
          clear hj h0
          by_cases hc : x0 < y0
          · go_wp2_with fail
            refine wp_region_later (by kernel_rfl) (by kernel_rfl) ?_
            repeat (go_big_quiet_step ((go_at_call 29; exact calls_later (Q.out _))))
            refine wpQuiet_nil ?_
            refine later_intro fun w1 hb1 => ?_
            go_wp2
            go_ret
            exact ⟨ret_bool (by rw [callsB, chainB_false (by rw [HS.out]; simp; omega)]; rfl), below_step (below_alloc hb _) hb1⟩
          · go_wp2_with fail
            refine wp_region_later (by kernel_rfl) (by kernel_rfl) ?_
            repeat (go_big_quiet_step ((go_at_call 29; exact calls_later (Q.out _))))
            refine wpQuiet_nil ?_
            refine later_intro fun w1 hb1 => ?_
            clear e1 e2 e4 e5
            go_wp2
            go_roundw
            case rel =>
              refine ⟨k + 1, by omega, by go_num, hide (fun i hi => ?_), below_step (below_alloc hb _) hb1⟩
              by_cases hi2 : i < k
              · exact HA.out i hi2
              · rw [show i = k by omega, HS.out]
                simp
                omega
            case measure => simp [intOf]; omega
    · go_wp2
      go_ret
      exact ⟨ret_bool (by rw [callsB, chainB_of (fun i hi => HA.out i (by have := Hn.out; omega)), Bool.true_and, ← Hn.out]; first | rfl | (simp; try omega)), hb⟩

set_option maxHeartbeats 4000000 in
theorem clGood_any (A : Option Addr) (n c : Nat) (l : List (Int × Int × Int × Int × Int)) (w : World) (hn : n = l.length) (hm : n ≤ 1048576) (hr : Rd w A (l.flatMap ccells)) :
    Calls Try.prog 23 #[.slice A n c] w fun e w' => e = .returned (.bool (callsB l)) ∧ Below w.heap.size w w' := by
  have Hn := hide hn
  have Hr := hide hr
  clear hn hr
  go_enter Try.func23, Try.ntmps23
  go_wp2_with fail
  go_loopw [7] (fun t wr => ∃ k : Nat, k ≤ n ∧ t = .int .i64 k ∧ Hid (∀ i, i < k → stepB callP callLe l i = true) ∧ Below w.heap.size w wr) (fun t _ => n - (intOf t).toNat)
  case atStart => exact ⟨0, by omega, rfl, hide (fun i hi => absurd hi (by omega)), Below.refl _ _⟩
  case round =>
    obtain ⟨k, hk, rfl, HA, hb⟩ := hrel
    by_cases hlt : k < n
    · obtain ⟨⟨x0, x1, x2, x3, x4⟩, hh⟩ : ∃ h, l[k]? = some h := ⟨_, List.getElem?_eq_getElem (by rw [← Hn.out]; exact hlt)⟩
      obtain ⟨b, off, rfl, hbs, c0, c1, c2, c3, c4⟩ := (Hr.out.below hb).get5 (fun _ => rfl) hh rfl
      have Hh := hide hh
      clear hh
      dsimp only at c0 c1 c2 c3 c4
      have hbs1 : b < wr.heap.size + 1 := by omega
      have Q := hide (fun w => clOne_any x0 x1 x2 x3 x4 w)
      cases hx : callB x0 x1 x2 x3 x4 with
      | false =>
        rw [hx] at Q
        have Hx := hide hx
        clear hx
        have hst : stepB callP callLe l k = false := stepB_bad Hh.out Hx.out
        have HS := hide hst
        clear hst
        go_wp2_with fail
        refine wp_region_later (by kernel_rfl) (by kernel_rfl) ?_
        repeat (go_big_quiet_step ((go_at_call 30; exact calls_later (Q.out _))))
        refine wpQuiet_nil ?_
        refine later_intro fun w1 hb1 => ?_
        go_wp2
        go_ret
        exact ⟨ret_bool (by rw [callsB, chainB_false HS.out]; rfl), below_step (below_alloc hb _) hb1⟩
      | true =>
        rw [hx] at Q
        have Hx := hide hx
        clear hx
        by_cases h0 : k = 0
        · have hst : stepB callP callLe l k = true := by
            subst h0
            rw [stepB_zero Hh.out]
            exact Hx.out
          have HS := hide hst
          have H0 := hide h0
          have e3 : decide ((0 : Int) < (k : Int)) = false := by simp; omega
          have e3' : decide (0 < k) = false := by simp; omega
          clear hst h0
          go_wp2_with fail
          refine wp_region_later (by kernel_rfl) (by kernel_rfl) ?_
          repeat (go_big_quiet_step ((go_at_call 30; exact calls_later (Q.out _))))
          refine wpQuiet_nil ?_
          refine later_intro fun w1 hb1 => ?_
          go_wp2
          go_roundw
          case rel => exact ⟨k + 1, by omega, by go_num, hide (fun i hi => by rw [show i = k by have := H0.out; omega]; exact HS.out), below_step (below_alloc hb _) hb1⟩
          case measure => simp [intOf]; omega
        · obtain ⟨j, hj⟩ : ∃ j, k = j + 1 := ⟨k - 1, by omega⟩
          obtain ⟨⟨y0, y1, y2, y3, y4⟩, hy⟩ : ∃ h, l[j]? = some h := ⟨_, List.getElem?_eq_getElem (by rw [← Hn.out]; omega)⟩
          obtain ⟨b', off', hA', hbs', d0, d1, d2, d3, d4⟩ := (Hr.out.below hb).get5 (fun _ => rfl) hy rfl
          injection hA' with hA'
          injection hA' with hA1 hA2
          subst hA1
          subst hA2
          dsimp only at d0 d1 d2 d3 d4
          have hst : stepB callP callLe l k = decide (y0 ≤ x0) := by
            subst hj
            rw [stepB_succ Hh.out hy, show callP (x0, x1, x2, x3, x4) = true from Hx.out]
            rfl
          have HS := hide hst
          clear hst hy
          have e1 : IntKind.i64.wrap ((k : Int) - 1) = (k : Int) - 1 := IntWalk.i64_in _ (by omega)
          have e2 : ((k : Int) - 1).toNat = j := by omega
          have e3 : (0 : Int) < (k : Int) := by omega
          have e3' : 0 < k := by omega
          have e4 : (k : Int) - 1 < (n : Int) := by omega
          have e5 : (0 : Int) ≤ (k : Int) - 1 := by omega
          have Hj := hide hj
          clear hj h0
          by_cases hc : x0 < y0
          · go_wp2_with fail
            refine wp_region_later (by kernel_rfl) (by kernel_rfl) ?_
            repeat (go_big_quiet_step ((go_at_call 30; exact calls_later (Q.out _))))
            refine wpQuiet_nil ?_
            refine later_intro fun w1 hb1 => ?_
            go_wp2
            go_ret
            exact ⟨ret_bool (by rw [callsB, chainB_false (by rw [HS.out]; simp; omega)]; rfl), below_step (below_alloc hb _) hb1⟩
          · go_wp2_with fail
            refine wp_region_later (by kernel_rfl) (by kernel_rfl) ?_
            repeat (go_big_quiet_step ((go_at_call 30; exact calls_later (Q.out _))))
            refine wpQuiet_nil ?_
            refine later_intro fun w1 hb1 => ?_
            clear e1 e2 e4 e5
            go_wp2
            go_roundw
            case rel =>
              refine ⟨k + 1, by omega, by go_num, hide (fun i hi => ?_), below_step (below_alloc hb _) hb1⟩
              by_cases hi2 : i < k
              · exact HA.out i hi2
              · rw [show i = k by omega, HS.out]
                simp
                omega
            case measure => simp [intOf]; omega
    · go_wp2
      go_ret
      exact ⟨ret_bool (by rw [callsB, chainB_of (fun i hi => HA.out i (by have := Hn.out; omega)), Bool.true_and, ← Hn.out]; first | rfl | (simp; try omega)), hb⟩

end Go.Proofs.Ytmmeoabmjbclcaa

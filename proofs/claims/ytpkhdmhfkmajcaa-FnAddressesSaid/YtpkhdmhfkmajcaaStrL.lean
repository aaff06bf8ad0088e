/- Lists of stretches: whether they are valid. -/
import Derived.Test.YtpkhdmhfkmajcaaStrA
namespace Go.Proofs.Ytpkhdmhfkmajcaa
open Go.RowKit
set_option linter.unusedVariables false

def scells (c : ByteArray × Int × Int × Int × Int) : List Value := [.string c.1, .int .i64 c.2.1, .int .i64 c.2.2.1, .int .i64 c.2.2.2.1, .int .i64 c.2.2.2.2]
def strP (c : ByteArray × Int × Int × Int × Int) : Bool := strB c.1 c.2.1 c.2.2.1 c.2.2.2.1 c.2.2.2.2
def strR (b a : ByteArray × Int × Int × Int × Int) : Bool := !((!Op.bytesLess b.1.toList a.1.toList && !(b.1.toList == a.1.toList)) || (b.1.toList == a.1.toList && decide (a.2.1 ≤ b.2.2.1)))
def strsB (l : List (ByteArray × Int × Int × Int × Int)) : Bool := chainB strP strR l && decide (l.length ≤ 30)

set_option maxHeartbeats 8000000 in
theorem areStretches_any (A : Option Addr) (n c : Nat) (l : List (ByteArray × Int × Int × Int × Int)) (w : World) (hn : n = l.length) (hm : n ≤ 1048576) (hs : ∀ x ∈ l, x.1.size ≤ maxLen) (hr : Rd w A (l.flatMap scells)) :
    Calls Try.prog 27 #[.slice A n c] w fun e w' => e = .returned (.bool (strsB l)) ∧ Below w.heap.size w w' := by
  have Hn := hide hn
  have Hr := hide hr
  have Hs := hide hs
  clear hn hr hs
  go_enter Try.func27, Try.ntmps27
  go_wp2_with fail
  go_loopw [7] (fun t wr => ∃ k : Nat, k ≤ n ∧ t = .int .i64 k ∧ Hid (∀ i, i < k → stepB strP strR l i = true) ∧ Below w.heap.size w wr) (fun t _ => n - (intOf t).toNat)
  case atStart => exact ⟨0, by omega, rfl, hide (fun i hi => absurd hi (by omega)), Below.refl _ _⟩
  case round =>
    obtain ⟨k, hk, rfl, HA, hb⟩ := hrel
    by_cases hlt : k < n
    · obtain ⟨⟨x0, x1, x2, x3, x4⟩, hh⟩ : ∃ h, l[k]? = some h := ⟨_, List.getElem?_eq_getElem (by rw [← Hn.out]; exact hlt)⟩
      obtain ⟨b, off, rfl, hbs, c0, c1, c2, c3, c4⟩ := (Hr.out.below hb).get5 (fun _ => rfl) hh rfl
      have Hx0 : Hid (x0.size ≤ maxLen) := hide (Hs.out _ (List.mem_of_getElem? hh))
      have Hh := hide hh
      clear hh
      dsimp only at c0 c1 c2 c3 c4
      have hbs1 : b < wr.heap.size + 1 := by omega
      have Q := hide (fun w => isStretch_any x0 x1 x2 x3 x4 w Hx0.out)
      cases hx : strB x0 x1 x2 x3 x4 with
      | false =>
        rw [hx] at Q
        have Hx := hide hx
        clear hx
        have hst : stepB strP strR l k = false := stepB_bad Hh.out Hx.out
        have HS := hide hst
        clear hst
        go_wp2_with fail
        refine wp_region_later (by kernel_rfl) (by kernel_rfl) ?_
        repeat (go_big_quiet_step ((go_at_call 28; exact calls_later (Q.out _))))
        refine wpQuiet_nil ?_
        refine later_intro fun w1 hb1 => ?_
        go_wp2
        go_ret
        exact ⟨ret_bool (by rw [strsB, chainB_false HS.out]; rfl), below_step (below_alloc hb _) hb1⟩
      | true =>
        rw [hx] at Q
        have Hx := hide hx
        clear hx
        by_cases h0 : k = 0
        · have hst : stepB strP strR l k = true := by
            subst h0
            rw [stepB_zero Hh.out]
            exact Hx.out
          have HS := hide hst
          have H0 := hide h0
          have e3 : decide ((0 : Int) < (k : Int)) = false := by simp; omega
          have e3' : decide (0 < k) = false := by simp; omega
          clear hst h0
          go_wp2_with fail
          refine wp_region_later (by kernel_rfl) (by kernel_rfl) ?_
          repeat (go_big_quiet_step ((go_at_call 28; exact calls_later (Q.out _))))
          refine wpQuiet_nil ?_
          refine later_intro fun w1 hb1 => ?_
          go_wp2
          go_roundw
          case rel => exact ⟨k + 1, by omega, by go_num, hide (fun i hi => by rw [show i = k by have := H0.out; omega]; exact HS.out), below_step (below_alloc hb _) hb1⟩
          case measure => simp [intOf]; omega
        · obtain ⟨j, hj⟩ : ∃ j, k = j + 1 := ⟨k - 1, by omega⟩
          obtain ⟨⟨y0, y1, y2, y3, y4⟩, hy⟩ : ∃ h, l[j]? = some h := ⟨_, List.getElem?_eq_getElem (by rw [← Hn.out]; omega)⟩
          obtain ⟨b', off', hA', hbs', d0, d1, d2, d3, d4⟩ := (Hr.out.below hb).get5 (fun _ => rfl) hy rfl
          injection hA' with hA'
          injection hA' with hA1 hA2
          subst hA1
          subst hA2
          dsimp only at d0 d1 d2 d3 d4
          have hst : stepB strP strR l k = strR (y0, y1, y2, y3, y4) (x0, x1, x2, x3, x4) := by
            subst hj
            rw [stepB_succ Hh.out hy, show strP (x0, x1, x2, x3, x4) = true from Hx.out, Bool.true_and]
          have HS := hide hst
          clear hst hy
          have e1 : IntKind.i64.wrap ((k : Int) - 1) = (k : Int) - 1 := IntWalk.i64_in _ (by omega)
          have e2 : ((k : Int) - 1).toNat = j := by omega
          have e3 : (0 : Int) < (k : Int) := by omega
          have e3' : 0 < k := by omega
          have e4 : (k : Int) - 1 < (n : Int) := by omega
          have e5 : (0 : Int) ≤ (k : Int) - 1 := by omega
          have Hj := hide hj
          clear hj h0
          cases hE : (y0.toList == x0.toList) with
          | true =>
            by_cases hc : x1 ≤ y2
            · cases hL : Op.bytesLess y0.toList x0.toList with
              | true =>
                go_wp2_with fail
                refine wp_region_later (by kernel_rfl) (by kernel_rfl) ?_
                repeat (go_big_quiet_step ((go_at_call 28; exact calls_later (Q.out _))))
                refine wpQuiet_nil ?_
                refine later_intro fun w1 hb1 => ?_
                go_wp2
                go_ret
                exact ⟨ret_bool (by rw [strsB, chainB_false (by rw [HS.out]; simp [strR, hE, hL, hc])]; rfl), below_step (below_alloc hb _) hb1⟩
              | false =>
                go_wp2_with fail
                refine wp_region_later (by kernel_rfl) (by kernel_rfl) ?_
                repeat (go_big_quiet_step ((go_at_call 28; exact calls_later (Q.out _))))
                refine wpQuiet_nil ?_
                refine later_intro fun w1 hb1 => ?_
                go_wp2
                go_ret
                exact ⟨ret_bool (by rw [strsB, chainB_false (by rw [HS.out]; simp [strR, hE, hL, hc])]; rfl), below_step (below_alloc hb _) hb1⟩
            · have hc' : decide (x1 ≤ y2) = false := by simpa using hc
              have Hc := hide hc
              clear hc
              cases hL : Op.bytesLess y0.toList x0.toList with
              | true =>
                go_wp2_with fail
                refine wp_region_later (by kernel_rfl) (by kernel_rfl) ?_
                repeat (go_big_quiet_step ((go_at_call 28; exact calls_later (Q.out _))))
                refine wpQuiet_nil ?_
                refine later_intro fun w1 hb1 => ?_
                clear e1 e2 e4 e5
                go_wp2
                go_roundw
                case rel =>
                  refine ⟨k + 1, by omega, by go_num, hide (fun i hi => ?_), below_step (below_alloc hb _) hb1⟩
                  by_cases hi2 : i < k
                  · exact HA.out i hi2
                  · rw [show i = k by omega, HS.out]
                    simp [strR, hE, hL, Hc.out]
                case measure => simp [intOf]; omega
              | false =>
                go_wp2_with fail
                refine wp_region_later (by kernel_rfl) (by kernel_rfl) ?_
                repeat (go_big_quiet_step ((go_at_call 28; exact calls_later (Q.out _))))
                refine wpQuiet_nil ?_
                refine later_intro fun w1 hb1 => ?_
                clear e1 e2 e4 e5
                go_wp2
                go_roundw
                case rel =>
                  refine ⟨k + 1, by omega, by go_num, hide (fun i hi => ?_), below_step (below_alloc hb _) hb1⟩
                  by_cases hi2 : i < k
                  · exact HA.out i hi2
                  · rw [show i = k by omega, HS.out]
                    simp [strR, hE, hL, Hc.out]
                case measure => simp [intOf]; omega
          | false =>
            cases hL : Op.bytesLess y0.toList x0.toList with
            | true =>
              go_wp2_with fail
              refine wp_region_later (by kernel_rfl) (by kernel_rfl) ?_
              repeat (go_big_quiet_step ((go_at_call 28; exact calls_later (Q.out _))))
              refine wpQuiet_nil ?_
              refine later_intro fun w1 hb1 => ?_
              clear e1 e2 e4 e5
              go_wp2
              go_roundw
              case rel =>
                refine ⟨k + 1, by omega, by go_num, hide (fun i hi => ?_), below_step (below_alloc hb _) hb1⟩
                by_cases hi2 : i < k
                · exact HA.out i hi2
                · rw [show i = k by omega, HS.out]
                  simp [strR, hE, hL]
              case measure => simp [intOf]; omega
            | false =>
              go_wp2_with fail
              refine wp_region_later (by kernel_rfl) (by kernel_rfl) ?_
              repeat (go_big_quiet_step ((go_at_call 28; exact calls_later (Q.out _))))
              refine wpQuiet_nil ?_
              refine later_intro fun w1 hb1 => ?_
              go_wp2
              go_ret
              exact ⟨ret_bool (by rw [strsB, chainB_false (by rw [HS.out]; simp [strR, hE, hL])]; rfl), below_step (below_alloc hb _) hb1⟩
    · go_wp2
      go_ret
      exact ⟨ret_bool (by rw [strsB, chainB_of (fun i hi => HA.out i (by have := Hn.out; omega)), Bool.true_and, ← Hn.out]; first | rfl | (simp; try omega)), hb⟩

set_option maxHeartbeats 400000 in
theorem implAreStretches_any (A : Option Addr) (n c : Nat) (l : List (ByteArray × Int × Int × Int × Int)) (w : World) (hn : n = l.length) (hm : n ≤ 1048576) (hs : ∀ x ∈ l, x.1.size ≤ maxLen) (hr : Rd w A (l.flatMap scells)) :
    Calls Try.prog 24 #[.slice A n c] w fun e w' => e = .returned (.bool (strsB l)) ∧ Below w.heap.size w w' := by
  have Q := hide (areStretches_any A n c l w hn hm hs hr)
  clear hn hm hr hs
  go_enter Try.func24, Try.ntmps24
  go_wp2_with fail
  refine Q.out.mono ?_
  rintro e w1 ⟨rfl, hb1⟩
  go_wp2
  go_ret
  exact ⟨rfl, hb1⟩
set_option maxHeartbeats 8000000 in
theorem adGood_any (A : Option Addr) (n c : Nat) (l : List (ByteArray × Int × Int × Int × Int)) (w : World) (hn : n = l.length) (hm : n ≤ 1048576) (hs : ∀ x ∈ l, x.1.size ≤ maxLen) (hr : Rd w A (l.flatMap scells)) :
    Calls Try.prog 33 #[.slice A n c] w fun e w' => e = .returned (.bool (strsB l)) ∧ Below w.heap.size w w' := by
  have Hn := hide hn
  have Hr := hide hr
  have Hs := hide hs
  clear hn hr hs
  go_enter Try.func33, Try.ntmps33
  go_wp2_with fail
  go_loopw [7] (fun t wr => ∃ k : Nat, k ≤ n ∧ t = .int .i64 k ∧ Hid (∀ i, i < k → stepB strP strR l i = true) ∧ Below w.heap.size w wr) (fun t _ => n - (intOf t).toNat)
  case atStart => exact ⟨0, by omega, rfl, hide (fun i hi => absurd hi (by omega)), Below.refl _ _⟩
  case round =>
    obtain ⟨k, hk, rfl, HA, hb⟩ := hrel
    by_cases hlt : k < n
    · obtain ⟨⟨x0, x1, x2, x3, x4⟩, hh⟩ : ∃ h, l[k]? = some h := ⟨_, List.getElem?_eq_getElem (by rw [← Hn.out]; exact hlt)⟩
      obtain ⟨b, off, rfl, hbs, c0, c1, c2, c3, c4⟩ := (Hr.out.below hb).get5 (fun _ => rfl) hh rfl
      have Hx0 : Hid (x0.size ≤ maxLen) := hide (Hs.out _ (List.mem_of_getElem? hh))
      have Hh := hide hh
      clear hh
      dsimp only at c0 c1 c2 c3 c4
      have hbs1 : b < wr.heap.size + 1 := by omega
      have Q := hide (fun w => adOne_any x0 x1 x2 x3 x4 w Hx0.out)
      cases hx : strB x0 x1 x2 x3 x4 with
      | false =>
        rw [hx] at Q
        have Hx := hide hx
        clear hx
        have hst : stepB strP strR l k = false := stepB_bad Hh.out Hx.out
        have HS := hide hst
        clear hst
        go_wp2_with fail
        refine wp_region_later (by kernel_rfl) (by kernel_rfl) ?_
        repeat (go_big_quiet_step ((go_at_call 34; exact calls_later (Q.out _))))
        refine wpQuiet_nil ?_
        refine later_intro fun w1 hb1 => ?_
        go_wp2
        go_ret
        exact ⟨ret_bool (by rw [strsB, chainB_false HS.out]; rfl), below_step (below_alloc hb _) hb1⟩
      | true =>
        rw [hx] at Q
        have Hx := hide hx
        clear hx
        by_cases h0 : k = 0
        · have hst : stepB strP strR l k = true := by
            subst h0
            rw [stepB_zero Hh.out]
            exact Hx.out
          have HS := hide hst
          have H0 := hide h0
          have e3 : decide ((0 : Int) < (k : Int)) = false := by simp; omega
          have e3' : decide (0 < k) = false := by simp; omega
          clear hst h0
          go_wp2_with fail
          refine wp_region_later (by kernel_rfl) (by kernel_rfl) ?_
          repeat (go_big_quiet_step ((go_at_call 34; exact calls_later (Q.out _))))
          refine wpQuiet_nil ?_
          refine later_intro fun w1 hb1 => ?_
          go_wp2
          go_roundw
          case rel => exact ⟨k + 1, by omega, by go_num, hide (fun i hi => by rw [show i = k by have := H0.out; omega]; exact HS.out), below_step (below_alloc hb _) hb1⟩
          case measure => simp [intOf]; omega
        · obtain ⟨j, hj⟩ : ∃ j, k = j + 1 := ⟨k - 1, by omega⟩
          obtain ⟨⟨y0, y1, y2, y3, y4⟩, hy⟩ : ∃ h, l[j]? = some h := ⟨_, List.getElem?_eq_getElem (by rw [← Hn.out]; omega)⟩
          obtain ⟨b', off', hA', hbs', d0, d1, d2, d3, d4⟩ := (Hr.out.below hb).get5 (fun _ => rfl) hy rfl
          injection hA' with hA'
          injection hA' with hA1 hA2
          subst hA1
          subst hA2
          dsimp only at d0 d1 d2 d3 d4
          have hst : stepB strP strR l k = strR (y0, y1, y2, y3, y4) (x0, x1, x2, x3, x4) := by
            subst hj
            rw [stepB_succ Hh.out hy, show strP (x0, x1, x2, x3, x4) = true from Hx.out, Bool.true_and]
          have HS := hide hst
          clear hst hy
          have e1 : IntKind.i64.wrap ((k : Int) - 1) = (k : Int) - 1 := IntWalk.i64_in _ (by omega)
          have e2 : ((k : Int) - 1).toNat = j := by omega
          have e3 : (0 : Int) < (k : Int) := by omega
          have e3' : 0 < k := by omega
          have e4 : (k : Int) - 1 < (n : Int) := by omega
          have e5 : (0 : Int) ≤ (k : Int) - 1 := by omega
          have Hj := hide hj
          clear hj h0
          cases hE : (y0.toList == x0.toList) with
          | true =>
            by_cases hc : x1 ≤ y2
            · cases hL : Op.bytesLess y0.toList x0.toList with
              | true =>
                go_wp2_with fail
                refine wp_region_later (by kernel_rfl) (by kernel_rfl) ?_
                repeat (go_big_quiet_step ((go_at_call 34; exact calls_later (Q.out _))))
                refine wpQuiet_nil ?_
                refine later_intro fun w1 hb1 => ?_
                go_wp2
                go_ret
                exact ⟨ret_bool (by rw [strsB, chainB_false (by rw [HS.out]; simp [strR, hE, hL, hc])]; rfl), below_step (below_alloc hb _) hb1⟩
              | false =>
                go_wp2_with fail
                refine wp_region_later (by kernel_rfl) (by kernel_rfl) ?_
                repeat (go_big_quiet_step ((go_at_call 34; exact calls_later (Q.out _))))
                refine wpQuiet_nil ?_
                refine later_intro fun w1 hb1 => ?_
                go_wp2
                go_ret
                exact ⟨ret_bool (by rw [strsB, chainB_false (by rw [HS.out]; simp [strR, hE, hL, hc])]; rfl), below_step (below_alloc hb _) hb1⟩
            · have hc' : decide (x1 ≤ y2) = false := by simpa using hc
              have Hc := hide hc
              clear hc
              cases hL : Op.bytesLess y0.toList x0.toList with
              | true =>
                go_wp2_with fail
                refine wp_region_later (by kernel_rfl) (by kernel_rfl) ?_
                repeat (go_big_quiet_step ((go_at_call 34; exact calls_later (Q.out _))))
                refine wpQuiet_nil ?_
                refine later_intro fun w1 hb1 => ?_
                clear e1 e2 e4 e5
                go_wp2
                go_roundw
                case rel =>
                  refine ⟨k + 1, by omega, by go_num, hide (fun i hi => ?_), below_step (below_alloc hb _) hb1⟩
                  by_cases hi2 : i < k
                  · exact HA.out i hi2
                  · rw [show i = k by omega, HS.out]
                    simp [strR, hE, hL, Hc.out]
                case measure => simp [intOf]; omega
              | false =>
                go_wp2_with fail
                refine wp_region_later (by kernel_rfl) (by kernel_rfl) ?_
                repeat (go_big_quiet_step ((go_at_call 34; exact calls_later (Q.out _))))
                refine wpQuiet_nil ?_
                refine later_intro fun w1 hb1 => ?_
                clear e1 e2 e4 e5
                go_wp2
                go_roundw
                case rel =>
                  refine ⟨k + 1, by omega, by go_num, hide (fun i hi => ?_), below_step (below_alloc hb _) hb1⟩
                  by_cases hi2 : i < k
                  · exact HA.out i hi2
                  · rw [show i = k by omega, HS.out]
                    simp [strR, hE, hL, Hc.out]
                case measure => simp [intOf]; omega
          | false =>
            cases hL : Op.bytesLess y0.toList x0.toList with
            | true =>
              go_wp2_with fail
              refine wp_region_later (by kernel_rfl) (by kernel_rfl) ?_
              repeat (go_big_quiet_step ((go_at_call 34; exact calls_later (Q.out _))))
              refine wpQuiet_nil ?_
              refine later_intro fun w1 hb1 => ?_
              clear e1 e2 e4 e5
              go_wp2
              go_roundw
              case rel =>
                refine ⟨k + 1, by omega, by go_num, hide (fun i hi => ?_), below_step (below_alloc hb _) hb1⟩
                by_cases hi2 : i < k
                · exact HA.out i hi2
                · rw [show i = k by omega, HS.out]
                  simp [strR, hE, hL]
              case measure => simp [intOf]; omega
            | false =>
              go_wp2_with fail
              refine wp_region_later (by kernel_rfl) (by kernel_rfl) ?_
              repeat (go_big_quiet_step ((go_at_call 34; exact calls_later (Q.out _))))
              refine wpQuiet_nil ?_
              refine later_intro fun w1 hb1 => ?_
              go_wp2
              go_ret
              exact ⟨ret_bool (by rw [strsB, chainB_false (by rw [HS.out]; simp [strR, hE, hL])]; rfl), below_step (below_alloc hb _) hb1⟩
    · go_wp2
      go_ret
      exact ⟨ret_bool (by rw [strsB, chainB_of (fun i hi => HA.out i (by have := Hn.out; omega)), Bool.true_and, ← Hn.out]; first | rfl | (simp; try omega)), hb⟩

end Go.Proofs.Ytpkhdmhfkmajcaa

/- Groups of calls: whether the indices are valid; the callers. -/
import Derived.Test.YtmmeoabmjbclcaaCallR
import Derived.Test.YtmmeoabmjbclcaaPutL
import Derived.Maps.OwnSet
namespace Go.Proofs.Ytmmeoabmjbclcaa
open Go.RowKit Go.Maps
set_option linter.unusedVariables false

def riseR (a b : Int) : Bool := decide (a < b)
def riseB (lo hi : Int) (idx : List Int) : Bool := chainB (fun i => inB i lo hi) riseR idx
def groupB (n : Nat) (idx : List Int) : Bool := riseB 0 ((n : Int) - 1) idx && decide (0 < idx.length)

set_option maxHeartbeats 2000000 in
theorem l1Rising_any (A : Option Addr) (m c : Nat) (lo hi : Int) (idx : List Int) (w : World) (hn : m = idx.length) (hm : m ≤ 1048576) (hr : Rd w A (idx.map (Value.int .i64))) :
    Calls Try.prog 28 #[.slice A m c, .int .i64 lo, .int .i64 hi] w fun e w' => e = .returned (.bool (riseB lo hi idx)) ∧ Below w.heap.size w w' := by
  have Hn := hide hn
  have Hr := hide hr
  clear hn hr
  go_enter Try.func28, Try.ntmps28
  go_wp2_with fail
  go_loopw [11] (fun t wr => ∃ k : Nat, k ≤ m ∧ t = .int .i64 k ∧ Hid (∀ i, i < k → stepB (fun i => inB i lo hi) riseR idx i = true) ∧ Below w.heap.size w wr) (fun t _ => m - (intOf t).toNat)
  case atStart => exact ⟨0, by omega, rfl, hide (fun i hi => absurd hi (by omega)), Below.refl _ _⟩
  case round =>
    obtain ⟨k, hk, rfl, HA, hb⟩ := hrel
    by_cases hlt : k < m
    · obtain ⟨x, hx⟩ : ∃ x, idx[k]? = some x := ⟨_, List.getElem?_eq_getElem (by rw [← Hn.out]; exact hlt)⟩
      obtain ⟨b, off, rfl, hbs, c0⟩ := (Hr.out.below hb).get1 (show (idx.map (Value.int .i64))[k]? = some (.int .i64 x) by simp [hx])
      have Hx := hide hx
      clear hx
      have q := fun W => l1In_any x lo hi W
      cases hp : inB x lo hi with
      | false =>
        have HS := hide (stepB_bad (p := fun i => inB i lo hi) (r := riseR) Hx.out hp)
        simp only [hp] at q
        clear hp
        go_wp2_with (go_at_call 31; ((with_reducible refine (q _).mono ?_); rintro e w' ⟨rfl, rfl⟩))
        go_ret
        exact ⟨ret_bool (by rw [riseB, chainB_false HS.out]), hb⟩
      | true =>
        have Hp := hide hp
        simp only [hp] at q
        clear hp
        by_cases h0 : k = 0
        · have HS := hide (show stepB (fun i => inB i lo hi) riseR idx k = true by subst h0; rw [stepB_zero Hx.out]; exact Hp.out)
          have H0 := hide h0
          have e3 : decide ((0 : Int) < (k : Int)) = false := by simp; omega
          have e3' : ¬ (0 < k) := by omega
          clear h0
          go_wp2_with (go_at_call 31; ((with_reducible refine (q _).mono ?_); rintro e w' ⟨rfl, rfl⟩))
          go_roundw
          case rel => exact ⟨k + 1, by omega, by go_num, hide (fun i hi => by rw [show i = k by have := H0.out; omega]; exact HS.out), hb⟩
          case measure => simp [intOf]; omega
        · obtain ⟨j, hj⟩ : ∃ j, k = j + 1 := ⟨k - 1, by omega⟩
          obtain ⟨y, hy⟩ : ∃ y, idx[j]? = some y := ⟨_, List.getElem?_eq_getElem (by rw [← Hn.out]; omega)⟩
          obtain ⟨b', off', hA', hbs', d0⟩ := (Hr.out.below hb).get1 (show (idx.map (Value.int .i64))[j]? = some (.int .i64 y) by simp [hy])
          injection hA' with hA'
          injection hA' with hA1 hA2
          subst hA1
          subst hA2
          have HS := hide (show stepB (fun i => inB i lo hi) riseR idx k = riseR y x by subst hj; rw [stepB_succ Hx.out hy]; simp [Hp.out])
          have e1 : IntKind.i64.wrap ((k : Int) - 1) = (k : Int) - 1 := IntWalk.i64_in _ (by omega)
          have e2 : ((k : Int) - 1).toNat = j := by omega
          have e3 : (0 : Int) < (k : Int) := by omega
          have e4 : (k : Int) - 1 < (m : Int) := by omega
          have e5 : (0 : Int) ≤ (k : Int) - 1 := by omega
          have Hj := hide hj
          clear hj h0 hy
          by_cases hc : y < x
          · have Hc := hide hc
            have hc' : decide (x ≤ y) = false := by simp; omega
            go_wp2_with (go_at_call 31; ((with_reducible refine (q _).mono ?_); rintro e w' ⟨rfl, rfl⟩))
            clear e1 e2 e4 e5
            go_roundw
            case rel =>
              refine ⟨k + 1, by omega, by go_num, hide (fun i hi => ?_), hb⟩
              by_cases hi2 : i < k
              · exact HA.out i hi2
              · rw [show i = k by omega, HS.out, riseR, decide_eq_true Hc.out]
            case measure => simp [intOf]; omega
          · have hc' : x ≤ y := by omega
            have Hc := hide (show riseR y x = false by simp [riseR]; omega)
            clear hc
            go_wp2_with (go_at_call 31; ((with_reducible refine (q _).mono ?_); rintro e w' ⟨rfl, rfl⟩))
            go_ret
            exact ⟨ret_bool (by rw [riseB, chainB_false (by rw [HS.out, Hc.out])]), hb⟩
    · go_wp2
      go_ret
      exact ⟨ret_bool (by rw [riseB, chainB_of (fun i hi => HA.out i (by have := Hn.out; omega))]), hb⟩

set_option maxHeartbeats 2000000 in
theorem isGroup_any (A' : Option Addr) (n c' : Nat) (A : Option Addr) (m c : Nat) (idx : List Int) (w : World) (hn : m = idx.length) (hm : m ≤ 1048576) (hn2 : n ≤ 1048576) (hr : Rd w A (idx.map (Value.int .i64))) :
    Calls Try.prog 21 #[.slice A' n c', .slice A m c] w fun e w' => e = .returned (.bool (groupB n idx)) ∧ Below w.heap.size w w' := by
  have Hn := hide hn
  have Hr := hide hr
  clear hn hr
  have ew : IntKind.i64.wrap ((n : Int) - 1) = (n : Int) - 1 := IntWalk.i64_in _ (by omega)
  go_enter Try.func21, Try.ntmps21
  go_wp2_with fail
  go_loopw [9] (fun t wr => ∃ k : Nat, k ≤ m ∧ t = .int .i64 k ∧ Hid (∀ i, i < k → stepB (fun i => inB i 0 ((n : Int) - 1)) riseR idx i = true) ∧ Below w.heap.size w wr) (fun t _ => m - (intOf t).toNat)
  case atStart => exact ⟨0, by omega, rfl, hide (fun i hi => absurd hi (by omega)), Below.refl _ _⟩
  case round =>
    obtain ⟨k, hk, rfl, HA, hb⟩ := hrel
    by_cases hlt : k < m
    · obtain ⟨x, hx⟩ : ∃ x, idx[k]? = some x := ⟨_, List.getElem?_eq_getElem (by rw [← Hn.out]; exact hlt)⟩
      obtain ⟨b, off, rfl, hbs, c0⟩ := (Hr.out.below hb).get1 (show (idx.map (Value.int .i64))[k]? = some (.int .i64 x) by simp [hx])
      have Hx := hide hx
      clear hx
      have q := fun W => inside_any x 0 ((n : Int) - 1) W
      cases hp : inB x 0 ((n : Int) - 1) with
      | false =>
        have HS := hide (stepB_bad (p := fun i => inB i 0 ((n : Int) - 1)) (r := riseR) Hx.out hp)
        simp only [hp] at q
        clear hp
        go_wp2_with (go_at_call 25; ((with_reducible refine (q _).mono ?_); rintro e w' ⟨rfl, rfl⟩))
        go_ret
        exact ⟨ret_bool (by rw [groupB, riseB, chainB_false HS.out]; rfl), hb⟩
      | true =>
        have Hp := hide hp
        simp only [hp] at q
        clear hp
        by_cases h0 : k = 0
        · have HS := hide (show stepB (fun i => inB i 0 ((n : Int) - 1)) riseR idx k = true by subst h0; rw [stepB_zero Hx.out]; exact Hp.out)
          have H0 := hide h0
          have e3 : decide ((0 : Int) < (k : Int)) = false := by simp; omega
          have e3' : ¬ (0 < k) := by omega
          clear h0
          go_wp2_with (go_at_call 25; ((with_reducible refine (q _).mono ?_); rintro e w' ⟨rfl, rfl⟩))
          go_roundw
          case rel => exact ⟨k + 1, by omega, by go_num, hide (fun i hi => by rw [show i = k by have := H0.out; omega]; exact HS.out), hb⟩
          case measure => simp [intOf]; omega
        · obtain ⟨j, hj⟩ : ∃ j, k = j + 1 := ⟨k - 1, by omega⟩
          obtain ⟨y, hy⟩ : ∃ y, idx[j]? = some y := ⟨_, List.getElem?_eq_getElem (by rw [← Hn.out]; omega)⟩
          obtain ⟨b', off', hA', hbs', d0⟩ := (Hr.out.below hb).get1 (show (idx.map (Value.int .i64))[j]? = some (.int .i64 y) by simp [hy])
          injection hA' with hA'
          injection hA' with hA1 hA2
          subst hA1
          subst hA2
          have HS := hide (show stepB (fun i => inB i 0 ((n : Int) - 1)) riseR idx k = riseR y x by subst hj; rw [stepB_succ Hx.out hy]; simp [Hp.out])
          have e1 : IntKind.i64.wrap ((k : Int) - 1) = (k : Int) - 1 := IntWalk.i64_in _ (by omega)
          have e2 : ((k : Int) - 1).toNat = j := by omega
          have e3 : (0 : Int) < (k : Int) := by omega
          have e4 : (k : Int) - 1 < (m : Int) := by omega
          have e5 : (0 : Int) ≤ (k : Int) - 1 := by omega
          have Hj := hide hj
          clear hj h0 hy
          by_cases hc : y < x
          · have Hc := hide hc
            have hc' : decide (x ≤ y) = false := by simp; omega
            go_wp2_with (go_at_call 25; ((with_reducible refine (q _).mono ?_); rintro e w' ⟨rfl, rfl⟩))
            clear e1 e2 e4 e5
            go_roundw
            case rel =>
              refine ⟨k + 1, by omega, by go_num, hide (fun i hi => ?_), hb⟩
              by_cases hi2 : i < k
              · exact HA.out i hi2
              · rw [show i = k by omega, HS.out, riseR, decide_eq_true Hc.out]
            case measure => simp [intOf]; omega
          · have hc' : x ≤ y := by omega
            have Hc := hide (show riseR y x = false by simp [riseR]; omega)
            clear hc
            go_wp2_with (go_at_call 25; ((with_reducible refine (q _).mono ?_); rintro e w' ⟨rfl, rfl⟩))
            go_ret
            exact ⟨ret_bool (by rw [groupB, riseB, chainB_false (by rw [HS.out, Hc.out])]; rfl), hb⟩
    · go_wp2
      go_ret
      exact ⟨ret_bool (by rw [groupB, riseB, chainB_of (fun i hi => HA.out i (by have := Hn.out; omega)), Bool.true_and, ← Hn.out]), hb⟩

set_option maxHeartbeats 1000000 in
theorem clGroup_any (A' : Option Addr) (n c' : Nat) (l : List (Int × Int × Int × Int × Int)) (A : Option Addr) (m c : Nat) (idx : List Int) (w : World) (hl : n = l.length) (hn : m = idx.length) (hm : m ≤ 1048576) (hn2 : n ≤ 1048576) (hr' : Rd w A' (l.flatMap ccells)) (hr : Rd w A (idx.map (Value.int .i64))) :
    Calls Try.prog 17 #[.slice A' n c', .slice A m c] w fun e w' => e = .returned (.bool (callsB l && groupB n idx)) ∧ Below w.heap.size w w' := by
  have Hn := hide hn
  have Hr := hide hr
  have q := clGood_any A' n c' l w hl hn2 hr'
  have q2 := fun W hr => l1Rising_any A m c 0 ((n : Int) - 1) idx W hn hm hr
  have ew : IntKind.i64.wrap ((n : Int) - 1) = (n : Int) - 1 := IntWalk.i64_in _ (by omega)
  have Q2 := hide q2
  clear hl hn hr hr' q2
  go_enter Try.func17, Try.ntmps17
  go_wp2_with (first | (go_at_call 23; ((with_reducible refine (q).mono ?_); rintro e w1 ⟨rfl, hb1⟩); obtain ⟨hc1, hf1⟩ := bcell hb1) | (go_at_call 28; ((with_reducible refine (Q2.out _ (Hr.out.below (by assumption))).mono ?_); rintro e w2 ⟨rfl, hb2⟩); obtain ⟨hc2, hf2⟩ := bcell hb2))
  all_goals
    go_ret
    exact ⟨ret_bool (by simp [groupB, ← (show m = idx.length from Hn.out), *] <;> omega), (by repeat (first | exact Below.refl _ _ | refine below_step ?_ (by assumption) | refine below_step ?_ (Later.below _) | refine below_alloc ?_ _ | refine Below.drew ?_ | refine Below.setCell ?_ (by first | (simp; done) | (simp; omega)) _))⟩
end Go.Proofs.Ytmmeoabmjbclcaa

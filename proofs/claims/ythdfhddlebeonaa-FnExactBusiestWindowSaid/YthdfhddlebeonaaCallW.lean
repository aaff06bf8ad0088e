/- The busiest window: what each call returns. -/
import Derived.Test.YthdfhddlebeonaaCallL
namespace Go.Proofs.Ythdfhddlebeonaa
open Go.RowKit
set_option linter.unusedVariables false

def cntW (l : List (Int × Int × Int × Int × Int)) (m len : Int) : Int := ((l.filter (fun b => inB b.1 m (m + len - 1))).length : Nat)
def stepW (full : List (Int × Int × Int × Int × Int)) (len : Int) (p : Int × Int) (a : Int × Int × Int × Int × Int) : Int × Int := if p.2 < cntW full a.1 len then (a.1, cntW full a.1 len) else p
def foldW (full : List (Int × Int × Int × Int × Int)) (len : Int) (l : List (Int × Int × Int × Int × Int)) : Int × Int := l.foldl (stepW full len) (0, 0)
theorem cntW_succ {l : List (Int × Int × Int × Int × Int)} {k : Nat} {a : Int × Int × Int × Int × Int} (h : l[k]? = some a) (m len : Int) :
    cntW (l.take (k + 1)) m len = if inB a.1 m (m + len - 1) = true then cntW (l.take k) m len + 1 else cntW (l.take k) m len := by
  unfold cntW
  rw [List.take_add_one, h, List.filter_append]
  by_cases hh : inB a.1 m (m + len - 1) = true
  · simp [hh]
  · simp [hh]
theorem cntW_bd (l : List (Int × Int × Int × Int × Int)) (m len : Int) : 0 ≤ cntW l m len ∧ cntW l m len ≤ l.length := by
  unfold cntW
  have := List.length_filter_le (fun b => inB b.1 m (m + len - 1)) l
  omega
theorem foldW_succ {full l : List (Int × Int × Int × Int × Int)} {k : Nat} {a : Int × Int × Int × Int × Int} (h : l[k]? = some a) (len : Int) : foldW full len (l.take (k + 1)) = stepW full len (foldW full len (l.take k)) a := by
  unfold foldW
  rw [List.take_add_one, h, List.foldl_append]
  simp
def busyOk (l : List (Int × Int × Int × Int × Int)) (len : Int) : Bool := callsB l && inB len 1 1000 && !l.isEmpty
def busyR (l : List (Int × Int × Int × Int × Int)) (len : Int) : Int × Int := if busyOk l len then foldW l len l else (0, 0)

theorem callsB_len {l : List (Int × Int × Int × Int × Int)} (h : callsB l = true) : l.length ≤ 20 := by
  simp only [callsB, Bool.and_eq_true, decide_eq_true_eq] at h
  exact h.2
theorem callsB_elem {l : List (Int × Int × Int × Int × Int)} (h : callsB l = true) {k : Nat} {a : Int × Int × Int × Int × Int} (ha : l[k]? = some a) : callP a = true := by
  simp only [callsB, Bool.and_eq_true] at h
  exact chainB_elem h.1 ha

set_option maxRecDepth 100000 in
set_option maxHeartbeats 4000000 in
theorem implBusiestWindow_any (A : Option Addr) (n c : Nat) (len : Int) (l : List (Int × Int × Int × Int × Int)) (w : World) (hn : n = l.length) (hm : n ≤ 1048576) (hr : Rd w A (l.flatMap ccells)) :
    Calls Try.prog 26 #[.slice A n c, .int .i64 len] w fun e w' => e = .returned (.tuple #[.int .i64 (busyR l len).1, .int .i64 (busyR l len).2, .bool (busyOk l len)]) ∧ Below w.heap.size w w' := by
  have Hn := hide hn
  have Hr := hide hr
  clear hn hr
  have C1 := hide (fun w h => areCalls_any A n c l w Hn.out hm h)
  cases hv : busyOk l len with
  | false =>
    have e1 : busyR l len = (0, 0) := by simp [busyR, hv]
    rw [e1]
    have HV := hide hv
    clear hv e1
    have hz : l.isEmpty = decide (n = 0) := by rw [Hn.out]; cases l <;> simp
    have HZ := hide hz
    clear hz
    by_cases hn0 : n = 0
    · have e2 : ((n : Int) == 0) = true := by simp; omega
      have e3 : (n == 0) = true := by simp; omega
      have HN0 := hide hn0
      clear hn0
      go_enter Try.func26, Try.ntmps26
      go_wp2_with (first | (go_at_call 66; ((with_reducible refine (C1.out _ Hr.out).mono ?_); rintro e w1 ⟨rfl, hb1⟩); (first | (obtain ⟨n1, rfl⟩ := later_up n1 hb1) | (obtain ⟨n1, rfl⟩ := later_of hb1)); clear hb1) | (go_at_call 69; ((with_reducible refine (inside_any _ _ _ _).mono ?_); rintro e w' ⟨rfl, rfl⟩)))
      all_goals
        go_ret3
        exact ⟨rfl, (by repeat (first | exact Below.refl _ _ | refine below_step ?_ (by assumption) | refine below_step ?_ (Later.below _) | refine below_alloc ?_ _ | refine Below.drew ?_ | refine Below.setCell ?_ (by first | (simp; done) | (simp; omega)) _))⟩
    · have e2 : ((n : Int) == 0) = false := by simp; omega
      have e3 : (n == 0) = false := by simp; omega
      go_enter Try.func26, Try.ntmps26
      go_wp2_with (first | (go_at_call 66; ((with_reducible refine (C1.out _ Hr.out).mono ?_); rintro e w1 ⟨rfl, hb1⟩); (first | (obtain ⟨n1, rfl⟩ := later_up n1 hb1) | (obtain ⟨n1, rfl⟩ := later_of hb1)); clear hb1) | (go_at_call 69; ((with_reducible refine (inside_any _ _ _ _).mono ?_); rintro e w' ⟨rfl, rfl⟩)))
      all_goals first
        | (go_ret3; exact ⟨rfl, (by repeat (first | exact Below.refl _ _ | refine below_step ?_ (by assumption) | refine below_step ?_ (Later.below _) | refine below_alloc ?_ _ | refine Below.drew ?_ | refine Below.setCell ?_ (by first | (simp; done) | (simp; omega)) _))⟩)
        | (exfalso; ((try simp only [Bool.not_eq_true'] at *); (try simp only [Bool.not_eq_false'] at *)); have hv := HV.out; simp [busyOk, HZ.out, *] at hv)
  | true =>
    simp only [busyOk, Bool.and_eq_true] at hv
    obtain ⟨⟨hl, hw⟩, hz⟩ := hv
    have c2 := fun w => inside_any len 1 1000 w
    rw [hl] at C1
    rw [hw] at c2
    have hn20 : n ≤ 20 := by have := callsB_len hl; have := Hn.out; omega
    have hn0 : 0 < n := by
      rw [Hn.out]
      cases l with
      | nil => simp at hz
      | cons a l => simp
    have e2 : ((n : Int) == 0) = false := by simp; omega
    have e3 : (n == 0) = false := by simp; omega
    obtain ⟨w0, w1⟩ := inB_iff.1 hw
    have HL := hide hl
    have HW := hide hw
    have HZ := hide hz
    clear hl hw hz hm
    go_enter Try.func26, Try.ntmps26
    go_wp2_with (first | (go_at_call 66; ((with_reducible refine (C1.out _ Hr.out).mono ?_); rintro e w1 ⟨rfl, hb1⟩); (first | (obtain ⟨n1, rfl⟩ := later_up n1 hb1) | (obtain ⟨n1, rfl⟩ := later_of hb1)); clear hb1) | (go_at_call 69; ((with_reducible refine (c2 _).mono ?_); rintro e w' ⟨rfl, rfl⟩)))
    go_loopw [7, 8, 29] (fun best most t wr => ∃ k : Nat, k ≤ n ∧ t = .int .i64 k ∧ best = .int .i64 (foldW l len (l.take k)).1 ∧ most = .int .i64 (foldW l len (l.take k)).2 ∧ Below w.heap.size w wr) (fun _ _ t _ => n - (intOf t).toNat)
    case atStart => exact ⟨0, by omega, rfl, rfl, rfl, n1.below⟩
    case round =>
      obtain ⟨k, hk, rfl, rfl, rfl, hb⟩ := hrel
      by_cases hlt : k < n
      · obtain ⟨wo, rfl⟩ : ∃ wo : World, wo = wr := ⟨_, rfl⟩
        obtain ⟨⟨x0, x1, x2, x3, x4⟩, hh⟩ : ∃ h, l[k]? = some h := ⟨_, List.getElem?_eq_getElem (by rw [← Hn.out]; exact hlt)⟩
        obtain ⟨b, off, rfl, hbs, c0, c1, c2', c3, c4⟩ := (Hr.out.below hb).get5 (fun _ => rfl) hh rfl
        have hx : callB x0 x1 x2 x3 x4 = true := callsB_elem HL.out hh
        obtain ⟨⟨a0, a1⟩, _⟩ := callB_ok hx
        have hs := foldW_succ (full := l) hh len
        have Hs := hide hs
        have Hh := hide hh
        clear hh hx hs
        dsimp only at c0 c1 c2' c3 c4
        go_wp2_with fail
        go_loopw [11, 35] (fun cn u wr => ∃ j : Nat, j ≤ n ∧ u = .int .i64 j ∧ cn = .int .i64 (cntW (l.take j) x0 len) ∧ Below (wo.alloc (.cells #[.int .i64 x0, .int .i64 x1, .int .i64 x2, .int .i64 x3, .int .i64 x4] 26)).heap.size (wo.alloc (.cells #[.int .i64 x0, .int .i64 x1, .int .i64 x2, .int .i64 x3, .int .i64 x4] 26)) wr) (fun _ u _ => n - (intOf u).toNat)
        case atStart => exact ⟨0, by omega, rfl, by simp [cntW], Below.refl _ _⟩
        case round =>
          obtain ⟨j, hj, rfl, rfl, hb2⟩ := hrel
          have hB : Below w.heap.size w wr := below_step (below_alloc hb _) hb2
          have HB := hide hB
          clear hB
          obtain ⟨n2, rfl⟩ := later_of hb2
          obtain ⟨q0, q1⟩ := cntW_bd (l.take j) x0 len
          have q2 : (l.take j).length ≤ j := List.length_take_le _ _
          by_cases hlt2 : j < n
          · obtain ⟨⟨y0, y1, y2, y3, y4⟩, hy⟩ : ∃ h, l[j]? = some h := ⟨_, List.getElem?_eq_getElem (by rw [← Hn.out]; exact hlt2)⟩
            obtain ⟨b', off', hA', hbs', d0, d1, d2, d3, d4⟩ := (Hr.out.below HB.out).get5 (fun _ => rfl) hy rfl
            injection hA' with hA'
            injection hA' with hA1 hA2
            subst hA1
            subst hA2
            dsimp only at d0 d1 d2 d3 d4
            have ht := cntW_succ hy x0 len
            have Ht := hide ht
            clear ht hy
            have Q := hide (fun w => inside_any y0 x0 (x0 + len - 1) w)
            cases hc : inB y0 x0 (x0 + len - 1) with
            | true =>
              rw [hc] at Q
              have HC := hide hc
              clear hc
              go_wp2_with (go_at_call 69; ((with_reducible refine (Q.out _).mono ?_); rintro e w' ⟨rfl, rfl⟩))
              go_roundw
              case rel => exact ⟨j + 1, by omega, by go_num, by rw [Ht.out, if_pos HC.out], below_alloc n2.below _⟩
              case measure => simp [intOf]; omega
            | false =>
              rw [hc] at Q
              have HC := hide hc
              clear hc
              go_wp2_with (go_at_call 69; ((with_reducible refine (Q.out _).mono ?_); rintro e w' ⟨rfl, rfl⟩))
              go_roundw
              case rel => exact ⟨j + 1, by omega, by go_num, by rw [Ht.out, if_neg (by rw [HC.out]; simp)], below_alloc n2.below _⟩
              case measure => simp [intOf]; omega
          · have ej : l.take j = l := List.take_of_length_le (by have := Hn.out; omega)
            have EJ := hide ej
            clear ej q2
            by_cases hc : (foldW l len (l.take k)).2 < cntW (l.take j) x0 len
            · go_wp2
              go_roundw
              case rel =>
                refine ⟨k + 1, by omega, by go_num, ?_, ?_, HB.out⟩
                · rw [Hs.out, stepW, ← congrArg (fun z => cntW z x0 len) EJ.out, if_pos hc]
                · rw [Hs.out, stepW, ← congrArg (fun z => cntW z x0 len) EJ.out, if_pos hc]
              case measure => simp [intOf]; omega
            · go_wp2
              go_roundw
              case rel =>
                refine ⟨k + 1, by omega, by go_num, ?_, ?_, HB.out⟩
                · rw [Hs.out, stepW, ← congrArg (fun z => cntW z x0 len) EJ.out, if_neg hc]
                · rw [Hs.out, stepW, ← congrArg (fun z => cntW z x0 len) EJ.out, if_neg hc]
              case measure => simp [intOf]; omega
      · go_wp2
        go_ret3
        have ek : l.take k = l := List.take_of_length_le (by have := Hn.out; omega)
        have eb : busyOk l len = true := by rw [busyOk, HL.out, HW.out, HZ.out]; rfl
        exact ⟨ret_tup3 (by rw [busyR, eb, ek]; rfl) (by rw [busyR, eb, ek]; rfl) (by first | rfl | exact eb.symm), hb⟩
set_option maxRecDepth 100000 in
set_option maxHeartbeats 4000000 in
theorem specBusiestWindow_any (A : Option Addr) (n c : Nat) (len : Int) (l : List (Int × Int × Int × Int × Int)) (w : World) (hn : n = l.length) (hm : n ≤ 1048576) (hr : Rd w A (l.flatMap ccells)) :
    Calls Try.prog 25 #[.slice A n c, .int .i64 len] w fun e w' => e = .returned (.tuple #[.int .i64 (busyR l len).1, .int .i64 (busyR l len).2, .bool (busyOk l len)]) ∧ Below w.heap.size w w' := by
  have Hn := hide hn
  have Hr := hide hr
  clear hn hr
  have C1 := hide (fun w h => clGood_any A n c l w Hn.out hm h)
  cases hv : busyOk l len with
  | false =>
    have e1 : busyR l len = (0, 0) := by simp [busyR, hv]
    rw [e1]
    have HV := hide hv
    clear hv e1
    have hz : l.isEmpty = decide (n = 0) := by rw [Hn.out]; cases l <;> simp
    have HZ := hide hz
    clear hz
    by_cases hn0 : n = 0
    · have e2 : ((n : Int) == 0) = true := by simp; omega
      have e3 : (n == 0) = true := by simp; omega
      have HN0 := hide hn0
      clear hn0
      go_enter Try.func25, Try.ntmps25
      go_wp2_with (first | (go_at_call 65; ((with_reducible refine (C1.out _ Hr.out).mono ?_); rintro e w1 ⟨rfl, hb1⟩); (first | (obtain ⟨n1, rfl⟩ := later_up n1 hb1) | (obtain ⟨n1, rfl⟩ := later_of hb1)); clear hb1) | (go_at_call 68; ((with_reducible refine (l1In_any _ _ _ _).mono ?_); rintro e w' ⟨rfl, rfl⟩)))
      all_goals
        go_ret3
        exact ⟨rfl, (by repeat (first | exact Below.refl _ _ | refine below_step ?_ (by assumption) | refine below_step ?_ (Later.below _) | refine below_alloc ?_ _ | refine Below.drew ?_ | refine Below.setCell ?_ (by first | (simp; done) | (simp; omega)) _))⟩
    · have e2 : ((n : Int) == 0) = false := by simp; omega
      have e3 : (n == 0) = false := by simp; omega
      go_enter Try.func25, Try.ntmps25
      go_wp2_with (first | (go_at_call 65; ((with_reducible refine (C1.out _ Hr.out).mono ?_); rintro e w1 ⟨rfl, hb1⟩); (first | (obtain ⟨n1, rfl⟩ := later_up n1 hb1) | (obtain ⟨n1, rfl⟩ := later_of hb1)); clear hb1) | (go_at_call 68; ((with_reducible refine (l1In_any _ _ _ _).mono ?_); rintro e w' ⟨rfl, rfl⟩)))
      all_goals first
        | (go_ret3; exact ⟨rfl, (by repeat (first | exact Below.refl _ _ | refine below_step ?_ (by assumption) | refine below_step ?_ (Later.below _) | refine below_alloc ?_ _ | refine Below.drew ?_ | refine Below.setCell ?_ (by first | (simp; done) | (simp; omega)) _))⟩)
        | (exfalso; ((try simp only [Bool.not_eq_true'] at *); (try simp only [Bool.not_eq_false'] at *)); have hv := HV.out; simp [busyOk, HZ.out, *] at hv)
  | true =>
    simp only [busyOk, Bool.and_eq_true] at hv
    obtain ⟨⟨hl, hw⟩, hz⟩ := hv
    have c2 := fun w => l1In_any len 1 1000 w
    rw [hl] at C1
    rw [hw] at c2
    have hn20 : n ≤ 20 := by have := callsB_len hl; have := Hn.out; omega
    have hn0 : 0 < n := by
      rw [Hn.out]
      cases l with
      | nil => simp at hz
      | cons a l => simp
    have e2 : ((n : Int) == 0) = false := by simp; omega
    have e3 : (n == 0) = false := by simp; omega
    obtain ⟨w0, w1⟩ := inB_iff.1 hw
    have HL := hide hl
    have HW := hide hw
    have HZ := hide hz
    clear hl hw hz hm
    go_enter Try.func25, Try.ntmps25
    go_wp2_with (first | (go_at_call 65; ((with_reducible refine (C1.out _ Hr.out).mono ?_); rintro e w1 ⟨rfl, hb1⟩); (first | (obtain ⟨n1, rfl⟩ := later_up n1 hb1) | (obtain ⟨n1, rfl⟩ := later_of hb1)); clear hb1) | (go_at_call 68; ((with_reducible refine (c2 _).mono ?_); rintro e w' ⟨rfl, rfl⟩)))
    go_loopw [7, 8, 29] (fun best most t wr => ∃ k : Nat, k ≤ n ∧ t = .int .i64 k ∧ best = .int .i64 (foldW l len (l.take k)).1 ∧ most = .int .i64 (foldW l len (l.take k)).2 ∧ Below w.heap.size w wr) (fun _ _ t _ => n - (intOf t).toNat)
    case atStart => exact ⟨0, by omega, rfl, rfl, rfl, n1.below⟩
    case round =>
      obtain ⟨k, hk, rfl, rfl, rfl, hb⟩ := hrel
      by_cases hlt : k < n
      · obtain ⟨wo, rfl⟩ : ∃ wo : World, wo = wr := ⟨_, rfl⟩
        obtain ⟨⟨x0, x1, x2, x3, x4⟩, hh⟩ : ∃ h, l[k]? = some h := ⟨_, List.getElem?_eq_getElem (by rw [← Hn.out]; exact hlt)⟩
        obtain ⟨b, off, rfl, hbs, c0, c1, c2', c3, c4⟩ := (Hr.out.below hb).get5 (fun _ => rfl) hh rfl
        have hx : callB x0 x1 x2 x3 x4 = true := callsB_elem HL.out hh
        obtain ⟨⟨a0, a1⟩, _⟩ := callB_ok hx
        have hs := foldW_succ (full := l) hh len
        have Hs := hide hs
        have Hh := hide hh
        clear hh hx hs
        dsimp only at c0 c1 c2' c3 c4
        go_wp2_with fail
        go_loopw [11, 35] (fun cn u wr => ∃ j : Nat, j ≤ n ∧ u = .int .i64 j ∧ cn = .int .i64 (cntW (l.take j) x0 len) ∧ Below (wo.alloc (.cells #[.int .i64 x0, .int .i64 x1, .int .i64 x2, .int .i64 x3, .int .i64 x4] 26)).heap.size (wo.alloc (.cells #[.int .i64 x0, .int .i64 x1, .int .i64 x2, .int .i64 x3, .int .i64 x4] 26)) wr) (fun _ u _ => n - (intOf u).toNat)
        case atStart => exact ⟨0, by omega, rfl, by simp [cntW], Below.refl _ _⟩
        case round =>
          obtain ⟨j, hj, rfl, rfl, hb2⟩ := hrel
          have hB : Below w.heap.size w wr := below_step (below_alloc hb _) hb2
          have HB := hide hB
          clear hB
          obtain ⟨n2, rfl⟩ := later_of hb2
          obtain ⟨q0, q1⟩ := cntW_bd (l.take j) x0 len
          have q2 : (l.take j).length ≤ j := List.length_take_le _ _
          by_cases hlt2 : j < n
          · obtain ⟨⟨y0, y1, y2, y3, y4⟩, hy⟩ : ∃ h, l[j]? = some h := ⟨_, List.getElem?_eq_getElem (by rw [← Hn.out]; exact hlt2)⟩
            obtain ⟨b', off', hA', hbs', d0, d1, d2, d3, d4⟩ := (Hr.out.below HB.out).get5 (fun _ => rfl) hy rfl
            injection hA' with hA'
            injection hA' with hA1 hA2
            subst hA1
            subst hA2
            dsimp only at d0 d1 d2 d3 d4
            have ht := cntW_succ hy x0 len
            have Ht := hide ht
            clear ht hy
            have Q := hide (fun w => l1In_any y0 x0 (x0 + len - 1) w)
            cases hc : inB y0 x0 (x0 + len - 1) with
            | true =>
              rw [hc] at Q
              have HC := hide hc
              clear hc
              go_wp2_with (go_at_call 68; ((with_reducible refine (Q.out _).mono ?_); rintro e w' ⟨rfl, rfl⟩))
              go_roundw
              case rel => exact ⟨j + 1, by omega, by go_num, by rw [Ht.out, if_pos HC.out], below_alloc n2.below _⟩
              case measure => simp [intOf]; omega
            | false =>
              rw [hc] at Q
              have HC := hide hc
              clear hc
              go_wp2_with (go_at_call 68; ((with_reducible refine (Q.out _).mono ?_); rintro e w' ⟨rfl, rfl⟩))
              go_roundw
              case rel => exact ⟨j + 1, by omega, by go_num, by rw [Ht.out, if_neg (by rw [HC.out]; simp)], below_alloc n2.below _⟩
              case measure => simp [intOf]; omega
          · have ej : l.take j = l := List.take_of_length_le (by have := Hn.out; omega)
            have EJ := hide ej
            clear ej q2
            by_cases hc : (foldW l len (l.take k)).2 < cntW (l.take j) x0 len
            · go_wp2
              go_roundw
              case rel =>
                refine ⟨k + 1, by omega, by go_num, ?_, ?_, HB.out⟩
                · rw [Hs.out, stepW, ← congrArg (fun z => cntW z x0 len) EJ.out, if_pos hc]
                · rw [Hs.out, stepW, ← congrArg (fun z => cntW z x0 len) EJ.out, if_pos hc]
              case measure => simp [intOf]; omega
            · go_wp2
              go_roundw
              case rel =>
                refine ⟨k + 1, by omega, by go_num, ?_, ?_, HB.out⟩
                · rw [Hs.out, stepW, ← congrArg (fun z => cntW z x0 len) EJ.out, if_neg hc]
                · rw [Hs.out, stepW, ← congrArg (fun z => cntW z x0 len) EJ.out, if_neg hc]
              case measure => simp [intOf]; omega
      · go_wp2
        go_ret3
        have ek : l.take k = l := List.take_of_length_le (by have := Hn.out; omega)
        have eb : busyOk l len = true := by rw [busyOk, HL.out, HW.out, HZ.out]; rfl
        exact ⟨ret_tup3 (by rw [busyR, eb, ek]; rfl) (by rw [busyR, eb, ek]; rfl) (by first | rfl | exact eb.symm), hb⟩
end Go.Proofs.Ythdfhddlebeonaa

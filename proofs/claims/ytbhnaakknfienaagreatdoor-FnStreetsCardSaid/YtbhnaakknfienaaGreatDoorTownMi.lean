/- MiddleNode. -/
import Derived.Test.YtbhnaakknfienaaGreatDoorTownDe
namespace Go.Proofs.YtbhnaakknfienaaGreatDoor
open Go.RowKit
set_option linter.unusedVariables false

def minN (d : Nat → Int) : Nat → Int
  | 0 => d 0
  | i + 1 => min (minN d i) (d (i + 1))
def maxN (d : Nat → Int) : Nat → Int
  | 0 => d 0
  | i + 1 => max (maxN d i) (d (i + 1))
def maxZ (d : Nat → Int) : Nat → Int
  | 0 => 0
  | i + 1 => max (maxZ d i) (d i)
def allFin (d : Nat → Int) (n : Nat) : Bool := (List.range n).all fun v => decide (0 ≤ d v)
theorem allFin_iff {d : Nat → Int} {n : Nat} : allFin d n = true ↔ ∀ v, v < n → 0 ≤ d v := by simp [allFin]
theorem minN_neg {d : Nat → Int} : ∀ n, minN d n < 0 ↔ ∃ v, v < n + 1 ∧ d v < 0
  | 0 => by
    constructor
    · intro h; exact ⟨0, by omega, h⟩
    · rintro ⟨v, hv, h⟩; rw [show v = 0 by omega] at h; exact h
  | n + 1 => by
    have ih := minN_neg (d := d) n
    simp only [minN]
    constructor
    · intro h
      by_cases h1 : minN d n < 0
      · obtain ⟨v, hv, hd⟩ := ih.1 h1; exact ⟨v, by omega, hd⟩
      · exact ⟨n + 1, by omega, by omega⟩
    · rintro ⟨v, hv, hd⟩
      by_cases h1 : v = n + 1
      · subst h1; omega
      · have := ih.2 ⟨v, by omega, hd⟩; omega
theorem minN_fin {d : Nat → Int} {n : Nat} (hn : 1 ≤ n) : decide (minN d (n - 1) < 0) = !allFin d n := by
  rw [Bool.eq_iff_iff]
  simp only [decide_eq_true_eq, Bool.not_eq_true', minN_neg, ← Bool.not_eq_true, allFin_iff]
  constructor
  · rintro ⟨v, hv, hd⟩ h
    have := h v (by omega)
    omega
  · intro h
    refine Classical.byContradiction fun hc => h fun v hv => ?_
    by_cases h0 : 0 ≤ d v
    · exact h0
    · exact absurd ⟨v, by omega, by omega⟩ hc
theorem maxN_Z {d : Nat → Int} : ∀ n, (∀ v, v < n + 1 → 0 ≤ d v) → maxN d n = maxZ d (n + 1)
  | 0, h => by have := h 0 (by omega); simp only [maxN, maxZ]; omega
  | n + 1, h => by
    rw [maxN, maxN_Z n (fun v hv => h v (by omega))]
    rfl
theorem maxZ_bd {d : Nat → Int} {B : Int} (hB : 0 ≤ B) : ∀ n, (∀ v, v < n → d v ≤ B) → 0 ≤ maxZ d n ∧ maxZ d n ≤ B
  | 0, _ => by simp only [maxZ]; omega
  | n + 1, h => by
    have ih := maxZ_bd hB n (fun v hv => h v (by omega))
    have := h n (by omega)
    simp only [maxZ]
    omega
/-- The greatest travel time from a node; -1 where one lacks. -/
def worstF (k : Nat) (l : List (Int × Int × Int)) (x : Nat) : Int := if allFin (timesF k l x) k then maxZ (timesF k l x) k else -1
def midF (W : Nat → Int) : Nat → Nat
  | 0 => 0
  | n + 1 => if W n < W (midF W n) then n else midF W n
theorem midF_lt (W : Nat → Int) : ∀ n, 1 ≤ n → midF W n < n
  | 0, h => by omega
  | n + 1, _ => by
    simp only [midF]
    split
    · omega
    · cases n with
      | zero => simp [midF]
      | succ n => have := midF_lt W (n + 1) (by omega); omega
theorem fin_all {k : Nat} {l : List (Int × Int × Int)} (hf : Fits k l) (hk : 1 ≤ k) (h : allFin (timesF k l 0) k = true) : ∀ x, x < k → allFin (timesF k l x) k = true := by
  intro x hx
  rw [allFin_iff] at *
  intro v hv
  have d0 := times_dist hf (show 0 < k by omega)
  have dx := times_dist hf hx
  have h1 := (d0.walk x (h x hx)).rev (edges_sym l)
  have h2 := d0.walk v (h v hv)
  exact (dx.least v _ (h1.append h2)).1
theorem worst_bd {k x : Nat} {l : List (Int × Int × Int)} (hk : TownOk k l) (hx : x < k) : -1 ≤ worstF k l x ∧ worstF k l x ≤ 5000000 := by
  unfold worstF
  split
  · have := maxZ_bd (d := timesF k l x) (B := 5000000) (by omega) k (fun v _ => (mid_bd (x := x) hk.fits hk.len hk.hi (F := []) (by simp) (by simp) v).2)
    omega
  · omega

def middleOk (nd : Int) (l : List (Int × Int × Int)) : Bool := townB nd l && decide (0 ≤ worstF nd.toNat l 0)
def middleV (nd : Int) (l : List (Int × Int × Int)) : Int := if middleOk nd l then midF (worstF nd.toNat l) nd.toNat else 0
def middleW (nd : Int) (l : List (Int × Int × Int)) : Int := if middleOk nd l then worstF nd.toNat l (midF (worstF nd.toNat l) nd.toNat) else 0
theorem worst_fin {k x : Nat} {l : List (Int × Int × Int)} : decide (0 ≤ worstF k l x) = allFin (timesF k l x) k := by
  unfold worstF
  cases h : allFin (timesF k l x) k with
  | true =>
    have : ∀ n, 0 ≤ maxZ (timesF k l x) n := fun n => by
      induction n with
      | zero => simp [maxZ]
      | succ n ih => simp only [maxZ]; omega
    simpa using this k
  | false => simp

set_option maxHeartbeats 1000000 in
theorem minInts_any (B g nd : Nat) (d : Nat → Int) (w : World) (h1 : 1 ≤ nd) (h2 : nd ≤ 14) (ho : OwnD w B g nd d) :
    Calls Tryz.prog 71 #[.slice (some ⟨g, 0, none⟩) nd nd] w fun e w' => e = .returned (.int .i64 (minN d (nd - 1))) ∧ w = w' := by
  have HO := hide ho
  have c0 := ho.cell (i := 0) (by omega)
  clear ho
  go_enter Tryz.func71, Tryz.ntmps71
  go_wp2_with fail
  go_loop [3, 4] (fun m i => ∃ k : Nat, 1 ≤ k ∧ k ≤ nd ∧ i = .int .i64 k ∧ m = .int .i64 (minN d (k - 1))) (fun _ i => nd - (intOf i).toNat)
  case atStart => exact ⟨1, by omega, by omega, rfl, rfl⟩
  case round =>
    obtain ⟨k, hk1, hk2, rfl, rfl⟩ := hrel
    by_cases hlt : k < nd
    · have c1 := HO.out.cell hlt
      have HM : Hid (minN d (k + 1 - 1) = min (minN d (k - 1)) (d k)) := hide (by obtain ⟨j, rfl⟩ : ∃ j, k = j + 1 := ⟨k - 1, by omega⟩; rfl)
      clear c0
      generalize d k = dk at *
      go_wp2
      all_goals
        go_round
        case rel => exact ⟨k + 1, by omega, by omega, by go_num, by rw [HM.out]; congr 1; omega⟩
        case measure => simp [intOf]; omega
    · have hkn : k = nd := by omega
      subst hkn
      go_wp2
      go_ret
      exact ⟨rfl, rfl⟩

set_option maxHeartbeats 1000000 in
theorem maxInts_any (B g nd : Nat) (d : Nat → Int) (w : World) (h1 : 1 ≤ nd) (h2 : nd ≤ 14) (ho : OwnD w B g nd d) :
    Calls Tryz.prog 72 #[.slice (some ⟨g, 0, none⟩) nd nd] w fun e w' => e = .returned (.int .i64 (maxN d (nd - 1))) ∧ w = w' := by
  have HO := hide ho
  have c0 := ho.cell (i := 0) (by omega)
  clear ho
  go_enter Tryz.func72, Tryz.ntmps72
  go_wp2_with fail
  go_loop [3, 4] (fun m i => ∃ k : Nat, 1 ≤ k ∧ k ≤ nd ∧ i = .int .i64 k ∧ m = .int .i64 (maxN d (k - 1))) (fun _ i => nd - (intOf i).toNat)
  case atStart => exact ⟨1, by omega, by omega, rfl, rfl⟩
  case round =>
    obtain ⟨k, hk1, hk2, rfl, rfl⟩ := hrel
    by_cases hlt : k < nd
    · have c1 := HO.out.cell hlt
      have HM : Hid (maxN d (k + 1 - 1) = max (maxN d (k - 1)) (d k)) := hide (by obtain ⟨j, rfl⟩ : ∃ j, k = j + 1 := ⟨k - 1, by omega⟩; rfl)
      clear c0
      generalize d k = dk at *
      go_wp2
      all_goals
        go_round
        case rel => exact ⟨k + 1, by omega, by omega, by go_num, by rw [HM.out]; congr 1; omega⟩
        case measure => simp [intOf]; omega
    · have hkn : k = nd := by omega
      subst hkn
      go_wp2
      go_ret
      exact ⟨rfl, rfl⟩

set_option maxRecDepth 100000 in
set_option maxHeartbeats 2000000 in
theorem toWorst_any (k n c x : Nat) (A : Option Addr) (l : List (Int × Int × Int)) (w : World) (hn : n = l.length) (hk : TownOk k l) (hx : x < k) (hr : Rd w A (l.flatMap tcells)) :
    Calls Tryz.prog 73 #[.agg #[.int .i64 (k : Int), .slice A n c], .int .i64 (x : Int)] w fun e w' => e = .returned (.int .i64 (worstF k l x)) ∧ Below w.heap.size w w' := by
  have h1 := hk.lo
  have h2 := hk.hi
  have Q := hide (toTimes_any k n c x A l (w.alloc (.cells #[.int .i64 (k : Int), .slice A n c] 26)) hn (by have := hk.len; omega) h2 hx hk.fits (hr.alloc _))
  have HW : Hid (∀ b, allFin (timesF k l x) k = b → worstF k l x = if b then maxZ (timesF k l x) k else -1) := hide (fun b hb => by rw [worstF, hb])
  clear hn hk hr
  go_enter Tryz.func73, Tryz.ntmps73
  go_wp2_with fail
  refine Q.out.mono ?_
  rintro e w1 ⟨rfl, ho, hq⟩
  rw [show (w.alloc (.cells #[.int .i64 (k : Int), .slice A n c] 26)).heap.size + 1 = w.heap.size + 1 + 1 by simp] at ho
  have HO := hide ho
  have HB : Hid (Below w.heap.size w w1) := hide (below_step (below_alloc (Below.refl _ _) _) hq)
  clear ho hq Q
  generalize timesF k l x = D at *
  go_wp2_with fail
  go_loop [5, 12] (fun m i => ∃ j : Nat, j ≤ k ∧ i = .int .i64 j ∧ m = .int .i64 (maxZ D j) ∧ Hid (∀ v, v < j → 0 ≤ D v)) (fun _ i => k - (intOf i).toNat)
  case atStart => exact ⟨0, by omega, rfl, rfl, hide (fun v hv => absurd hv (by omega))⟩
  case round =>
    obtain ⟨j, hj, rfl, rfl, HA⟩ := hrel
    by_cases hlt : j < k
    · have c1 := HO.out.cell hlt
      by_cases h0 : 0 ≤ D j
      · have HA2 : Hid (∀ v, v < j + 1 → 0 ≤ D v) := hide (fun v hv => by
          by_cases h : v = j
          · subst h; exact h0
          · exact HA.out v (by omega))
        have HM : Hid (maxZ D (j + 1) = max (maxZ D j) (D j)) := hide rfl
        generalize D j = dj at *
        go_wp2_with (go_at_call 53; ((with_reducible refine (l1Most_any _ _ _).mono ?_); rintro e w' ⟨rfl, rfl⟩))
        go_round
        case rel => exact ⟨j + 1, by omega, by go_num, by rw [HM.out], HA2⟩
        case measure => simp [intOf]; omega
      · have HR : Hid (worstF k l x = -1) := hide (HW.out false (by
          rw [← Bool.not_eq_true, allFin_iff]
          intro h
          exact h0 (h j hlt)))
        generalize D j = dj at *
        go_wp2
        go_ret
        exact ⟨ret_int (by rw [HR.out]), HB.out⟩
    · have hjk : j = k := by omega
      have HR : Hid (worstF k l x = maxZ D j) := hide (by
        have := HW.out true (by rw [allFin_iff]; exact fun v hv => HA.out v (by omega))
        rw [hjk]
        simpa using this)
      clear hjk
      go_wp2
      go_ret
      exact ⟨ret_int (by rw [HR.out]), HB.out⟩

theorem middle_no {nd : Int} {l : List (Int × Int × Int)} (h : middleOk nd l = false) : middleV nd l = 0 ∧ middleW nd l = 0 := by rw [middleV, middleW, h]; exact ⟨rfl, rfl⟩
theorem middle_yes {k : Nat} {l : List (Int × Int × Int)} (h : middleOk k l = true) : middleV k l = midF (worstF k l) k ∧ middleW k l = worstF k l (midF (worstF k l) k) := by rw [middleV, middleW, h]; exact ⟨rfl, rfl⟩

set_option maxRecDepth 100000 in
set_option maxHeartbeats 4000000 in
theorem specMiddleNode_any (nd : Int) (A : Option Addr) (n c : Nat) (l : List (Int × Int × Int)) (w : World) (hn : n = l.length) (hnc : n ≤ c) (hc : c ≤ maxLen) (hr : Rd w A (l.flatMap tcells)) :
    Calls Tryz.prog 30 #[.agg #[.int .i64 nd, .slice A n c]] w fun e w' => e = .returned (.tuple #[.int .i64 (middleV nd l), .int .i64 (middleW nd l), .bool (middleOk nd l)]) ∧ Below w.heap.size w w' := by
  have Hn := hide hn
  have Hr := hide hr
  have hm : n ≤ maxLen := Nat.le_trans hnc hc
  have HF0 := hide (Row.new w #[.int .i64 nd, .slice A n c] 26)
  have Q := hide (toGood_any nd A n c l _ hn hm (hr.alloc (.cells #[.int .i64 nd, .slice A n c] 26)))
  clear hn hr hnc hc
  go_enter Tryz.func30, Tryz.ntmps30
  go_wp2_with fail
  refine Q.out.mono ?_
  rintro e w1 ⟨rfl, hq⟩
  have HF1 := hide (HF0.out.below hq)
  have HW1 : Hid (Below w.heap.size w w1) := hide (below_step (below_alloc (Below.refl _ _) _) hq)
  clear hq Q HF0
  have a0 := HF1.out.at 0 rfl
  have a1 := HF1.out.at 1 rfl
  cases ht : townB nd l with
  | false =>
    have HN := hide (middle_no (nd := nd) (l := l) (by rw [middleOk, ht]; rfl))
    have HM : Hid (middleOk nd l = false) := hide (by rw [middleOk, ht]; rfl)
    clear ht
    go_wp2
    go_ret3
    exact ⟨ret_tup3 HN.out.1.symm HN.out.2.symm HM.out.symm, HW1.out⟩
  | true =>
    have HT := hide ht
    obtain ⟨k, rfl, hk⟩ := townB_ok ht
    have h1 := hk.lo
    have h2 := hk.hi
    have HK := hide hk
    have hw0 := worst_bd hk (show 0 < k by omega)
    have HM0 : Hid (∀ b, decide (0 ≤ worstF k l 0) = b → middleOk k l = b) := hide (fun b hb => by rw [middleOk, ht]; exact hb)
    clear ht hk
    go_wp2_with fail
    refine (toWorst_any k n c 0 A l _ Hn.out HK.out (by omega) (Hr.out.below HW1.out)).mono ?_
    rintro e w2 ⟨rfl, hq⟩
    have HF2 := hide (HF1.out.below hq)
    have HW2 : Hid (Below w.heap.size w w2) := hide (below_step HW1.out hq)
    clear hq a0 a1 HF1 HW1
    by_cases h0 : 0 ≤ worstF k l 0
    · have HM : Hid (middleOk k l = true) := hide (HM0.out true (by simpa using h0))
      have HY := hide (middle_yes HM.out)
      have HWB := hide (fun x hx => worst_bd HK.out (x := x) hx)
      have HML := hide (fun n hn => midF_lt (worstF k l) n hn)
      have HMS : Hid (∀ n, midF (worstF k l) (n + 1) = if worstF k l n < worstF k l (midF (worstF k l) n) then n else midF (worstF k l) n) := hide (fun n => rfl)
      have QW := hide (fun (x : Nat) (W : World) (hx : x < k) (h : Rd W A (l.flatMap tcells)) => toWorst_any k n c x A l W Hn.out HK.out hx h)
      have HS0 : Hid (midF (worstF k l) 0 = 0) := hide rfl
      clear HM0
      generalize worstF k l = W at *
      go_wp2_with fail
      go_loopw [5, 6] (fun b t wr => ∃ m : Nat, m ≤ k ∧ b = .int .i64 (midF W m : Nat) ∧ t = .int .i64 m ∧ Hid (Row wr w.heap.size [.int .i64 (k : Int), .slice A n c]) ∧ Hid (Below w.heap.size w wr)) (fun _ t _ => k - (intOf t).toNat)
      case atStart => exact ⟨0, by omega, by rw [HS0.out]; rfl, rfl, HF2, HW2⟩
      case round =>
        obtain ⟨m, hm, rfl, rfl, HF, HB⟩ := hrel
        clear HF2 HW2
        have a0 := HF.out.at 0 rfl
        have a1 := HF.out.at 1 rfl
        have z0 := HF.out.1
        by_cases hlt : m < k
        · have hb : midF W m < k := by
            by_cases h : m = 0
            · rw [h, HS0.out]; omega
            · have := HML.out m (by omega); omega
          have HN := HMS.out m
          have HNX := hide HN
          have hwm := HWB.out m hlt
          have hwb := HWB.out (midF W m) hb
          have HBL := hide (fun (q : Later wr) => Hr.out.below (below_step HB.out q.below))
          clear HN h0 hw0
          generalize midF W m = bst at *
          generalize hv1 : W m = v1 at *
          generalize hv2 : W bst = v2 at *
          have Q1 := hide (fun (q : Later wr) => by have := QW.out m q.w hlt (HBL.out q); rw [hv1] at this; exact this)
          have Q2 := hide (fun (q : Later wr) => by have := QW.out bst q.w hb (HBL.out q); rw [hv2] at this; exact this)
          clear hv1 hv2
          go_wp2_with fail
          refine wp_region_later (by kernel_rfl) (by kernel_rfl) ?_
          repeat (go_big_quiet_step (first | (go_at_call 73; with_reducible exact calls_later (Q1.out _)) | (go_at_call 73; with_reducible exact calls_later (Q2.out _))))
          refine wpQuiet_nil ?_
          refine later_intro fun w3 hb3 => ?_
          have HF3 := hide (HF.out.below hb3)
          have HB3 : Hid (Below w.heap.size w w3) := hide (below_step HB.out hb3)
          clear hb3 a0 a1 z0
          by_cases hc : v1 < v2
          · have hc' : decide (v1 < v2) = true := by simpa using hc
            have HE : Hid (midF W (m + 1) = m) := hide (by rw [HNX.out, if_pos hc])
            go_wp2
            go_roundw
            case rel => exact ⟨m + 1, by omega, by rw [HE.out], by go_num, HF3, HB3⟩
            case measure => simp [intOf]; omega
          · have hc' : decide (v1 < v2) = false := by simpa using hc
            have HE : Hid (midF W (m + 1) = bst) := hide (by rw [HNX.out, if_neg hc])
            go_wp2
            go_roundw
            case rel => exact ⟨m + 1, by omega, by rw [HE.out], by go_num, HF3, HB3⟩
            case measure => simp [intOf]; omega
        · have hmk : m = k := by omega
          subst hmk
          have hb : midF W m < m := HML.out m (by omega)
          have HY2 := hide HY.out
          go_wp2_with fail
          refine (QW.out (midF W m) _ hb (Hr.out.below HB.out)).mono ?_
          rintro e w3 ⟨rfl, hq⟩
          have HB3 : Hid (Below w.heap.size w w3) := hide (below_step HB.out hq)
          clear hq
          go_wp2
          go_ret3
          exact ⟨ret_tup3 HY.out.1.symm HY.out.2.symm HM.out.symm, HB3.out⟩
    · have HM : Hid (middleOk k l = false) := hide (HM0.out false (by simpa using h0))
      have HN := hide (middle_no HM.out)
      have hneg : worstF k l 0 < 0 := by omega
      clear HM0
      generalize worstF k l 0 = v at *
      go_wp2
      go_ret3
      exact ⟨ret_tup3 HN.out.1.symm HN.out.2.symm HM.out.symm, HW2.out⟩
end Go.Proofs.YtbhnaakknfienaaGreatDoor

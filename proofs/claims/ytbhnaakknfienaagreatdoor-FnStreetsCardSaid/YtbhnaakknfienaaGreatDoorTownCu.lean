/- CutStreets. -/
import Derived.Test.YtbhnaakknfienaaGreatDoorTownDe
namespace Go.Proofs.YtbhnaakknfienaaGreatDoor
open Go.RowKit
set_option linter.unusedVariables false

/-- Whether a street's nodes have no travel time without it. -/
def cutsAt (k : Nat) (l : List (Int × Int × Int)) (q : Nat) : Bool := match l[q]? with
  | some t => decide (timesF k (cutL l q) t.1.toNat t.2.1.toNat < 0)
  | none => false
def cutsK (k : Nat) (l : List (Int × Int × Int)) (m : Nat) : List (Int × Int × Int) := (List.range m).filterMap fun q => if cutsAt k l q then l[q]? else none
theorem cutsK_succ_yes {k : Nat} {l : List (Int × Int × Int)} {m : Nat} {t : Int × Int × Int} (h : l[m]? = some t) (hc : cutsAt k l m = true) : cutsK k l (m + 1) = cutsK k l m ++ [t] := by
  simp [cutsK, List.range_succ, hc, h]
theorem cutsK_succ_no {k : Nat} {l : List (Int × Int × Int)} {m : Nat} (hc : cutsAt k l m = false) : cutsK k l (m + 1) = cutsK k l m := by
  simp [cutsK, List.range_succ, hc]
theorem cutsK_length (k : Nat) (l : List (Int × Int × Int)) (m : Nat) : (cutsK k l m).length ≤ m := by
  unfold cutsK
  exact Nat.le_trans (List.length_filterMap_le _ _) (by simp)
def cutsL (nd : Int) (l : List (Int × Int × Int)) : List (Int × Int × Int) := if townB nd l then cutsK nd.toNat l l.length else []
theorem cutsL_length (nd : Int) (l : List (Int × Int × Int)) : (cutsL nd l).length ≤ 40 := by
  unfold cutsL
  split
  · rename_i h
    exact Nat.le_trans (cutsK_length _ _ _) (townB_len h)
  · simp

def CutPost (nd : Int) (l : List (Int × Int × Int)) (w : World) (e : Ending) (w' : World) : Prop :=
  (∃ v, e = .returned (.tuple #[v, .bool (townB nd l)]) ∧ w'.ownsRow w.heap.size 39 3 v (cutsL nd l).length ((cutsL nd l).flatMap tcells)) ∧ Below w.heap.size w w'
theorem CutPost.no {nd : Int} {l : List (Int × Int × Int)} {w w' : World} (h : townB nd l = false) (hb : Below w.heap.size w w') : CutPost nd l w (.returned (.tuple #[.slice none 0 0, .bool false])) w' := by
  refine ⟨⟨.slice none 0 0, by rw [h], ?_⟩, hb⟩
  rw [cutsL, h]
  exact World.ownsRow_nil _ _ _ _
theorem CutPost.yes {k : Nat} {l : List (Int × Int × Int)} {w w' : World} {v : Value} (h : townB k l = true) (hv : w'.ownsRow w.heap.size 39 3 v (cutsK k l l.length).length ((cutsK k l l.length).flatMap tcells)) (hb : Below w.heap.size w w') : CutPost k l w (.returned (.tuple #[v, .bool true])) w' := by
  refine ⟨⟨v, by rw [h], ?_⟩, hb⟩
  rw [cutsL, h]
  exact hv
/-- The list so far, one more street appended or not. -/
structure CutRel (w wr : World) (k : Nat) (l : List (Int × Int × Int)) (m : Nat) (v : Value) : Prop where
  bel : Below w.heap.size w wr
  own : wr.ownsRow (w.heap.size + 1) 39 3 v (cutsK k l m).length ((cutsK k l m).flatMap tcells)
theorem CutRel.start {w wr : World} {k : Nat} {l : List (Int × Int × Int)} (h : Below w.heap.size w wr) : CutRel w wr k l 0 (.slice none 0 0) := ⟨h, World.ownsRow_nil _ _ _ _⟩
theorem CutRel.below {w wr w' : World} {k m : Nat} {l : List (Int × Int × Int)} {v : Value} (h : CutRel w wr k l m v) (hb : Below wr.heap.size wr w') : CutRel w w' k l m v := ⟨below_step h.bel hb, own_below h.own hb⟩

set_option maxRecDepth 100000 in
set_option maxHeartbeats 4000000 in
theorem implCutStreets_any (nd : Int) (A : Option Addr) (n c : Nat) (l : List (Int × Int × Int)) (w : World) (hn : n = l.length) (hnc : n ≤ c) (hc : c ≤ maxLen) (hr : Rd w A (l.flatMap tcells)) :
    Calls Tryz.prog 10 #[.agg #[.int .i64 nd, .slice A n c]] w (CutPost nd l w) := by
  obtain ⟨i0, hi0, hz0, hz1, hz2⟩ := info_parts infoStreet
  have Hi := hide hi0
  have Hz := hide (And.intro hz0 (And.intro hz1 hz2))
  have Hn := hide hn
  have Hr := hide hr
  have hm : n ≤ maxLen := Nat.le_trans hnc hc
  have HF0 := hide (Row.new w #[.int .i64 nd, .slice A n c] 26)
  have Q := hide (implisTown_any w.heap.size nd A n c l _ hn hm (hr.alloc _) HF0.out.1 (HF0.out.at 0 rfl) (HF0.out.at 1 rfl))
  clear hn hr hnc hc hi0 hz0 hz1 hz2
  go_enter Tryz.func10, Tryz.ntmps10
  go_wp2_with fail
  refine Q.out.mono ?_
  rintro e w1 ⟨rfl, hq⟩
  have HF1 := hide (HF0.out.below hq)
  have HW1 : Hid (Below w.heap.size w w1) := hide (below_step (below_alloc (Below.refl _ _) _) hq)
  clear hq Q HF0
  have a0 := HF1.out.at 0 rfl
  have a1 := HF1.out.at 1 rfl
  have z0 := HF1.out.1
  cases ht : townB nd l with
  | false =>
    have HN := hide ht
    clear ht
    go_wp2
    go_ret2
    exact CutPost.no HN.out HW1.out
  | true =>
    have HT := hide ht
    obtain ⟨k, rfl, hk⟩ := townB_ok ht
    have h1 := hk.lo
    have h2 := hk.hi
    have HK := hide hk
    have h40 : n ≤ 40 := by have := hk.len; have := Hn.out; omega
    clear ht hk hm
    go_wp2_with fail
    clear a0 a1 z0
    go_loopw [4, 13] (fun v t wr => ∃ m : Nat, m ≤ n ∧ t = .int .i64 m ∧ Hid (CutRel w wr k l m v) ∧ Hid (Row wr w.heap.size [.int .i64 (k : Int), .slice A n c])) (fun _ t _ => n - (intOf t).toNat)
    case atStart => exact ⟨0, by omega, rfl, hide (CutRel.start HW1.out), HF1⟩
    case round =>
      obtain ⟨m, hm, rfl, HC, HF⟩ := hrel
      clear HF1 HW1
      by_cases hlt : m < n
      · obtain ⟨⟨x0, x1, x2⟩, hh⟩ : ∃ h, l[m]? = some h := ⟨_, List.getElem?_eq_getElem (by rw [← Hn.out]; exact hlt)⟩
        have hft := fitB_iff.1 (HK.out.fits _ (List.mem_of_getElem? hh))
        dsimp only at hft
        obtain ⟨x, rfl⟩ := Int.eq_ofNat_of_zero_le hft.1
        obtain ⟨y, rfl⟩ := Int.eq_ofNat_of_zero_le (show 0 ≤ x1 by omega)
        have hx : x < k := by omega
        have hy : y < k := by omega
        clear hft
        obtain ⟨b, off, hA, hbs, c0, c1, c2⟩ := (Hr.out.below HC.out.bel).get3 (fun _ => rfl) hh rfl
        subst hA
        have Hh := hide hh
        have HCB : Hid (cutsAt k l m = decide (timesF k (cutL l m) x y < 0)) := hide (by rw [cutsAt, hh]; rfl)
        clear hh
        dsimp only at c0 c1 c2
        have HS0 := hide (Row.new wr #[.int .i64 (x : Int), .int .i64 (y : Int), .int .i64 x2] 39)
        have HFa := hide (HF.out.alloc (.cells #[.int .i64 (x : Int), .int .i64 (y : Int), .int .i64 x2] 39))
        have hbo : wr.heap.size < (wr.alloc (.cells #[.int .i64 (x : Int), .int .i64 (y : Int), .int .i64 x2] 39)).heap.size := by simp
        have hmi : (0 : Int) ≤ (m : Int) := by omega
        have hmi2 : (m : Int) < (n : Int) := by omega
        go_wp2_with fail
        refine (without_any w.heap.size k n c m _ l _ Hn.out h40 hlt (Hr.out.below (below_alloc HC.out.bel _)) (HFa.out.at 0 rfl) (HFa.out.at 1 rfl)).mono ?_
        rintro e w3 ⟨⟨v3, rfl, ho⟩, hq⟩
        obtain ⟨A2, k2, rfl, -⟩ := own_open ho
        have HR3 := hide (own_rd ho)
        have hb : Below wr.heap.size wr w3 := below_step (below_alloc (Below.refl _ _) _) hq
        have HC3 := hide (HC.out.below hb)
        have HF3 := hide (HF.out.below hb)
        have HS3 := hide (HS0.out.below hq)
        clear ho hq hb HC HF HS0 HFa hbo c0 c1 c2
        have HFB := hide (Row.new w3 #[.int .i64 (k : Int), .slice A2 (cutL l m).length k2] 26)
        have hle : (cutL l m).length ≤ 40 := Nat.le_trans (cutL_le _ _) HK.out.len
        have s0 := HS3.out.at 0 rfl
        have s1 := HS3.out.at 1 rfl
        have s2 := HS3.out.at 2 rfl
        have zs := HS3.out.1
        go_wp2_with fail
        have HBW : Hid (Below w3.heap.size w3 (w3.alloc (.cells #[.int .i64 (k : Int), .slice A2 (cutL l m).length k2] 26))) := hide (below_alloc (Below.refl _ _) _)
        have HRW := hide (HR3.out.alloc (.cells #[.int .i64 (k : Int), .slice A2 (cutL l m).length k2] 26))
        have hzW : w3.heap.size < (w3.alloc (.cells #[.int .i64 (k : Int), .slice A2 (cutL l m).length k2] 26)).heap.size := by simp
        clear s0 s1 s2 zs
        generalize w3.alloc (.cells #[.int .i64 (k : Int), .slice A2 (cutL l m).length k2] 26) = W at *
        have HSW := hide (HS3.out.below HBW.out)
        have s0 := HSW.out.at 0 rfl
        have s1 := HSW.out.at 1 rfl
        have zs := HSW.out.1
        refine wpAnyS_start (fun w' => ∃ n : Later W, w' = n.w) (n := 8) (by kernel_rfl) rfl rfl ?_
        refine wpAnyS_take_all [0, 1, 3, 4] 4 rfl (by kernel_rfl) (by intro c a d v w h; cases d <;> exact h) (by kernel_rfl) (by simp; rfl) rfl (later_drew _) ?_
        repeat (go_big_quiet_step (fail))
        refine wpQuiet_nil ?_
        clear s0 s1 zs
        refine wpAnyS_only 2 (by kernel_rfl) (by simp; rfl) rfl rfl (fun K hK => ?_)
        go_wp2_with fail
        refine (times_any w3.heap.size k (cutL l m).length k2 x A2 (cutL l m) _ rfl hle h2 hx (cutL_fits HK.out.fits m) HRW.out.drew (HFB.out.drew.at 0 rfl) (HFB.out.drew.at 1 rfl)).mono ?_
        rintro e w4 ⟨rfl, ho, hq⟩
        have d0 := ho.cell hy
        rw [show W.drew.heap.size = W.heap.size from rfl] at d0
        have HB4 : Hid (Below W.heap.size W w4) := hide (below_step (Below.refl _ _).drew hq)
        have HC4 := hide (HC3.out.below (below_step HBW.out HB4.out))
        have HF4 := hide (HF3.out.below (below_step HBW.out HB4.out))
        have HS4 := hide (HSW.out.below HB4.out)
        have hv' : -1 ≤ timesF k (cutL l m) x y ∧ timesF k (cutL l m) x y ≤ 5000000 := mid_bd (x := x) (cutL_fits HK.out.fits m) hle h2 (F := []) (by simp) (by simp) y
        clear ho hq
        go_wp2_with fail
        refine ⟨later_of HB4.out, ?_⟩
        generalize timesF k (cutL l m) x y = v at *
        obtain ⟨v0, v1⟩ := hv'
        have hyi : (y : Int) < (k : Int) := by omega
        refine wpAnyS_only 5 (by kernel_rfl) (by simp; rfl) rfl rfl (fun K hK => ?_)
        go_wp2_with fail
        refine ⟨later_of HB4.out, ?_⟩
        refine wpAnyS_only 6 (by kernel_rfl) (by simp; rfl) rfl rfl (fun K hK => ?_)
        go_wp2_with fail
        refine ⟨later_of HB4.out, ?_⟩
        refine wpAnyS_only 7 (by kernel_rfl) (by simp; rfl) rfl rfl (fun K hK => ?_)
        go_wp2_with fail
        refine ⟨later_of HB4.out, ?_⟩
        refine wpAnyH_done (by kernel_rfl) ?_ _
        clear d0
        by_cases h0 : v < 0
        · have hy1 := cutsK_succ_yes Hh.out (by rw [HCB.out]; simpa using h0)
          have HY := hide hy1
          have g1 : decide (v < 0) = true := by simpa using h0
          clear hy1
          have s0 := HS4.out.at 0 rfl
          have s1 := HS4.out.at 1 rfl
          have s2 := HS4.out.at 2 rfl
          have HN := hide (Row.new w4 #[.int .i64 (x : Int), .int .i64 (y : Int), .int .i64 x2] 39).rd.add
          have HOA := hide (HC4.out.own.alloc (.cells #[.int .i64 (x : Int), .int .i64 (y : Int), .int .i64 x2] 39))
          have hle2 := cutsK_length k l m
          have hwz : w.heap.size + 1 ≤ (w4.alloc (.cells #[.int .i64 (x : Int), .int .i64 (y : Int), .int .i64 x2] 39)).heap.size := by have := HF4.out.1; simp; omega
          have HWZ := hide hwz
          have HLE := hide hle2
          clear hwz hle2
          go_wp2_with (at_builtin; refine wpList_append_own _ rfl (.tmp 28) (.tmp 30) 24 rfl (w.heap.size + 1) 39 i0 (.agg #[.int .i64 0, .int .i64 0, .int .i64 0]) 3 24 Tryz.underlying24 Hi.out Hz.out.1 Hz.out.2.1 Hz.out.2.2 rfl (by decide) _ _ _ rfl HOA.out ⟨w4.heap.size, 0, none⟩ 1 1 [.int .i64 (x : Int), .int .i64 (y : Int), .int .i64 x2] rfl rfl HN.out ?c1 ?c2 ?c3 HWZ.out ?_)
          case c1 => simp [Value.oneCell']
          case c2 => have := HLE.out; unfold maxLen; omega
          case c3 => have := HLE.out; omega
          intro v' w5 hown hgrow _
          have HC5 : Hid (CutRel w w5 k l (m + 1) v') := hide ⟨(below_alloc HC4.out.bel _).grown hgrow (by have := HC4.out.bel.size; simp; omega) (fun q hq => by have := (HC4.out.own.lt q hq).1; omega), by
            rw [HY.out, List.length_append, List.flatMap_append]
            exact hown⟩
          have HF5 := hide ((HF4.out.alloc (.cells #[.int .i64 (x : Int), .int .i64 (y : Int), .int .i64 x2] 39)).grown hgrow (fun e => by have h := (HC4.out.own.lt _ e.symm).1; omega))
          clear hown hgrow
          go_wp2
          go_roundw
          case rel => exact ⟨m + 1, by omega, by go_num, HC5, HF5⟩
          case measure => simp [intOf]; omega
        · have hy1 := cutsK_succ_no (k := k) (l := l) (m := m) (by rw [HCB.out]; simpa using h0)
          have g1 : decide (v < 0) = false := by simpa using h0
          have HC5 : Hid (CutRel w w4 k l (m + 1) u4) := hide ⟨HC4.out.bel, by rw [hy1]; exact HC4.out.own⟩
          clear hy1
          go_wp2
          go_roundw
          case rel => exact ⟨m + 1, by omega, by go_num, HC5, HF4⟩
          case measure => simp [intOf]; omega
      · have hmn : m = n := by omega
        have HE : Hid (CutRel w wr k l l.length u4) := hide (by rw [← Hn.out, ← hmn]; exact HC.out)
        clear hmn HC
        go_wp2
        go_ret2
        exact CutPost.yes HT.out (own_le HE.out.own (by omega)) HE.out.bel
set_option maxRecDepth 100000 in
set_option maxHeartbeats 4000000 in
theorem specCutStreets_any (nd : Int) (A : Option Addr) (n c : Nat) (l : List (Int × Int × Int)) (w : World) (hn : n = l.length) (hnc : n ≤ c) (hc : c ≤ maxLen) (hr : Rd w A (l.flatMap tcells)) :
    Calls Tryz.prog 11 #[.agg #[.int .i64 nd, .slice A n c]] w (CutPost nd l w) := by
  obtain ⟨i0, hi0, hz0, hz1, hz2⟩ := info_parts infoStreet
  have Hi := hide hi0
  have Hz := hide (And.intro hz0 (And.intro hz1 hz2))
  have Hn := hide hn
  have Hr := hide hr
  have hm : n ≤ maxLen := Nat.le_trans hnc hc
  have HF0 := hide (Row.new w #[.int .i64 nd, .slice A n c] 26)
  have HCC := hide (And.intro hnc hc)
  have Q := hide (toGood_any nd A n c l _ hn hm (hr.alloc (.cells #[.int .i64 nd, .slice A n c] 26)))
  clear hn hr hnc hc hi0 hz0 hz1 hz2
  go_enter Tryz.func11, Tryz.ntmps11
  go_wp2_with fail
  refine Q.out.mono ?_
  rintro e w1 ⟨rfl, hq⟩
  have HF1 := hide (HF0.out.below hq)
  have HW1 : Hid (Below w.heap.size w w1) := hide (below_step (below_alloc (Below.refl _ _) _) hq)
  clear hq Q HF0
  have a0 := HF1.out.at 0 rfl
  have a1 := HF1.out.at 1 rfl
  have z0 := HF1.out.1
  cases ht : townB nd l with
  | false =>
    have HN := hide ht
    clear ht
    go_wp2
    go_ret2
    exact CutPost.no HN.out HW1.out
  | true =>
    have HT := hide ht
    obtain ⟨k, rfl, hk⟩ := townB_ok ht
    have h1 := hk.lo
    have h2 := hk.hi
    have HK := hide hk
    have h40 : n ≤ 40 := by have := hk.len; have := Hn.out; omega
    clear ht hk hm
    go_wp2_with fail
    clear a0 a1 z0
    go_loopw [4, 13] (fun v t wr => ∃ m : Nat, m ≤ n ∧ t = .int .i64 m ∧ Hid (CutRel w wr k l m v) ∧ Hid (Row wr w.heap.size [.int .i64 (k : Int), .slice A n c])) (fun _ t _ => n - (intOf t).toNat)
    case atStart => exact ⟨0, by omega, rfl, hide (CutRel.start HW1.out), HF1⟩
    case round =>
      obtain ⟨m, hm, rfl, HC, HF⟩ := hrel
      clear HF1 HW1
      by_cases hlt : m < n
      · obtain ⟨⟨x0, x1, x2⟩, hh⟩ : ∃ h, l[m]? = some h := ⟨_, List.getElem?_eq_getElem (by rw [← Hn.out]; exact hlt)⟩
        have hft := fitB_iff.1 (HK.out.fits _ (List.mem_of_getElem? hh))
        dsimp only at hft
        obtain ⟨x, rfl⟩ := Int.eq_ofNat_of_zero_le hft.1
        obtain ⟨y, rfl⟩ := Int.eq_ofNat_of_zero_le (show 0 ≤ x1 by omega)
        have hx : x < k := by omega
        have hy : y < k := by omega
        clear hft
        obtain ⟨b, off, hA, hbs, c0, c1, c2⟩ := (Hr.out.below HC.out.bel).get3 (fun _ => rfl) hh rfl
        subst hA
        have Hh := hide hh
        have HCB : Hid (cutsAt k l m = decide (timesF k (cutL l m) x y < 0)) := hide (by rw [cutsAt, hh]; rfl)
        clear hh
        dsimp only at c0 c1 c2
        have HS0 := hide (Row.new wr #[.int .i64 (x : Int), .int .i64 (y : Int), .int .i64 x2] 39)
        have HFa := hide (HF.out.alloc (.cells #[.int .i64 (x : Int), .int .i64 (y : Int), .int .i64 x2] 39))
        have hbo : wr.heap.size < (wr.alloc (.cells #[.int .i64 (x : Int), .int .i64 (y : Int), .int .i64 x2] 39)).heap.size := by simp
        have hmi : (0 : Int) ≤ (m : Int) := by omega
        have hmi2 : (m : Int) < (n : Int) := by omega
        go_wp2_with fail
        have HBW : Hid (Below wr.heap.size wr (wr.alloc (.cells #[.int .i64 (x : Int), .int .i64 (y : Int), .int .i64 x2] 39))) := hide (below_alloc (Below.refl _ _) _)
        have hle : (cutL l m).length ≤ 40 := Nat.le_trans (cutL_le _ _) HK.out.len
        clear c0 c1 c2 hbo hbs
        generalize wr.alloc (.cells #[.int .i64 (x : Int), .int .i64 (y : Int), .int .i64 x2] 39) = W at *
        have s0 := HS0.out.at 0 rfl
        have s1 := HS0.out.at 1 rfl
        have zs := HS0.out.1
        have a0 := HFa.out.at 0 rfl
        have a1 := HFa.out.at 1 rfl
        have za := HFa.out.1
        refine wpAnyS_start (fun w' => ∃ n : Later W, w' = n.w) (n := 11) (by kernel_rfl) rfl rfl ?_
        refine wpAnyS_take_all [0, 1, 3, 4, 6, 7] 5 rfl (by kernel_rfl) (by intro c a d v w h; cases d <;> exact h) (by kernel_rfl) (by simp; rfl) rfl (later_drew _) ?_
        repeat (go_big_quiet_step (fail))
        refine wpQuiet_nil ?_
        clear s0 s1 zs a0 a1 za
        refine wpAnyS_only 2 (by kernel_rfl) (by simp; rfl) rfl rfl (fun K hK => ?_)
        go_wp2_with fail
        refine (toWithout_any k n c m _ l _ Hn.out h40 HCC.out.1 HCC.out.2 hlt (Hr.out.below (below_step HC.out.bel (below_step HBW.out (Below.refl _ _).drew)))).mono ?_
        rintro e w3 ⟨⟨v3, rfl, ho⟩, hq⟩
        obtain ⟨A2, k2, rfl, -⟩ := own_open ho
        have HR3 := hide (own_rd ho)
        have HB3 : Hid (Below W.heap.size W w3) := hide (below_step (Below.refl _ _).drew hq)
        clear ho hq
        go_wp2_with fail
        refine ⟨later_of HB3.out, ?_⟩
        refine wpAnyS_only 5 (by kernel_rfl) (by simp; rfl) rfl rfl (fun K hK => ?_)
        go_wp2_with fail
        refine (toTimes_any k (cutL l m).length k2 x A2 (cutL l m) _ rfl hle h2 hx (cutL_fits HK.out.fits m) HR3.out).mono ?_
        rintro e w4 ⟨rfl, ho, hq⟩
        have d0 := ho.cell hy
        have HB4 : Hid (Below W.heap.size W w4) := hide (below_step HB3.out hq)
        have HC4 := hide (HC.out.below (below_step HBW.out HB4.out))
        have HF4 := hide (HFa.out.below HB4.out)
        have HS4 := hide (HS0.out.below HB4.out)
        have hv' : -1 ≤ timesF k (cutL l m) x y ∧ timesF k (cutL l m) x y ≤ 5000000 := mid_bd (x := x) (cutL_fits HK.out.fits m) hle h2 (F := []) (by simp) (by simp) y
        clear ho hq HC HF
        go_wp2_with fail
        refine ⟨later_of HB4.out, ?_⟩
        generalize timesF k (cutL l m) x y = v at *
        obtain ⟨v0, v1⟩ := hv'
        have hyi : (y : Int) < (k : Int) := by omega
        refine wpAnyS_only 8 (by kernel_rfl) (by simp; rfl) rfl rfl (fun K hK => ?_)
        go_wp2_with fail
        refine ⟨later_of HB4.out, ?_⟩
        refine wpAnyS_only 9 (by kernel_rfl) (by simp; rfl) rfl rfl (fun K hK => ?_)
        go_wp2_with fail
        refine ⟨later_of HB4.out, ?_⟩
        refine wpAnyS_only 10 (by kernel_rfl) (by simp; rfl) rfl rfl (fun K hK => ?_)
        go_wp2_with fail
        refine ⟨later_of HB4.out, ?_⟩
        refine wpAnyH_done (by kernel_rfl) ?_ _
        clear d0
        by_cases h0 : v < 0
        · have hy1 := cutsK_succ_yes Hh.out (by rw [HCB.out]; simpa using h0)
          have HY := hide hy1
          have g1 : decide (v < 0) = true := by simpa using h0
          clear hy1
          have s0 := HS4.out.at 0 rfl
          have s1 := HS4.out.at 1 rfl
          have s2 := HS4.out.at 2 rfl
          have HN := hide (Row.new w4 #[.int .i64 (x : Int), .int .i64 (y : Int), .int .i64 x2] 39).rd.add
          have HOA := hide (HC4.out.own.alloc (.cells #[.int .i64 (x : Int), .int .i64 (y : Int), .int .i64 x2] 39))
          have hle2 := cutsK_length k l m
          have hwz : w.heap.size + 1 ≤ (w4.alloc (.cells #[.int .i64 (x : Int), .int .i64 (y : Int), .int .i64 x2] 39)).heap.size := by have := HF4.out.1; simp; omega
          have HWZ := hide hwz
          have HLE := hide hle2
          clear hwz hle2
          go_wp2_with (at_builtin; refine wpList_append_own _ rfl (.tmp 29) (.tmp 31) 24 rfl (w.heap.size + 1) 39 i0 (.agg #[.int .i64 0, .int .i64 0, .int .i64 0]) 3 24 Tryz.underlying24 Hi.out Hz.out.1 Hz.out.2.1 Hz.out.2.2 rfl (by decide) _ _ _ rfl HOA.out ⟨w4.heap.size, 0, none⟩ 1 1 [.int .i64 (x : Int), .int .i64 (y : Int), .int .i64 x2] rfl rfl HN.out ?c1 ?c2 ?c3 HWZ.out ?_)
          case c1 => simp [Value.oneCell']
          case c2 => have := HLE.out; unfold maxLen; omega
          case c3 => have := HLE.out; omega
          intro v' w5 hown hgrow _
          have HC5 : Hid (CutRel w w5 k l (m + 1) v') := hide ⟨(below_alloc HC4.out.bel _).grown hgrow (by have := HC4.out.bel.size; simp; omega) (fun q hq => by have := (HC4.out.own.lt q hq).1; omega), by
            rw [HY.out, List.length_append, List.flatMap_append]
            exact hown⟩
          have HF5 := hide ((HF4.out.alloc (.cells #[.int .i64 (x : Int), .int .i64 (y : Int), .int .i64 x2] 39)).grown hgrow (fun e => by have h := (HC4.out.own.lt _ e.symm).1; omega))
          clear hown hgrow
          go_wp2
          go_roundw
          case rel => exact ⟨m + 1, by omega, by go_num, HC5, HF5⟩
          case measure => simp [intOf]; omega
        · have hy1 := cutsK_succ_no (k := k) (l := l) (m := m) (by rw [HCB.out]; simpa using h0)
          have g1 : decide (v < 0) = false := by simpa using h0
          have HC5 : Hid (CutRel w w4 k l (m + 1) u4) := hide ⟨HC4.out.bel, by rw [hy1]; exact HC4.out.own⟩
          clear hy1
          go_wp2
          go_roundw
          case rel => exact ⟨m + 1, by omega, by go_num, HC5, HF4⟩
          case measure => simp [intOf]; omega
      · have hmn : m = n := by omega
        have HE : Hid (CutRel w wr k l l.length u4) := hide (by rw [← Hn.out, ← hmn]; exact HC.out)
        clear hmn HC
        go_wp2
        go_ret2
        exact CutPost.yes HT.out (own_le HE.out.own (by omega)) HE.out.bel
end Go.Proofs.YtbhnaakknfienaaGreatDoor

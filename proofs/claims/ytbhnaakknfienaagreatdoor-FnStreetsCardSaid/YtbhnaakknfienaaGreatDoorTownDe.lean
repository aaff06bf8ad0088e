/- DetourOf. -/
import Derived.Test.YtbhnaakknfienaaGreatDoorTownCl
namespace Go.Proofs.YtbhnaakknfienaaGreatDoor
open Go.RowKit
set_option linter.unusedVariables false

def detThen (nd : Int) (l : List (Int × Int × Int)) (i j : Int) : Int := timesF nd.toNat (cutL l (stFind l i j).toNat) i.toNat j.toNat
def detOk (nd : Int) (l : List (Int × Int × Int)) (i j : Int) : Bool := closeOk nd l i j && decide (0 ≤ detThen nd l i j)
def detV (nd : Int) (l : List (Int × Int × Int)) (i j : Int) : Int := if detOk nd l i j then detThen nd l i j - timesF nd.toNat l i.toNat j.toNat else 0
theorem detV_no {nd : Int} {l : List (Int × Int × Int)} {i j : Int} (h : detOk nd l i j = false) : detV nd l i j = 0 := by rw [detV, h]; rfl
theorem detOk_no {nd : Int} {l : List (Int × Int × Int)} {i j : Int} (h : closeOk nd l i j = false) : detOk nd l i j = false := by rw [detOk, h]; rfl
theorem cutL_fits {k : Nat} {l : List (Int × Int × Int)} (h : Fits k l) (i : Nat) : Fits k (cutL l i) := fun t ht => by
  rcases List.mem_append.1 ht with ht | ht
  · exact h t (List.mem_of_mem_take ht)
  · exact h t (List.mem_of_mem_drop ht)
theorem det_yes {k x y q : Nat} {l : List (Int × Int × Int)} (h : closeOk k l x y = true) (hq : stFind l x y = q) : ∀ b, decide (0 ≤ timesF k (cutL l q) x y) = b → detOk k l x y = b ∧ detV k l x y = if b then timesF k (cutL l q) x y - timesF k l x y else 0 := by
  intro b hb
  have e : detThen k l x y = timesF k (cutL l q) x y := by rw [detThen, hq]; rfl
  have h1 : detOk k l x y = b := by rw [detOk, h, e, hb]; rfl
  exact ⟨h1, by rw [detV, h1, e]; rfl⟩

set_option maxRecDepth 100000 in
set_option maxHeartbeats 4000000 in
theorem implDetourOf_any (nd i j : Int) (A : Option Addr) (n c : Nat) (l : List (Int × Int × Int)) (w : World) (hn : n = l.length) (hnc : n ≤ c) (hc : c ≤ maxLen) (hr : Rd w A (l.flatMap tcells)) :
    Calls Tryz.prog 8 #[.agg #[.int .i64 nd, .slice A n c], .int .i64 i, .int .i64 j] w fun e w' => e = .returned (.tuple #[.int .i64 (detV nd l i j), .bool (detOk nd l i j)]) ∧ Below w.heap.size w w' := by
  have Hn := hide hn
  have Hr := hide hr
  have hm : n ≤ maxLen := Nat.le_trans hnc hc
  have HF0 := hide (Row.new w #[.int .i64 nd, .slice A n c] 26)
  have Q := hide (implisTown_any w.heap.size nd A n c l _ hn hm (hr.alloc _) HF0.out.1 (HF0.out.at 0 rfl) (HF0.out.at 1 rfl))
  clear hn hr hnc hc
  go_enter Tryz.func8, Tryz.ntmps8
  go_wp2_with fail
  refine Q.out.mono ?_
  rintro e w1 ⟨rfl, hq⟩
  have HF1 := hide (HF0.out.below hq)
  have HW1 : Hid (Below w.heap.size w w1) := hide (below_step (below_alloc (Below.refl _ _) _) hq)
  clear hq Q HF0
  have a0 := HF1.out.at 0 rfl
  have a1 := HF1.out.at 1 rfl
  have z0 := HF1.out.1
  cases ht : townB nd l with
  | false =>
    have HN : Hid (detOk nd l i j = false) := hide (detOk_no (by rw [closeOk, bothB, goodB, ht]; rfl))
    clear ht
    go_wp2
    go_ret2
    exact ⟨ret_tup2 (detV_no HN.out).symm HN.out.symm, HW1.out⟩
  | true =>
    have HT := hide ht
    obtain ⟨k, rfl, hk⟩ := townB_ok ht
    have h1 := hk.lo
    have h2 := hk.hi
    have HK := hide hk
    clear ht hk
    have HH := hide (fun i => has_any w.heap.size (k : Int) i w1 (by omega) (by omega) z0 a0)
    cases hi : nodeB k i with
    | false =>
      have HN : Hid (detOk k l i j = false) := hide (detOk_no (by rw [closeOk, bothB, goodB, hi, Bool.and_false]; rfl))
      have q1 := HH.out i
      rw [hi] at q1
      clear hi
      go_wp2_with (go_at_call 36; ((with_reducible refine (q1).mono ?_); rintro e w' ⟨rfl, rfl⟩))
      go_ret2
      exact ⟨ret_tup2 (detV_no HN.out).symm HN.out.symm, HW1.out⟩
    | true =>
      cases hj : nodeB k j with
      | false =>
        have HN : Hid (detOk k l i j = false) := hide (detOk_no (by rw [closeOk, bothB, hj, Bool.and_false]; rfl))
        have q1 := HH.out i
        have q2 := HH.out j
        rw [hi] at q1
        rw [hj] at q2
        clear hi hj
        go_wp2_with (first | (go_at_call 36; ((with_reducible refine (q1).mono ?_); rintro e w' ⟨rfl, rfl⟩)) | (go_at_call 36; ((with_reducible refine (q2).mono ?_); rintro e w' ⟨rfl, rfl⟩)))
        go_ret2
        exact ⟨ret_tup2 (detV_no HN.out).symm HN.out.symm, HW1.out⟩
      | true =>
        have HB : Hid (bothB k l i j = true) := hide (by rw [bothB, goodB, HT.out, hi, hj]; rfl)
        have q1 := HH.out i
        have q2 := HH.out j
        rw [hi] at q1
        rw [hj] at q2
        obtain ⟨x, rfl, hx⟩ := nodeB_ok hi
        obtain ⟨y, rfl, hy⟩ := nodeB_ok hj
        clear hi hj
        go_wp2_with (first | (go_at_call 36; ((with_reducible refine (q1).mono ?_); rintro e w' ⟨rfl, rfl⟩)) | (go_at_call 36; ((with_reducible refine (q2).mono ?_); rintro e w' ⟨rfl, rfl⟩)))
        refine (street_any w.heap.size A n c l x y _ Hn.out (by have := Hn.out; have := HK.out.len; omega) (Hr.out.below HW1.out) a1).mono ?_
        rintro e w2 ⟨rfl, hq⟩
        have HW2 : Hid (Below w.heap.size w w2) := hide (below_step HW1.out hq)
        have HF2 := hide (HF1.out.below hq)
        clear hq a0 a1 z0 q1 q2 HF1
        have a0 := HF2.out.at 0 rfl
        have a1 := HF2.out.at 1 rfl
        by_cases hs : 0 ≤ stFind l x y
        · have hcl : closeOk k l x y = true := by rw [closeOk, HB.out]; simpa using hs
          obtain ⟨q, hq, hql⟩ := stFind_lt hs
          have HD := hide (det_yes hcl hq)
          rw [hq]
          clear hq hs hcl
          have hqi : (0 : Int) ≤ (q : Int) := by omega
          go_wp2_with fail
          refine (without_any w.heap.size k n c q A l _ Hn.out (by have := Hn.out; have := HK.out.len; omega) (by have := Hn.out; omega) (Hr.out.below HW2.out) a0 a1).mono ?_
          rintro e w3 ⟨⟨v, rfl, ho⟩, hq⟩
          obtain ⟨A2, k2, rfl, -⟩ := own_open ho
          have HR3 := hide (own_rd ho)
          have HW3 : Hid (Below w.heap.size w w3) := hide (below_step HW2.out hq)
          have HF3 := hide (HF2.out.below hq)
          clear ho hq a0 a1
          have hcl := cutL_length hql
          have hle : (cutL l q).length ≤ 40 := by have := HK.out.len; omega
          have b0 := Row.new w3 #[.int .i64 (k : Int), .slice A2 (cutL l q).length k2] 26
          have HFB := hide b0
          clear b0 hcl
          go_wp2_with fail
          refine (times_any w3.heap.size k (cutL l q).length k2 x A2 (cutL l q) _ rfl hle h2 hx (cutL_fits HK.out.fits q) (HR3.out.alloc _) (HFB.out.at 0 rfl) (HFB.out.at 1 rfl)).mono ?_
          rintro e w4 ⟨rfl, ho, hq⟩
          have hb : Below w3.heap.size w3 w4 := below_step (below_alloc (Below.refl _ _) _) hq
          have HW4 : Hid (Below w.heap.size w w4) := hide (below_step HW3.out hb)
          have HF4 := hide (HF3.out.below hb)
          have c0 := ho.cell hy
          rw [show (w3.alloc (.cells #[.int .i64 (k : Int), .slice A2 (cutL l q).length k2] 26)).heap.size = w3.heap.size + 1 by simp] at c0
          have hv := mid_bd (x := x) (cutL_fits HK.out.fits q) hle h2 (F := []) (by simp) (by simp) y
          have hv' : -1 ≤ timesF k (cutL l q) x y ∧ timesF k (cutL l q) x y ≤ 5000000 := hv
          clear ho hq hb hv HFB
          have hyi : (y : Int) < (k : Int) := by omega
          generalize timesF k (cutL l q) x y = v at *
          obtain ⟨v0, v1⟩ := hv'
          by_cases h0 : 0 ≤ v
          · obtain ⟨g1, g2⟩ := HD.out true (by simpa using h0)
            have G := hide (And.intro g1 g2)
            clear g1 g2
            have a0 := HF4.out.at 0 rfl
            have a1 := HF4.out.at 1 rfl
            go_wp2_with fail
            refine (times_any w.heap.size k n c x A l _ Hn.out (by have := Hn.out; have := HK.out.len; omega) h2 hx HK.out.fits (Hr.out.below HW4.out) a0 a1).mono ?_
            rintro e w5 ⟨rfl, ho, hq⟩
            have d0 := ho.cell hy
            have HW5 : Hid (Below w.heap.size w w5) := hide (below_step HW4.out hq)
            have hu : -1 ≤ timesF k l x y ∧ timesF k l x y ≤ 5000000 := mid_bd (x := x) HK.out.fits HK.out.len h2 (F := []) (by simp) (by simp) y
            clear ho hq a0 a1 c0
            generalize timesF k l x y = u at *
            obtain ⟨u0, u1⟩ := hu
            go_wp2
            go_ret2
            exact ⟨ret_tup2 (by rw [G.out.2]; rfl) G.out.1.symm, HW5.out⟩
          · obtain ⟨g1, g2⟩ := HD.out false (by simpa using h0)
            have G := hide (And.intro g1 g2)
            clear g1 g2
            go_wp2
            go_ret2
            exact ⟨ret_tup2 (by rw [G.out.2]; rfl) G.out.1.symm, HW4.out⟩
        · have HN : Hid (detOk k l x y = false) := hide (detOk_no (by rw [closeOk, HB.out]; simpa using hs))
          go_wp2
          go_ret2
          exact ⟨ret_tup2 (detV_no HN.out).symm HN.out.symm, HW2.out⟩

set_option maxRecDepth 100000 in
set_option maxHeartbeats 4000000 in
theorem specDetourOf_any (nd i j : Int) (A : Option Addr) (n c : Nat) (l : List (Int × Int × Int)) (w : World) (hn : n = l.length) (hnc : n ≤ c) (hc : c ≤ maxLen) (hr : Rd w A (l.flatMap tcells)) :
    Calls Tryz.prog 9 #[.agg #[.int .i64 nd, .slice A n c], .int .i64 i, .int .i64 j] w fun e w' => e = .returned (.tuple #[.int .i64 (detV nd l i j), .bool (detOk nd l i j)]) ∧ Below w.heap.size w w' := by
  have Hn := hide hn
  have Hr := hide hr
  have hm : n ≤ maxLen := Nat.le_trans hnc hc
  have HC := hide (And.intro hnc hc)
  have HF0 := hide (Row.new w #[.int .i64 nd, .slice A n c] 26)
  have Q := hide (toBoth_any nd i j A n c l _ hn hm (hr.alloc (.cells #[.int .i64 nd, .slice A n c] 26)))
  clear hn hr hnc hc
  go_enter Tryz.func9, Tryz.ntmps9
  go_wp2_with fail
  refine Q.out.mono ?_
  rintro e w1 ⟨rfl, hq⟩
  have HF1 := hide (HF0.out.below hq)
  have HW1 : Hid (Below w.heap.size w w1) := hide (below_step (below_alloc (Below.refl _ _) _) hq)
  clear hq Q HF0
  have a0 := HF1.out.at 0 rfl
  have a1 := HF1.out.at 1 rfl
  cases ht : bothB nd l i j with
  | false =>
    have HN : Hid (detOk nd l i j = false) := hide (detOk_no (by rw [closeOk, ht]; rfl))
    clear ht
    go_wp2
    go_ret2
    exact ⟨ret_tup2 (detV_no HN.out).symm HN.out.symm, HW1.out⟩
  | true =>
    have HB := hide ht
    rw [bothB, Bool.and_eq_true] at ht
    obtain ⟨k, x, rfl, rfl, hx, hk⟩ := goodB_ok ht.1
    obtain ⟨y, rfl, hy⟩ := nodeB_ok ht.2
    have h1 := hk.lo
    have h2 := hk.hi
    have HK := hide hk
    clear ht hk
    have Q2 := hide (fun W h => toFind_any (k : Int) A n c l x y W Hn.out (by have := Hn.out; have := HK.out.len; omega) h)
    go_wp2_with fail
    refine (Q2.out _ (Hr.out.below HW1.out)).mono ?_
    rintro e w2 ⟨rfl, hq⟩
    have HW2 : Hid (Below w.heap.size w w2) := hide (below_step HW1.out hq)
    have HF2 := hide (HF1.out.below hq)
    clear hq a0 a1 HF1
    have a0 := HF2.out.at 0 rfl
    have a1 := HF2.out.at 1 rfl
    by_cases hs : 0 ≤ stFind l x y
    · have hcl : closeOk k l x y = true := by rw [closeOk, HB.out]; simpa using hs
      obtain ⟨q, hq, hql⟩ := stFind_lt hs
      have HD := hide (det_yes hcl hq)
      rw [hq] at Q2 ⊢
      clear hq hs hcl
      have hqi : (0 : Int) ≤ (q : Int) := by omega
      go_wp2_with fail
      refine (toTimes_any k n c x A l _ Hn.out (by have := Hn.out; have := HK.out.len; omega) h2 hx HK.out.fits (Hr.out.below HW2.out)).mono ?_
      rintro e w3 ⟨rfl, ho, hq⟩
      have d0 := ho.cell hy
      have HW3 : Hid (Below w.heap.size w w3) := hide (below_step HW2.out hq)
      have HF3 := hide (HF2.out.below hq)
      have hu : -1 ≤ timesF k l x y ∧ timesF k l x y ≤ 5000000 := mid_bd (x := x) HK.out.fits HK.out.len h2 (F := []) (by simp) (by simp) y
      clear ho hq a0 a1 HF2
      generalize timesF k l x y = u at *
      obtain ⟨u0, u1⟩ := hu
      have hyi : (y : Int) < (k : Int) := by omega
      have a0 := HF3.out.at 0 rfl
      have a1 := HF3.out.at 1 rfl
      have z0 := HF3.out.1
      go_wp2_with fail
      refine wpAnyS_start (fun w' => ∃ n : Later w3, w' = n.w) (n := 12) (by kernel_rfl) rfl rfl ?_
      refine wpAnyS_take_all [0, 1, 2, 3, 6, 8] 6 rfl (by kernel_rfl) (by intro c a d v w h; cases d <;> exact h) (by kernel_rfl) (by simp; rfl) rfl (later_drew _) ?_
      repeat (go_big_quiet_step (fail))
      refine wpQuiet_nil ?_
      clear a0 a1 z0 d0
      refine wpAnyS_only 4 (by kernel_rfl) (by simp; rfl) rfl rfl (fun K hK => ?_)
      go_wp2_with fail
      refine (Q2.out _ (Hr.out.below HW3.out.drew)).mono ?_
      rintro e w4 ⟨rfl, hq⟩
      have HB4 : Hid (Below w3.heap.size w3 w4) := hide (below_step (Below.refl _ _).drew hq)
      have HW4 : Hid (Below w.heap.size w w4) := hide (below_step HW3.out HB4.out)
      clear hq
      go_wp2_with fail
      refine ⟨later_of HB4.out, ?_⟩
      refine wpAnyS_only 5 (by kernel_rfl) (by simp; rfl) rfl rfl (fun K hK => ?_)
      go_wp2_with fail
      refine (toWithout_any k n c q A l _ Hn.out (by have := Hn.out; have := HK.out.len; omega) HC.out.1 HC.out.2 (by have := Hn.out; omega) (Hr.out.below HW4.out)).mono ?_
      rintro e w5 ⟨⟨v, rfl, ho⟩, hq⟩
      obtain ⟨A2, k2, rfl, -⟩ := own_open ho
      have HR5 := hide (own_rd ho)
      have HB5 : Hid (Below w3.heap.size w3 w5) := hide (below_step HB4.out hq)
      have HW5 : Hid (Below w.heap.size w w5) := hide (below_step HW4.out hq)
      clear ho hq
      go_wp2_with fail
      refine ⟨later_of HB5.out, ?_⟩
      have hle : (cutL l q).length ≤ 40 := by rw [cutL_length hql]; have := HK.out.len; omega
      refine wpAnyS_only 7 (by kernel_rfl) (by simp; rfl) rfl rfl (fun K hK => ?_)
      go_wp2_with fail
      refine (toTimes_any k (cutL l q).length k2 x A2 (cutL l q) _ rfl hle h2 hx (cutL_fits HK.out.fits q) HR5.out).mono ?_
      rintro e w6 ⟨rfl, ho, hq⟩
      have c0 := ho.cell hy
      have HB6 : Hid (Below w3.heap.size w3 w6) := hide (below_step HB5.out hq)
      have HW6 : Hid (Below w.heap.size w w6) := hide (below_step HW5.out hq)
      have hv' : -1 ≤ timesF k (cutL l q) x y ∧ timesF k (cutL l q) x y ≤ 5000000 := mid_bd (x := x) (cutL_fits HK.out.fits q) hle h2 (F := []) (by simp) (by simp) y
      clear ho hq
      go_wp2_with fail
      refine ⟨later_of HB6.out, ?_⟩
      generalize timesF k (cutL l q) x y = v at *
      obtain ⟨v0, v1⟩ := hv'
      refine wpAnyS_only 9 (by kernel_rfl) (by simp; rfl) rfl rfl (fun K hK => ?_)
      go_wp2_with fail
      refine ⟨later_of HB6.out, ?_⟩
      refine wpAnyS_only 10 (by kernel_rfl) (by simp; rfl) rfl rfl (fun K hK => ?_)
      go_wp2_with fail
      refine ⟨later_of HB6.out, ?_⟩
      refine wpAnyS_only 11 (by kernel_rfl) (by simp; rfl) rfl rfl (fun K hK => ?_)
      go_wp2_with fail
      refine ⟨later_of HB6.out, ?_⟩
      refine wpAnyH_done (by kernel_rfl) ?_ _
      by_cases h0 : 0 ≤ v
      · obtain ⟨g1, g2⟩ := HD.out true (by simpa using h0)
        have G := hide (And.intro g1 g2)
        clear g1 g2
        go_wp2
        go_ret2
        exact ⟨ret_tup2 (by rw [G.out.2]; rfl) G.out.1.symm, HW6.out⟩
      · obtain ⟨g1, g2⟩ := HD.out false (by simpa using h0)
        have G := hide (And.intro g1 g2)
        clear g1 g2
        go_wp2
        go_ret2
        exact ⟨ret_tup2 (by rw [G.out.2]; rfl) G.out.1.symm, HW6.out⟩
    · have HN : Hid (detOk k l x y = false) := hide (detOk_no (by rw [closeOk, HB.out]; simpa using hs))
      go_wp2
      go_ret2
      exact ⟨ret_tup2 (detV_no HN.out).symm HN.out.symm, HW2.out⟩
end Go.Proofs.YtbhnaakknfienaaGreatDoor

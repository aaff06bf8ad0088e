/- CloseStreet. -/
import Derived.Test.YtbhnaakknfienaaGreatDoorTownZ
namespace Go.Proofs.YtbhnaakknfienaaGreatDoor
open Go.RowKit
set_option linter.unusedVariables false

def closeOk (nd : Int) (l : List (Int × Int × Int)) (i j : Int) : Bool := bothB nd l i j && decide (0 ≤ stFind l i j)
def closeN (nd : Int) (l : List (Int × Int × Int)) (i j : Int) : Int := if closeOk nd l i j then nd else 0
def closeL (nd : Int) (l : List (Int × Int × Int)) (i j : Int) : List (Int × Int × Int) := if closeOk nd l i j then cutL l (stFind l i j).toNat else []
theorem cutL_le {α : Type} (l : List α) (i : Nat) : (cutL l i).length ≤ l.length := by simp [cutL]; omega
theorem townB_len {nd : Int} {l : List (Int × Int × Int)} (h : townB nd l = true) : l.length ≤ 40 := by
  obtain ⟨k, _, hk⟩ := townB_ok h
  exact hk.len
theorem bothB_town {nd : Int} {l : List (Int × Int × Int)} {i j : Int} (h : bothB nd l i j = true) : townB nd l = true := by
  rw [bothB, goodB, Bool.and_eq_true, Bool.and_eq_true] at h
  exact h.1.1
theorem closeL_length (nd : Int) (l : List (Int × Int × Int)) (i j : Int) : (closeL nd l i j).length ≤ 40 := by
  unfold closeL
  split
  · rename_i h
    rw [closeOk, Bool.and_eq_true] at h
    exact Nat.le_trans (cutL_le _ _) (townB_len (bothB_town h.1))
  · simp
theorem stFind_lt {l : List (Int × Int × Int)} {a b : Int} (h : 0 ≤ stFind l a b) : ∃ k : Nat, stFind l a b = k ∧ k < l.length := by
  rcases findI_cases (isSt a b) l with hf | ⟨k, t, hf, hk, _⟩
  · rw [stFind, hf] at h; omega
  · exact ⟨k, hf, (List.getElem?_eq_some_iff.1 hk).1⟩

def ClosePost (nd : Int) (l : List (Int × Int × Int)) (i j : Int) (w : World) (e : Ending) (w' : World) : Prop :=
  (∃ v, e = .returned (.tuple #[.agg #[.int .i64 (closeN nd l i j), v], .bool (closeOk nd l i j)]) ∧ w'.ownsRow w.heap.size 39 3 v (closeL nd l i j).length ((closeL nd l i j).flatMap tcells)) ∧ Below w.heap.size w w'
theorem ClosePost.no {nd : Int} {l : List (Int × Int × Int)} {i j : Int} {w w' : World} (h : closeOk nd l i j = false) (hb : Below w.heap.size w w') : ClosePost nd l i j w (.returned (.tuple #[.agg #[.int .i64 0, .slice none 0 0], .bool false])) w' := by
  refine ⟨⟨.slice none 0 0, by rw [closeN, h]; rfl, ?_⟩, hb⟩
  rw [closeL, h]
  exact World.ownsRow_nil _ _ _ _
theorem ClosePost.yes {k : Nat} {l : List (Int × Int × Int)} {i j : Int} {w w' : World} {q : Nat} {v : Value} (h : closeOk k l i j = true) (hq : stFind l i j = q) (hv : w'.ownsRow w.heap.size 39 3 v (cutL l q).length ((cutL l q).flatMap tcells)) (hb : Below w.heap.size w w') : ClosePost k l i j w (.returned (.tuple #[.agg #[.int .i64 (k : Int), v], .bool true])) w' := by
  refine ⟨⟨v, by rw [closeN, h]; rfl, ?_⟩, hb⟩
  rw [closeL, h, hq]
  exact hv

set_option maxRecDepth 100000 in
set_option maxHeartbeats 4000000 in
theorem implCloseStreet_any (nd i j : Int) (A : Option Addr) (n c : Nat) (l : List (Int × Int × Int)) (w : World) (hn : n = l.length) (hnc : n ≤ c) (hc : c ≤ maxLen) (hr : Rd w A (l.flatMap tcells)) :
    Calls Tryz.prog 6 #[.agg #[.int .i64 nd, .slice A n c], .int .i64 i, .int .i64 j] w (ClosePost nd l i j w) := by
  have Hn := hide hn
  have Hr := hide hr
  have hm : n ≤ maxLen := Nat.le_trans hnc hc
  have HF0 := hide ((Row.new w #[.int .i64 nd, .slice A n c] 26).alloc (.cells #[.int .i64 0, .slice none 0 0] 26))
  have hg0 := Row.new (w.alloc (.cells #[.int .i64 nd, .slice A n c] 26)) #[.int .i64 0, .slice none 0 0] 26
  rw [show (w.alloc (.cells #[.int .i64 nd, .slice A n c] 26)).heap.size = w.heap.size + 1 by simp] at hg0
  have HG0 := hide hg0
  have Q := hide (implisTown_any w.heap.size nd A n c l _ hn hm ((hr.alloc _).alloc _) HF0.out.1 (HF0.out.at 0 rfl) (HF0.out.at 1 rfl))
  clear hn hr hg0 hnc hc
  go_enter Tryz.func6, Tryz.ntmps6
  go_wp2_with fail
  refine Q.out.mono ?_
  rintro e w1 ⟨rfl, hq⟩
  have HF1 := hide (HF0.out.below hq)
  have HG1 := hide (HG0.out.below hq)
  have HW1 : Hid (Below w.heap.size w w1) := hide (below_step (below_alloc (below_alloc (Below.refl _ _) _) _) hq)
  clear hq Q HF0 HG0
  have a0 := HF1.out.at 0 rfl
  have a1 := HF1.out.at 1 rfl
  have e0 := HG1.out.at 0 rfl
  have e1 := HG1.out.at 1 rfl
  have f0 := HG1.out.free 0
  have f1 := HG1.out.free 1
  have z0 := HF1.out.1
  cases ht : townB nd l with
  | false =>
    have HN : Hid (closeOk nd l i j = false) := hide (by rw [closeOk, bothB, goodB, ht]; rfl)
    clear ht
    go_wp2
    exact bodyPost_ret (v := .tuple #[.agg #[.int .i64 0, .slice none 0 0], .bool false]) (by simp [results, Tryz.results6, go_sem, *]) rfl (ClosePost.no HN.out ((HW1.out.setCell (by simp) _).setCell (by simp) _))
  | true =>
    have HT := hide ht
    obtain ⟨k, rfl, hk⟩ := townB_ok ht
    have h1 := hk.lo
    have h2 := hk.hi
    have HK := hide hk
    clear ht hk
    have HH := hide (fun i => has_any w.heap.size (k : Int) i w1 (by omega) (by omega) z0 a0)
    cases hi : nodeB k i with
    | false =>
      have HN : Hid (closeOk k l i j = false) := hide (by rw [closeOk, bothB, goodB, hi, Bool.and_false]; rfl)
      have q1 := HH.out i
      rw [hi] at q1
      clear hi
      go_wp2_with (go_at_call 36; ((with_reducible refine (q1).mono ?_); rintro e w' ⟨rfl, rfl⟩))
      exact bodyPost_ret (v := .tuple #[.agg #[.int .i64 0, .slice none 0 0], .bool false]) (by simp [results, Tryz.results6, go_sem, *]) rfl (ClosePost.no HN.out ((HW1.out.setCell (by simp) _).setCell (by simp) _))
    | true =>
      cases hj : nodeB k j with
      | false =>
        have HN : Hid (closeOk k l i j = false) := hide (by rw [closeOk, bothB, hj, Bool.and_false]; rfl)
        have q1 := HH.out i
        have q2 := HH.out j
        rw [hi] at q1
        rw [hj] at q2
        clear hi hj
        go_wp2_with (first | (go_at_call 36; ((with_reducible refine (q1).mono ?_); rintro e w' ⟨rfl, rfl⟩)) | (go_at_call 36; ((with_reducible refine (q2).mono ?_); rintro e w' ⟨rfl, rfl⟩)))
        exact bodyPost_ret (v := .tuple #[.agg #[.int .i64 0, .slice none 0 0], .bool false]) (by simp [results, Tryz.results6, go_sem, *]) rfl (ClosePost.no HN.out ((HW1.out.setCell (by simp) _).setCell (by simp) _))
      | true =>
        have HB : Hid (bothB k l i j = true) := hide (by rw [bothB, goodB, HT.out, hi, hj]; rfl)
        have q1 := HH.out i
        have q2 := HH.out j
        rw [hi] at q1
        rw [hj] at q2
        clear hi hj
        go_wp2_with (first | (go_at_call 36; ((with_reducible refine (q1).mono ?_); rintro e w' ⟨rfl, rfl⟩)) | (go_at_call 36; ((with_reducible refine (q2).mono ?_); rintro e w' ⟨rfl, rfl⟩)))
        refine (street_any w.heap.size A n c l i j _ Hn.out (by have := Hn.out; have := HK.out.len; omega) (Hr.out.below HW1.out) a1).mono ?_
        rintro e w2 ⟨rfl, hq⟩
        have HW2 : Hid (Below w.heap.size w w2) := hide (below_step HW1.out hq)
        have HF2 := hide (HF1.out.below hq)
        have HG2 := hide (HG1.out.below hq)
        clear hq a0 a1 e0 e1 f0 f1 z0 q1 q2 HF1 HG1
        have a0 := HF2.out.at 0 rfl
        have a1 := HF2.out.at 1 rfl
        have e0 := HG2.out.at 0 rfl
        have e1 := HG2.out.at 1 rfl
        have f0 := HG2.out.free 0
        have f1 := HG2.out.free 1
        by_cases hs : 0 ≤ stFind l i j
        · have HY : Hid (closeOk k l i j = true) := hide (by rw [closeOk, HB.out]; simpa using hs)
          obtain ⟨q, hq, hql⟩ := stFind_lt hs
          have HQ := hide hq
          rw [hq]
          clear hq hs
          have hqi : (0 : Int) ≤ (q : Int) := by omega
          go_wp2_with fail
          refine (without_any w.heap.size k n c q A l _ Hn.out (by have := Hn.out; have := HK.out.len; omega) (by have := Hn.out; omega) (Hr.out.below HW2.out) a0 a1).mono ?_
          rintro e w3 ⟨⟨v, rfl, ho⟩, hq⟩
          obtain ⟨A2, k2, rfl, -⟩ := own_open ho
          have HO := hide (own_le (B' := w.heap.size) ho HW2.out.size)
          have HL := hide (fun b hb => (ho.lt b hb).1)
          have HW3 : Hid (Below w.heap.size w w3) := hide (below_step HW2.out hq)
          have HG3 := hide (HG2.out.below hq)
          have HGlt := hide HG2.out.1
          clear ho hq a0 a1 e0 e1 f0 f1
          have e0 := HG3.out.at 0 rfl
          have e1 := HG3.out.at 1 rfl
          have f0 := HG3.out.free 0
          have f1 := HG3.out.free 1
          have HKP : Hid (∀ (W : World) (o : Nat) (u : Value), W.ownsRow w.heap.size 39 3 (.slice A2 (cutL l q).length k2) (cutL l q).length ((cutL l q).flatMap tcells) → (W.setCell ⟨w.heap.size + 1, o, none⟩ u).ownsRow w.heap.size 39 3 (.slice A2 (cutL l q).length k2) (cutL l q).length ((cutL l q).flatMap tcells)) := hide (fun W o u h => own_kept h (grown_set (g := w.heap.size + 1) u rfl) (fun b hb e => by injection e with e; have := HL.out b hb; have := HGlt.out; omega))
          go_wp2
          exact bodyPost_ret (v := .tuple #[.agg #[.int .i64 (k : Int), .slice A2 (cutL l q).length k2], .bool true]) (by simp [results, Tryz.results6, go_sem, *]) rfl (ClosePost.yes HY.out HQ.out (HKP.out _ _ _ (HKP.out _ _ _ HO.out)) ((HW3.out.setCell (by simp) _).setCell (by simp) _))
        · have HN : Hid (closeOk k l i j = false) := hide (by rw [closeOk, HB.out]; simpa using hs)
          go_wp2
          exact bodyPost_ret (v := .tuple #[.agg #[.int .i64 0, .slice none 0 0], .bool false]) (by simp [results, Tryz.results6, go_sem, *]) rfl (ClosePost.no HN.out ((HW2.out.setCell (by simp) _).setCell (by simp) _))

set_option maxRecDepth 100000 in
set_option maxHeartbeats 4000000 in
theorem specCloseStreet_any (nd i j : Int) (A : Option Addr) (n c : Nat) (l : List (Int × Int × Int)) (w : World) (hn : n = l.length) (hnc : n ≤ c) (hc : c ≤ maxLen) (hr : Rd w A (l.flatMap tcells)) :
    Calls Tryz.prog 7 #[.agg #[.int .i64 nd, .slice A n c], .int .i64 i, .int .i64 j] w (ClosePost nd l i j w) := by
  have Hn := hide hn
  have Hr := hide hr
  have hm : n ≤ maxLen := Nat.le_trans hnc hc
  have HC := hide (And.intro hnc hc)
  have HF0 := hide ((Row.new w #[.int .i64 nd, .slice A n c] 26).alloc (.cells #[.int .i64 0, .slice none 0 0] 26))
  have hg0 := Row.new (w.alloc (.cells #[.int .i64 nd, .slice A n c] 26)) #[.int .i64 0, .slice none 0 0] 26
  rw [show (w.alloc (.cells #[.int .i64 nd, .slice A n c] 26)).heap.size = w.heap.size + 1 by simp] at hg0
  have HG0 := hide hg0
  have Q := hide (toBoth_any nd i j A n c l _ hn hm ((hr.alloc (.cells #[.int .i64 nd, .slice A n c] 26)).alloc (.cells #[.int .i64 0, .slice none 0 0] 26)))
  clear hn hr hg0 hnc hc
  go_enter Tryz.func7, Tryz.ntmps7
  go_wp2_with fail
  refine Q.out.mono ?_
  rintro e w1 ⟨rfl, hq⟩
  have HF1 := hide (HF0.out.below hq)
  have HG1 := hide (HG0.out.below hq)
  have HW1 : Hid (Below w.heap.size w w1) := hide (below_step (below_alloc (below_alloc (Below.refl _ _) _) _) hq)
  clear hq Q HF0 HG0
  have a0 := HF1.out.at 0 rfl
  have a1 := HF1.out.at 1 rfl
  have e0 := HG1.out.at 0 rfl
  have e1 := HG1.out.at 1 rfl
  have f0 := HG1.out.free 0
  have f1 := HG1.out.free 1
  cases ht : bothB nd l i j with
  | false =>
    have HN : Hid (closeOk nd l i j = false) := hide (by rw [closeOk, ht]; rfl)
    clear ht
    go_wp2
    exact bodyPost_ret (v := .tuple #[.agg #[.int .i64 0, .slice none 0 0], .bool false]) (by simp [results, Tryz.results7, go_sem, *]) rfl (ClosePost.no HN.out ((HW1.out.setCell (by simp) _).setCell (by simp) _))
  | true =>
    have HB := hide ht
    obtain ⟨k, rfl, hk⟩ := townB_ok (bothB_town ht)
    have h1 := hk.lo
    have h2 := hk.hi
    have HK := hide hk
    clear ht hk
    go_wp2_with fail
    refine (toFind_any (k : Int) A n c l i j _ Hn.out (by have := Hn.out; have := HK.out.len; omega) (Hr.out.below HW1.out)).mono ?_
    rintro e w2 ⟨rfl, hq⟩
    have HW2 : Hid (Below w.heap.size w w2) := hide (below_step HW1.out hq)
    have HF2 := hide (HF1.out.below hq)
    have HG2 := hide (HG1.out.below hq)
    clear hq a0 a1 e0 e1 f0 f1 HF1 HG1
    have a0 := HF2.out.at 0 rfl
    have a1 := HF2.out.at 1 rfl
    have e0 := HG2.out.at 0 rfl
    have e1 := HG2.out.at 1 rfl
    have f0 := HG2.out.free 0
    have f1 := HG2.out.free 1
    by_cases hs : 0 ≤ stFind l i j
    · have HY : Hid (closeOk k l i j = true) := hide (by rw [closeOk, HB.out]; simpa using hs)
      obtain ⟨q, hq, hql⟩ := stFind_lt hs
      have HQ := hide hq
      have Q2 := hide (fun W h => toFind_any (k : Int) A n c l i j W Hn.out (by have := Hn.out; have := HK.out.len; omega) h)
      rw [hq] at Q2 ⊢
      clear hq hs
      have hqi : (0 : Int) ≤ (q : Int) := by omega
      have z0 := HF2.out.1
      go_wp2_with fail
      refine wpAnyS_start (fun w' => ∃ n : LaterX w2 (w.heap.size + 1), w' = n.w) (n := 8) (by kernel_rfl) rfl rfl ?_
      refine wpAnyS_take_all [0, 1, 2, 3] 4 rfl (by kernel_rfl) (by intro c a d v w h; cases d <;> exact h) (by kernel_rfl) (by simp; rfl) rfl (laterX_drew _ _) ?_
      repeat (go_big_quiet_step (fail))
      refine wpQuiet_nil ?_
      clear a0 a1 e0 e1 f0 f1 z0
      refine wpAnyS_only 4 (by kernel_rfl) (by simp; rfl) rfl rfl (fun K hK => ?_)
      go_wp2_with fail
      refine (Q2.out _ (Hr.out.below HW2.out.drew)).mono ?_
      rintro e w3 ⟨rfl, hq⟩
      have hb : Below w2.heap.size w2 w3 := below_step (Below.refl _ _).drew hq
      have HB3 := hide hb
      have HW3 : Hid (Below w.heap.size w w3) := hide (below_step HW2.out hb)
      have HG3 := hide (HG2.out.below hb)
      clear hq hb
      go_wp2_with fail
      refine ⟨laterX_of (grown_of_below HB3.out _), ?_⟩
      refine wpAnyS_only 5 (by kernel_rfl) (by simp; rfl) rfl rfl (fun K hK => ?_)
      go_wp2_with fail
      refine (toWithout_any k n c q A l _ Hn.out (by have := Hn.out; have := HK.out.len; omega) HC.out.1 HC.out.2 (by have := Hn.out; omega) (Hr.out.below HW3.out)).mono ?_
      rintro e w4 ⟨⟨v, rfl, ho⟩, hq⟩
      obtain ⟨A2, k2, rfl, -⟩ := own_open ho
      have HO := hide (own_le (B' := w.heap.size) ho HW3.out.size)
      have HL := hide (fun b hb => (ho.lt b hb).1)
      have HB4 := hide (below_step HB3.out hq)
      have HW4 : Hid (Below w.heap.size w w4) := hide (below_step HW3.out hq)
      have HG4 := hide (HG3.out.below hq)
      have HGlt := hide HG3.out.1
      clear ho hq
      go_wp2_with fail
      refine ⟨laterX_of (grown_of_below HB4.out _), ?_⟩
      have e0 := HG4.out.at 0 rfl
      have e1 := HG4.out.at 1 rfl
      have f0 := HG4.out.free 0
      have f1 := HG4.out.free 1
      have HKP : Hid (∀ (W : World) (o : Nat) (u : Value), W.ownsRow w.heap.size 39 3 (.slice A2 (cutL l q).length k2) (cutL l q).length ((cutL l q).flatMap tcells) → (W.setCell ⟨w.heap.size + 1, o, none⟩ u).ownsRow w.heap.size 39 3 (.slice A2 (cutL l q).length k2) (cutL l q).length ((cutL l q).flatMap tcells)) := hide (fun W o u h => own_kept h (grown_set (g := w.heap.size + 1) u rfl) (fun b hb e => by injection e with e; have := HL.out b hb; have := HGlt.out; omega))
      refine wpAnyS_only 6 (by kernel_rfl) (by simp; rfl) rfl rfl (fun K hK => ?_)
      go_wp2_with fail
      refine ⟨laterX_of (grown_trans (grown_trans (grown_of_below HB4.out _) (grown_set _ rfl)) (grown_set _ rfl)), ?_⟩
      refine wpAnyS_only 7 (by kernel_rfl) (by simp; rfl) rfl rfl (fun K hK => ?_)
      go_wp2_with fail
      refine ⟨laterX_of (grown_trans (grown_trans (grown_of_below HB4.out _) (grown_set _ rfl)) (grown_set _ rfl)), ?_⟩
      refine wpAnyH_done (by kernel_rfl) ?_ _
      go_wp2
      exact bodyPost_ret (v := .tuple #[.agg #[.int .i64 (k : Int), .slice A2 (cutL l q).length k2], .bool true]) (by simp [results, Tryz.results7, go_sem, *]) rfl (ClosePost.yes HY.out HQ.out (HKP.out _ _ _ (HKP.out _ _ _ HO.out)) ((HW4.out.setCell (by simp) _).setCell (by simp) _))
    · have HN : Hid (closeOk k l i j = false) := hide (by rw [closeOk, HB.out]; simpa using hs)
      go_wp2
      exact bodyPost_ret (v := .tuple #[.agg #[.int .i64 0, .slice none 0 0], .bool false]) (by simp [results, Tryz.results7, go_sem, *]) rfl (ClosePost.no HN.out ((HW2.out.setCell (by simp) _).setCell (by simp) _))
end Go.Proofs.YtbhnaakknfienaaGreatDoor

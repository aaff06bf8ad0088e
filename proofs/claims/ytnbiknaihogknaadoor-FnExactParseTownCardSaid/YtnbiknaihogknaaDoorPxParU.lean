/- The reference reads a street. -/
import Derived.Test.YtnbiknaihogknaaDoorPxParT
import Derived.Test.YtnbiknaihogknaaDoorPxB
import Derived.Test.YtnbiknaihogknaaDoorPxA
import Derived.Test.YtnbiknaihogknaaDoorRegX
namespace Go.Proofs.YtnbiknaihogknaaDoor
open Go.RowKit
set_option linter.unusedVariables false

section
variable {P : Program} {ops : Array Oper} {Q : Exit → Act → World → Prop} {md : Region.Mode} {S : World → Prop} {X : List Nat}
theorem wpAnyX_three (i j k : Nat) {oi oj ok : Oper} {fuel : Nat} {listed li lj lk : Array Bool} {a : Act} {w : World} (hr : Region.ready md ops listed = [i, j, k]) (hoi : ops[i]? = some oi) (hoj : ops[j]? = some oj) (hok : ops[k]? = some ok) (hLi : listed.setIfInBounds i true = li) (hLj : listed.setIfInBounds j true = lj) (hLk : listed.setIfInBounds k true = lk) (hgi : oi.guard = none) (hgj : oj.guard = none) (hgk : ok.guard = none)
    (h1 : ∀ K : Act → World → Prop, (∀ a w', (S w' ∧ wpAnyX P md ops Q S X fuel li a w') → K a w') → Oper.wp P oi a w K Q)
    (h2 : ∀ K : Act → World → Prop, (∀ a w', (S w' ∧ wpAnyX P md ops Q S X fuel lj a w') → K a w') → Oper.wp P oj a w K Q)
    (h3 : ∀ K : Act → World → Prop, (∀ a w', (S w' ∧ wpAnyX P md ops Q S X fuel lk a w') → K a w') → Oper.wp P ok a w K Q) :
    wpAnyX P md ops Q S X (fuel + 1) listed a w := by
  refine wpAnyX_all hr (by simp) fun m hm => ?_
  simp only [List.mem_cons, List.not_mem_nil, or_false] at hm
  rcases hm with rfl | rfl | rfl
  · refine wpOp_step hoi (fun K' hK => ?_)
    rw [if_pos (by simp [Region.wanted, hgi])]
    refine h1 K' (fun a' w' ⟨hS, hW⟩ => hK _ _ ⟨.inl hS, ?_⟩)
    rw [hLi]
    exact hW
  · refine wpOp_step hoj (fun K' hK => ?_)
    rw [if_pos (by simp [Region.wanted, hgj])]
    refine h2 K' (fun a' w' ⟨hS, hW⟩ => hK _ _ ⟨.inl hS, ?_⟩)
    rw [hLj]
    exact hW
  · refine wpOp_step hok (fun K' hK => ?_)
    rw [if_pos (by simp [Region.wanted, hgk])]
    refine h3 K' (fun a' w' ⟨hS, hW⟩ => hK _ _ ⟨.inl hS, ?_⟩)
    rw [hLk]
    exact hW
end

set_option maxRecDepth 100000 in
set_option maxHeartbeats 4000000 in
theorem toStreetOf_any (s : ByteArray) (w : World) (hs : s.size ≤ 2000000) :
    Calls Tryd.prog 11 #[.string s] w fun e w' => e = .returned (.agg #[.int .i64 (strS s).1, .int .i64 (strS s).2.1, .int .i64 (strS s).2.2]) ∧ Below w.heap.size w w' := by
  obtain ⟨x0, xs, hx⟩ : ∃ x0 xs, splitS s 61 = x0 :: xs := by
    cases h : splitS s 61 with
    | nil => have := splitS_pos s 61; rw [h] at this; simp at this
    | cons a b => exact ⟨a, b, rfl⟩
  have hxz : x0.size ≤ 2000000 := Nat.le_trans (splitS_size s 61 (by rw [hx]; exact List.mem_cons_self ..)) hs
  have Q := hide (split_any s 61)
  have Q2 := hide (fun W => split_any x0 45 W hxz)
  have HX := hide hx
  clear hx
  have HF := hide (Row.new w #[.int .i64 0, .int .i64 0, .int .i64 0] 34)
  have H0 := hide (below_alloc (Below.refl w.heap.size w) (.cells #[.int .i64 0, .int .i64 0, .int .i64 0] 34))
  go_enter Tryd.func11, Tryd.ntmps11
  go_wp2_with fail
  refine (Q.out _ hs).mono ?_
  rintro e w1 ⟨⟨v, rfl, ho⟩, hq⟩
  rw [HX.out] at ho
  obtain ⟨A, cap, rfl, hrd, -⟩ := own_open ho
  obtain ⟨b, off, rfl, hbs, c0⟩ := hrd.get1 (k := 0) (u := .string x0) rfl
  have c0 : w1.cell? ⟨b, off, none⟩ = some (.string x0) := c0
  have HR := hide hrd
  have HB := hide hq
  clear ho hq hrd
  go_wp2_with fail
  refine (Q2.out _).mono ?_
  rintro e w2 ⟨⟨v, rfl, ho⟩, hq⟩
  obtain ⟨A2, cap2, rfl, hrd, -⟩ := own_open ho
  have HR2 := hide hrd
  have HR1 := hide (HR.out.below hq)
  have HF2 := hide ((HF.out.below HB.out).below hq)
  have HB2 := hide (below_step (below_step H0.out HB.out) hq)
  clear ho hq hrd c0 Q Q2
  by_cases h1 : xs.length = 1
  · by_cases h2 : (splitS x0 45).length = 2
    · obtain ⟨x1, rfl⟩ := List.length_eq_one_iff.1 h1
      obtain ⟨y0, y1, hu⟩ : ∃ y0 y1, splitS x0 45 = [y0, y1] := by
        match hq : splitS x0 45, h2 with
        | [a, b], _ => exact ⟨a, b, rfl⟩
      have HV := hide (show strS s = (readS y0, readS y1, readS x1) by
        unfold strS
        rw [HX.out]
        show (if [x0, x1].length = 2 ∧ (splitS x0 45).length = 2 then (readS ((splitS x0 45).getD 0 ByteArray.empty), readS ((splitS x0 45).getD 1 ByteArray.empty), readS x1) else (-1, 0, 0)) = _
        rw [hu]; rfl)
      have zx1 : x1.size ≤ maxLen := by
        have := splitS_size s 61 (x := x1) (by rw [HX.out]; simp)
        unfold maxLen; omega
      have zy0 : y0.size ≤ maxLen := by
        have := splitS_size x0 45 (x := y0) (by rw [hu]; simp)
        unfold maxLen; omega
      have zy1 : y1.size ≤ maxLen := by
        have := splitS_size x0 45 (x := y1) (by rw [hu]; simp)
        unfold maxLen; omega
      have E0 := hide (fun W => read_any y0 W zy0)
      have E1 := hide (fun W => read_any y1 W zy1)
      have E2 := hide (fun W => read_any x1 W zx1)
      rw [hu] at HR2 ⊢
      clear h1 h2 hu zx1 zy0 zy1
      obtain ⟨b2, off2, rfl, hbs2, d0⟩ := HR2.out.get1 (k := 0) (u := .string y0) rfl
      obtain ⟨b3, off3, e3, hbs3, d1⟩ := HR2.out.get1 (k := 1) (u := .string y1) rfl
      injection e3 with e3; injection e3 with e4 e5; subst e4; subst e5
      obtain ⟨b4, off4, e3, hbs4, c1⟩ := HR1.out.get1 (k := 1) (u := .string x1) rfl
      injection e3 with e3; injection e3 with e4 e5; subst e4; subst e5
      have d0 : w2.cell? ⟨b2, off2, none⟩ = some (.string y0) := d0
      have HZ := hide (show w.heap.size < w2.heap.size from HF2.out.1)
      clear hbs
      go_wp2_with fail
      refine wpAnyX_start (fun w' => ∃ n : Later w2, w' = n.w) [13] (n := 14) (by kernel_rfl) rfl rfl ?_
      refine wpAnyX_take [0, 1, 2, 4, 5, 6, 8, 9, 10] 5 rfl (by kernel_rfl) (by intro c a d v w h; cases d <;> exact h) (by kernel_rfl) (by kernel_rfl) (by kernel_rfl) (by simp; rfl) rfl (later_drew _) ?_
      repeat (go_big_quiet_step (fail))
      refine wpQuiet_nil ?_
      clear d0 d1 c1
      have HG : Hid (Below w2.heap.size w2 w2.drew) := hide (Below.refl _ _).drew
      generalize w2.drew = V0 at *
      refine wpAnyX_only 3 (by kernel_rfl) (by simp; rfl) rfl rfl (fun K hK => ?_)
      go_wp2_with fail
      refine (E0.out _).mono ?_
      rintro e V3 ⟨rfl, hb⟩
      replace HG := hide (below_step HG.out hb)
      clear hb
      go_wp2_with fail
      refine ⟨later_of HG.out, ?_⟩
      refine wpAnyX_only 7 (by kernel_rfl) (by simp; rfl) rfl rfl (fun K hK => ?_)
      go_wp2_with fail
      refine (E1.out _).mono ?_
      rintro e V7 ⟨rfl, hb⟩
      replace HG := hide (below_step HG.out hb)
      clear hb
      go_wp2_with fail
      refine ⟨later_of HG.out, ?_⟩
      refine wpAnyX_only 11 (by kernel_rfl) (by simp; rfl) rfl rfl (fun K hK => ?_)
      go_wp2_with fail
      refine (E2.out _).mono ?_
      rintro e V11 ⟨rfl, hb⟩
      replace HG := hide (below_step HG.out hb)
      clear hb
      go_wp2_with fail
      refine ⟨later_of HG.out, ?_⟩
      refine wpAnyX_take [12] 1 rfl (by kernel_rfl) (by intro c a d v w h; cases d <;> exact h) (by kernel_rfl) (by kernel_rfl) (by kernel_rfl) (by simp; rfl) rfl (later_of HG.out) ?_
      repeat (go_big_quiet_step (fail))
      refine wpQuiet_nil ?_
      refine wpAnyX_last 13 (by kernel_rfl) (by simp; rfl) rfl rfl (by kernel_rfl) (fun K hK => ?_)
      have HFx := hide (HF2.out.below HG.out)
      have HBx := hide (below_step HB2.out HG.out)
      have r0 := HFx.out.2.1 0 _ rfl
      have r1 := HFx.out.2.1 1 _ rfl
      have r2 := HFx.out.2.1 2 _ rfl
      have f0 := HFx.out.free 0
      have f1 := HFx.out.free 1
      have f2 := HFx.out.free 2
      go_wp2_with fail
      refine wpAnyX_done (by kernel_rfl) ?_ _
      go_wp2
      exact bodyPost_ret (v := .agg #[.int .i64 (readS y0), .int .i64 (readS y1), .int .i64 (readS x1)]) (by simp [results, Tryd.results11, go_sem, *]) rfl ⟨by rw [HV.out], ((HBx.out.setCell (by simp) _).setCell (by simp) _).setCell (by simp) _⟩
    · have HV := hide (show strS s = (-1, 0, 0) by
        unfold strS
        rw [HX.out]
        exact if_neg (fun hh => h2 hh.2))
      have g1 : (xs.length : Int) = 1 := by omega
      have g2 : ((splitS x0 45).length : Int) ≠ 2 := by omega
      generalize (splitS x0 45).length = m2 at *
      have r0 := HF2.out.2.1 0 _ rfl
      have r1 := HF2.out.2.1 1 _ rfl
      have r2 := HF2.out.2.1 2 _ rfl
      have f0 := HF2.out.free 0
      have f1 := HF2.out.free 1
      have f2 := HF2.out.free 2
      have HZ := hide (show w.heap.size < w2.heap.size from HF2.out.1)
      clear h1 h2
      go_wp2
      exact bodyPost_ret (v := .agg #[.int .i64 (-1), .int .i64 0, .int .i64 0]) (by simp [results, Tryd.results11, go_sem, *]) rfl ⟨by rw [HV.out], ((HB2.out.setCell (by simp) _).setCell (by simp) _).setCell (by simp) _⟩
  · have HV := hide (show strS s = (-1, 0, 0) by
      unfold strS
      rw [HX.out]
      exact if_neg (fun hh => h1 (by have := hh.1; simpa using this)))
    have g1 : (xs.length : Int) ≠ 1 := by omega
    have r0 := HF2.out.2.1 0 _ rfl
    have r1 := HF2.out.2.1 1 _ rfl
    have r2 := HF2.out.2.1 2 _ rfl
    have f0 := HF2.out.free 0
    have f1 := HF2.out.free 1
    have f2 := HF2.out.free 2
    have HZ := hide (show w.heap.size < w2.heap.size from HF2.out.1)
    generalize xs.length = m1 at *
    clear h1
    go_wp2
    exact bodyPost_ret (v := .agg #[.int .i64 (-1), .int .i64 0, .int .i64 0]) (by simp [results, Tryd.results11, go_sem, *]) rfl ⟨by rw [HV.out], ((HB2.out.setCell (by simp) _).setCell (by simp) _).setCell (by simp) _⟩
end Go.Proofs.YtnbiknaihogknaaDoor

/- The law FnExactIsGreatest: what the law's call returns. -/
import Derived.Test.YtangiabihgohcaaNetJ
import Derived.Test.YtangiabihgohcaaNetIj
namespace Go.Proofs.Ytangiabihgohcaa
open Go.RowKit
set_option linter.unusedVariables false

set_option maxRecDepth 100000 in
set_option maxHeartbeats 4000000 in
theorem FnExactIsGreatest_walk (A : Option Addr) (n c : Nat) (M : List (Int × Int)) (B : Option Addr) (m d : Nat) (H : List (Int × Int)) (A2 : Option Addr) (n2 c2 : Nat) (N : List Int) (A3 : Option Addr) (n3 c3 : Nat) (N3 : List Int) (w : World) (hn : n = M.length) (hnc : n ≤ c) (hc : c ≤ maxLen) (hr : Rd w A (M.flatMap mcells)) (hm0 : m = H.length) (hmd : m ≤ d) (hd : d ≤ maxLen) (hr0 : Rd w B (H.flatMap mcells)) (hn2 : n2 = N.length) (hnc2 : n2 ≤ c2) (hc2 : c2 ≤ maxLen) (hr2 : Rd w A2 (N.map (Value.int .i64))) (_ : ∀ x ∈ N, (Lit.int .i64 x).wf = true) (hn3 : n3 = N3.length) (hnc3 : n3 ≤ c3) (hc3 : c3 ≤ maxLen) (hr3 : Rd w A3 (N3.map (Value.int .i64))) (_ : ∀ x ∈ N3, (Lit.int .i64 x).wf = true) :
    Calls Try.prog 9 #[.agg #[.slice A n c, .slice B m d], .slice A2 n2 c2, .slice A3 n3 c3] w fun e w' => e = .returned (.bool true) ∧ Below w.heap.size w w' := by
  have Hn := hide hn
  have Hm := hide hm0
  have HR : Hid (NetRd w A B M H) := hide ⟨hr, hr0⟩
  have hnm : n ≤ maxLen := Nat.le_trans hnc hc
  have hmm : m ≤ maxLen := Nat.le_trans hmd hd
  clear hn hr hm0 hr0
  have Hn2 := hide hn2
  have HR2 := hide hr2
  have Hn3 := hide hn3
  have HR3 := hide hr3
  unfold maxLen at hc2 hc3
  clear hn2 hr2 hn3 hr3
  by_cases hm2 : n2 ≤ 1048576
  · by_cases hm3 : n3 ≤ 1048576
    · by_cases hm : n + m ≤ 1048576
      · have sz := fun W => szNet_any A B n c m d W hnm hmm
        rw [szNet_pos hm] at sz
        have SZ := hide sz
        clear hnc hc hmd hd sz
        go_enter Try.func9, Try.ntmps9
        go_wp2_with fail
        refine (SZ.out _).mono ?_
        rintro e w0 ⟨rfl, hq⟩
        have hb : Below w.heap.size w w0 := below_step (below_alloc (Below.refl _ _) _) hq
        have HS0 := hide hb.size
        have HW : Hid (Below w.heap.size w w0) := hide hb
        obtain ⟨a0, a1⟩ := cell_new2 w (.slice A n c) (.slice B m d) 25
        replace a0 := cell_on a0 hq
        replace a1 := cell_on a1 hq
        clear hb hq SZ
        have HLa : Hid (w.heap.size < w0.heap.size) := hide (World.block_lt_of_cell? w0 _ a0)
        go_wp2_with fail
        refine (toNet_ex A B n c m d M H _ Hn.out Hm.out hm (HR.out.below HW.out)).mono ?_
        rintro e w1 ⟨⟨g1, g1', rfl, hgl, hgu, hr⟩, hq⟩
        have hb : Below w0.heap.size w0 w1 := hq
        have HS1 := hide hb.size
        replace a0 := cell_on a0 hb
        replace a1 := cell_on a1 hb
        replace HW : Hid (Below w.heap.size w w1) := hide (below_step HW.out hb)
        have HR1 := hide hr.rd
        clear hb hq hr hgl hgu
        go_wp2_with fail
        refine (toIntS_ex A2 n2 c2 N _ Hn2.out hm2 (HR2.out.below HW.out)).mono ?_
        rintro e w2 ⟨⟨gi, rfl, hgl, hgu, hri⟩, hq⟩
        have hb : Below w1.heap.size w1 w2 := hq
        have HS2 := hide hb.size
        replace a0 := cell_on a0 hb
        replace a1 := cell_on a1 hb
        replace HW : Hid (Below w.heap.size w w2) := hide (below_step HW.out hb)
        replace HR1 := hide (HR1.out.below hb)
        have HI1 := hide hri.rd
        clear hb hq hri hgl hgu
        go_wp2_with fail
        refine (toIntS_ex A3 n3 c3 N3 _ Hn3.out hm3 (HR3.out.below HW.out)).mono ?_
        rintro e w3 ⟨⟨gi, rfl, hgl, hgu, hri⟩, hq⟩
        have hb : Below w2.heap.size w2 w3 := hq
        have HS3 := hide hb.size
        replace a0 := cell_on a0 hb
        replace a1 := cell_on a1 hb
        replace HW : Hid (Below w.heap.size w w3) := hide (below_step HW.out hb)
        replace HR1 := hide (HR1.out.below hb)
        replace HI1 := hide (HI1.out.below hb)
        have HJ1 := hide hri.rd
        clear hb hq hri hgl hgu
        go_wp2_with fail
        refine (specIsGreatest_any _ _ _ _ n n m m n2 n2 n3 n3 M H N N3 _ Hn.out Hm.out hnm hmm Hn2.out hm2 Hn3.out hm3 HR1.out HI1.out HJ1.out).mono ?_
        rintro e w4 ⟨rfl, hq⟩
        have hb : Below w3.heap.size w3 w4 := hq
        have HS4 := hide hb.size
        replace a0 := cell_on a0 hb
        replace a1 := cell_on a1 hb
        replace HW : Hid (Below w.heap.size w w4) := hide (below_step HW.out hb)
        clear hb hq HR1 HI1 HJ1
        go_wp2_with fail
        refine (toNet_ex A B n c m d M H _ Hn.out Hm.out hm (HR.out.below HW.out)).mono ?_
        rintro e w5 ⟨⟨gx, gx', rfl, hgl, hgu, hr⟩, hq⟩
        have hb : Below w4.heap.size w4 w5 := hq
        have HS5 := hide hb.size
        replace a0 := cell_on a0 hb
        replace a1 := cell_on a1 hb
        replace HW : Hid (Below w.heap.size w w5) := hide (below_step HW.out hb)
        have HX := hide hr
        clear hb hq hr hgl hgu
        go_wp2_with fail
        refine (toIntS_ex A2 n2 c2 N _ Hn2.out hm2 (HR2.out.below (below_alloc HW.out _))).mono ?_
        rintro e w6 ⟨⟨gi, rfl, hgl, hgu, hri⟩, hq⟩
        have hb : Below w5.heap.size w5 w6 := below_step (below_alloc (Below.refl _ _) _) hq
        have HS6 := hide hb.size
        replace a0 := cell_on a0 hb
        replace a1 := cell_on a1 hb
        replace HX := hide (HX.out.below hb)
        replace HW : Hid (Below w.heap.size w w6) := hide (below_step HW.out hb)
        obtain ⟨d0, d1⟩ := cell_new2 w5 (.slice (some ⟨gx, 0, none⟩) n n) (.slice (some ⟨gx', 0, none⟩) m m) 31
        replace d0 := cell_on d0 hq
        replace d1 := cell_on d1 hq
        have HXi := hide hri
        clear hb hq hri hgl hgu
        have zz0 := World.block_lt_of_cell? w6 _ a0
        have zz1 := World.block_lt_of_cell? w6 _ d0
        dsimp only at zz0 zz1
        go_wp2_with fail
        clear zz0 zz1
        refine (toIntS_ex A3 n3 c3 N3 _ Hn3.out hm3 (HR3.out.below HW.out)).mono ?_
        rintro e w7 ⟨⟨gj, rfl, hgl, hgu, hri⟩, hq⟩
        have hb : Below w6.heap.size w6 w7 := hq
        have HS7 := hide hb.size
        replace a0 := cell_on a0 hb
        replace a1 := cell_on a1 hb
        replace d0 := cell_on d0 hb
        replace d1 := cell_on d1 hb
        replace HX := hide (HX.out.below hb)
        replace HXi := hide (HXi.out.below hb)
        replace HW : Hid (Below w.heap.size w w7) := hide (below_step HW.out hb)
        have HXj := hide hri
        clear hb hq hri hgl hgu
        have HXd := hide HX.out.rd
        have HXe := hide HXi.out.rd
        have HXf := hide HXj.out.rd
        clear HX HXi HXj
        go_wp2_with fail
        refine (implIsGreatest_any _ _ _ _ n n m m n2 n2 n3 n3 M H N N3 _ Hn.out Hm.out hnm hmm Hn2.out hm2 Hn3.out hm3 HXd.out HXe.out HXf.out).mono ?_
        rintro e w8 ⟨rfl, hq⟩
        have hb : Below w7.heap.size w7 w8 := hq
        have HS8 := hide hb.size
        replace a0 := cell_on a0 hb
        replace a1 := cell_on a1 hb
        replace d0 := cell_on d0 hb
        replace d1 := cell_on d1 hb
        replace HXd := hide (HXd.out.below hb)
        replace HXe := hide (HXe.out.below hb)
        replace HXf := hide (HXf.out.below hb)
        replace HW : Hid (Below w.heap.size w w8) := hide (below_step HW.out hb)
        clear hb hq
        go_wp2_with fail
        have z0 := World.block_lt_of_cell? w8 _ a0
        have z1 := World.block_lt_of_cell? w8 _ a1
        have z2 := World.block_lt_of_cell? w8 _ d0
        have z3 := World.block_lt_of_cell? w8 _ d1
        dsimp only at z0 z1 z2 z3
        refine wpAnyH_start (n := 5) (by kernel_rfl) rfl rfl ?_
        refine wpAnyH_take_all [0, 1] 3 rfl (by kernel_rfl) (by intro c a d v w h; cases d <;> exact h) (by kernel_rfl) (by simp; rfl) rfl (later_drew _) ?_
        repeat (go_big_quiet_step (fail))
        refine wpQuiet_nil ?_
        clear z0 z1 z2 z3
        refine wpAnyH_only 2 (by kernel_rfl) (by simp; rfl) rfl rfl (later_drew _) (fun K hK => ?_)
        go_wp2_with fail
        refine (toNet_ex A B n c m d M H _ Hn.out Hm.out hm (HR.out.below HW.out.drew)).mono ?_
        rintro e w9 ⟨⟨g2, g2', rfl, hgl, hgu, hr⟩, hq⟩
        have hb : Below w8.heap.size w8 w9 := below_step ((Below.refl _ _).drew) hq
        have HS9 := hide hb.size
        replace a0 := cell_on a0 hb
        replace a1 := cell_on a1 hb
        replace d0 := cell_on d0 hb
        replace d1 := cell_on d1 hb
        replace HXd := hide (HXd.out.below hb)
        replace HXe := hide (HXe.out.below hb)
        replace HXf := hide (HXf.out.below hb)
        replace HW : Hid (Below w.heap.size w w9) := hide (below_step HW.out hb)
        have HT := hide hr.rd
        clear hgl hgu
        go_wp2_with fail
        refine ⟨hq, ?_⟩
        clear hb hq hr
        refine wpAnyH_only 3 (by kernel_rfl) (by simp; rfl) rfl rfl (later_refl _) (fun K hK => ?_)
        go_wp2_with fail
        refine (eqNet_same _ _ _ _ n n n m m m M H _ Hn.out Hm.out hm HXd.out HT.out).mono ?_
        rintro e w10 ⟨rfl, hq⟩
        have hb : Below w9.heap.size w9 w10 := hq
        have HS10 := hide hb.size
        replace a0 := cell_on a0 hb
        replace a1 := cell_on a1 hb
        replace d0 := cell_on d0 hb
        replace d1 := cell_on d1 hb
        replace HXd := hide (HXd.out.below hb)
        replace HXe := hide (HXe.out.below hb)
        replace HXf := hide (HXf.out.below hb)
        replace HW : Hid (Below w.heap.size w w10) := hide (below_step HW.out hb)
        go_wp2_with fail
        refine ⟨hq, ?_⟩
        clear hb hq HT
        refine wpAnyH_only 4 (by kernel_rfl) (by simp; rfl) rfl rfl (later_refl _) (fun K hK => ?_)
        go_wp2_with fail
        refine ⟨Below.refl _ _, ?_⟩
        refine wpAnyH_done (by kernel_rfl) ?_ _
        go_wp2_with fail
        refine (toIntS_ex A2 n2 c2 N _ Hn2.out hm2 (HR2.out.below HW.out)).mono ?_
        rintro e w11 ⟨⟨gk, rfl, hgl, hgu, hri⟩, hq⟩
        have hb : Below w10.heap.size w10 w11 := hq
        have HS11 := hide hb.size
        replace a0 := cell_on a0 hb
        replace a1 := cell_on a1 hb
        replace d0 := cell_on d0 hb
        replace d1 := cell_on d1 hb
        replace HXd := hide (HXd.out.below hb)
        replace HXe := hide (HXe.out.below hb)
        replace HXf := hide (HXf.out.below hb)
        replace HW : Hid (Below w.heap.size w w11) := hide (below_step HW.out hb)
        have HI2 := hide hri.rd
        clear hb hq hri hgl hgu
        go_wp2_with fail
        refine (eqIntS_same _ _ n2 n2 n2 N _ Hn2.out hm2 HXe.out HI2.out).mono ?_
        rintro e w12 ⟨rfl, hq⟩
        have hb : Below w11.heap.size w11 w12 := hq
        have HS12 := hide hb.size
        replace a0 := cell_on a0 hb
        replace a1 := cell_on a1 hb
        replace d0 := cell_on d0 hb
        replace d1 := cell_on d1 hb
        replace HXd := hide (HXd.out.below hb)
        replace HXe := hide (HXe.out.below hb)
        replace HXf := hide (HXf.out.below hb)
        replace HW : Hid (Below w.heap.size w w12) := hide (below_step HW.out hb)
        clear hb hq HI2
        go_wp2_with fail
        refine (toIntS_ex A3 n3 c3 N3 _ Hn3.out hm3 (HR3.out.below HW.out)).mono ?_
        rintro e w13 ⟨⟨gk, rfl, hgl, hgu, hri⟩, hq⟩
        have hb : Below w12.heap.size w12 w13 := hq
        have HS13 := hide hb.size
        replace a0 := cell_on a0 hb
        replace a1 := cell_on a1 hb
        replace d0 := cell_on d0 hb
        replace d1 := cell_on d1 hb
        replace HXd := hide (HXd.out.below hb)
        replace HXe := hide (HXe.out.below hb)
        replace HXf := hide (HXf.out.below hb)
        replace HW : Hid (Below w.heap.size w w13) := hide (below_step HW.out hb)
        have HI2 := hide hri.rd
        clear hb hq hri hgl hgu
        go_wp2_with fail
        refine (eqIntS_same _ _ n3 n3 n3 N3 _ Hn3.out hm3 HXf.out HI2.out).mono ?_
        rintro e w14 ⟨rfl, hq⟩
        have hb : Below w13.heap.size w13 w14 := hq
        have HS14 := hide hb.size
        replace a0 := cell_on a0 hb
        replace a1 := cell_on a1 hb
        replace d0 := cell_on d0 hb
        replace d1 := cell_on d1 hb
        replace HXd := hide (HXd.out.below hb)
        replace HXe := hide (HXe.out.below hb)
        replace HXf := hide (HXf.out.below hb)
        replace HW : Hid (Below w.heap.size w w14) := hide (below_step HW.out hb)
        clear hb hq HI2
        go_wp2
        go_ret
        exact ⟨rfl, HW.out⟩
      · have sz := fun W => szNet_any A B n c m d W hnm hmm
        rw [szNet_neg (by omega)] at sz
        clear hnc hc hmd hd
        go_enter Try.func9, Try.ntmps9
        go_wp2_with (go_at_call 14; ((with_reducible refine (sz _).mono ?_); rintro e w0 ⟨rfl, hb0⟩); obtain ⟨hc0, hf0⟩ := bcell hb0)
        go_ret
        exact ⟨rfl, (by repeat (first | exact Below.refl _ _ | refine below_step ?_ (by assumption) | refine below_step ?_ (Later.below _) | refine below_alloc ?_ _ | refine Below.drew ?_ | refine Below.setCell ?_ (by first | (simp; done) | (simp; omega)) _))⟩
    · go_enter Try.func9, Try.ntmps9
      go_wp2
      go_ret
      exact ⟨rfl, (by repeat (first | exact Below.refl _ _ | refine below_step ?_ (by assumption) | refine below_step ?_ (Later.below _) | refine below_alloc ?_ _ | refine Below.drew ?_ | refine Below.setCell ?_ (by first | (simp; done) | (simp; omega)) _))⟩
  · go_enter Try.func9, Try.ntmps9
    go_wp2
    go_ret
    exact ⟨rfl, (by repeat (first | exact Below.refl _ _ | refine below_step ?_ (by assumption) | refine below_step ?_ (Later.below _) | refine below_alloc ?_ _ | refine Below.drew ?_ | refine Below.setCell ?_ (by first | (simp; done) | (simp; omega)) _))⟩
end Go.Proofs.Ytangiabihgohcaa

/- The law FnExactNetText: what the law's call returns. -/
import Derived.Test.YtmoelgbbgepckaaDoorNetJ
import Derived.Test.YtmoelgbbgepckaaDoorNetTy
namespace Go.Proofs.YtmoelgbbgepckaaDoor
open Go.RowKit
set_option linter.unusedVariables false

set_option maxRecDepth 100000 in
set_option maxHeartbeats 4000000 in
theorem FnExactNetText_walk (A : Option Addr) (n c : Nat) (M : List (Int × Int)) (B : Option Addr) (m d : Nat) (H : List (Int × Int)) (w : World) (hn : n = M.length) (hnc : n ≤ c) (hc : c ≤ maxLen) (hr : Rd w A (M.flatMap mcells)) (hm0 : m = H.length) (hmd : m ≤ d) (hd : d ≤ maxLen) (hr0 : Rd w B (H.flatMap mcells)) (ht : Tab w) :
    Calls Tryd.prog 6 #[.agg #[.slice A n c, .slice B m d]] w fun e w' => e = .returned (.bool true) ∧ Below w.heap.size w w' := by
  have HTAB := hide (fun W (hb : Below w.heap.size w W) => tab_below ht hb)
  clear ht
  have Hn := hide hn
  have Hm := hide hm0
  have HR : Hid (NetRd w A B M H) := hide ⟨hr, hr0⟩
  have hnm : n ≤ maxLen := Nat.le_trans hnc hc
  have hmm : m ≤ maxLen := Nat.le_trans hmd hd
  clear hn hr hm0 hr0
  by_cases hm : n + m ≤ 1048576
  · have sz := fun W => szNet_any A B n c m d W hnm hmm
    rw [szNet_pos hm] at sz
    have SZ := hide sz
    clear hnc hc hmd hd sz
    go_enter Tryd.func6, Tryd.ntmps6
    go_wp2_with fail
    refine (SZ.out _).mono ?_
    rintro e w0 ⟨rfl, hq⟩
    have hb : Below w.heap.size w w0 := below_step (below_alloc (Below.refl _ _) _) hq
    have HS0 := hide hb.size
    have HW : Hid (Below w.heap.size w w0) := hide hb
    obtain ⟨a0, a1⟩ := cell_new2 w (.slice A n c) (.slice B m d) 51
    replace a0 := cell_on a0 hq
    replace a1 := cell_on a1 hq
    clear hb hq SZ
    have HLa : Hid (w.heap.size < w0.heap.size) := hide (World.block_lt_of_cell? w0 _ a0)
    go_wp2_with fail
    refine (toNet_ex A B n c m d M H _ Hn.out Hm.out hm (HR.out.below HW.out)).mono ?_
    rintro e w1 ⟨⟨g1, g1', rfl, hgl, hgu, hr⟩, hq⟩
    have hb : Below w0.heap.size w0 w1 := hq
    have HS1 := hide hb.size
    replace a0 := cell_on a0 hb
    replace a1 := cell_on a1 hb
    replace HW : Hid (Below w.heap.size w w1) := hide (below_step HW.out hb)
    have HR1 := hide hr.rd
    clear hb hq hr hgl hgu
    go_wp2_with fail
    refine (specNetText_any _ _ n n m m M H _ Hn.out Hm.out hnm hmm HR1.out).mono ?_
    rintro e w2 ⟨rfl, hq⟩
    have hb : Below w1.heap.size w1 w2 := hq
    have HS2 := hide hb.size
    replace a0 := cell_on a0 hb
    replace a1 := cell_on a1 hb
    replace HW : Hid (Below w.heap.size w w2) := hide (below_step HW.out hb)
    clear hb hq HR1
    go_wp2_with fail
    refine (toNet_ex A B n c m d M H _ Hn.out Hm.out hm (HR.out.below HW.out)).mono ?_
    rintro e w3 ⟨⟨gx, gx', rfl, hgl, hgu, hr⟩, hq⟩
    have hb : Below w2.heap.size w2 w3 := hq
    have HS3 := hide hb.size
    replace a0 := cell_on a0 hb
    replace a1 := cell_on a1 hb
    replace HW : Hid (Below w.heap.size w w3) := hide (below_step HW.out hb)
    have HX := hide hr
    clear hb hq hr hgl hgu
    go_wp2_with fail
    refine (implNetText_any _ _ n n m m M H _ Hn.out Hm.out hnm hmm (HTAB.out _ (below_alloc HW.out _)) (HX.out.rd.alloc _)).mono ?_
    rintro e w4 ⟨rfl, hq⟩
    have hb : Below w3.heap.size w3 w4 := below_step (below_alloc (Below.refl _ _) _) hq
    have HS4 := hide hb.size
    replace a0 := cell_on a0 hb
    replace a1 := cell_on a1 hb
    replace HX := hide (HX.out.below hb)
    replace HW : Hid (Below w.heap.size w w4) := hide (below_step HW.out hb)
    obtain ⟨d0, d1⟩ := cell_new2 w3 (.slice (some ⟨gx, 0, none⟩) n n) (.slice (some ⟨gx', 0, none⟩) m m) 57
    replace d0 := cell_on d0 hq
    replace d1 := cell_on d1 hq
    clear hb hq
    have HXd := hide HX.out.rd
    clear HX
    go_wp2_with fail
    have z0 := World.block_lt_of_cell? w4 _ a0
    have z1 := World.block_lt_of_cell? w4 _ a1
    have z2 := World.block_lt_of_cell? w4 _ d0
    have z3 := World.block_lt_of_cell? w4 _ d1
    dsimp only at z0 z1 z2 z3
    refine wpAnyH_start (n := 5) (by kernel_rfl) rfl rfl ?_
    refine wpAnyH_take_all [0, 1] 3 rfl (by kernel_rfl) (by intro c a d v w h; cases d <;> exact h) (by kernel_rfl) (by simp; rfl) rfl (later_drew _) ?_
    repeat (go_big_quiet_step (fail))
    refine wpQuiet_nil ?_
    clear z0 z1 z2 z3
    refine wpAnyH_only 2 (by kernel_rfl) (by simp; rfl) rfl rfl (later_drew _) (fun K hK => ?_)
    go_wp2_with fail
    refine (toNet_ex A B n c m d M H _ Hn.out Hm.out hm (HR.out.below HW.out.drew)).mono ?_
    rintro e w5 ⟨⟨g2, g2', rfl, hgl, hgu, hr⟩, hq⟩
    have hb : Below w4.heap.size w4 w5 := below_step ((Below.refl _ _).drew) hq
    have HS5 := hide hb.size
    replace a0 := cell_on a0 hb
    replace a1 := cell_on a1 hb
    replace d0 := cell_on d0 hb
    replace d1 := cell_on d1 hb
    replace HXd := hide (HXd.out.below hb)
    replace HW : Hid (Below w.heap.size w w5) := hide (below_step HW.out hb)
    have HT := hide hr.rd
    clear hgl hgu
    go_wp2_with fail
    refine ⟨hq, ?_⟩
    clear hb hq hr
    refine wpAnyH_only 3 (by kernel_rfl) (by simp; rfl) rfl rfl (later_refl _) (fun K hK => ?_)
    go_wp2_with fail
    refine (eqNet_same _ _ _ _ n n n m m m M H _ Hn.out Hm.out hm HXd.out HT.out).mono ?_
    rintro e w6 ⟨rfl, hq⟩
    have hb : Below w5.heap.size w5 w6 := hq
    have HS6 := hide hb.size
    replace a0 := cell_on a0 hb
    replace a1 := cell_on a1 hb
    replace d0 := cell_on d0 hb
    replace d1 := cell_on d1 hb
    replace HXd := hide (HXd.out.below hb)
    replace HW : Hid (Below w.heap.size w w6) := hide (below_step HW.out hb)
    go_wp2_with fail
    refine ⟨hq, ?_⟩
    clear hb hq HT
    refine wpAnyH_only 4 (by kernel_rfl) (by simp; rfl) rfl rfl (later_refl _) (fun K hK => ?_)
    go_wp2_with fail
    refine ⟨Below.refl _ _, ?_⟩
    refine wpAnyH_done (by kernel_rfl) ?_ _
    go_wp2
    go_ret
    exact ⟨rfl, HW.out⟩
  · have sz := fun W => szNet_any A B n c m d W hnm hmm
    rw [szNet_neg (by omega)] at sz
    clear hnc hc hmd hd
    go_enter Tryd.func6, Tryd.ntmps6
    go_wp2_with (go_at_call 32; ((with_reducible refine (sz _).mono ?_); rintro e w0 ⟨rfl, hb0⟩); obtain ⟨hc0, hf0⟩ := bcell hb0)
    go_ret
    exact ⟨rfl, (by repeat (first | exact Below.refl _ _ | refine below_step ?_ (by assumption) | refine below_step ?_ (Later.below _) | refine below_alloc ?_ _ | refine Below.drew ?_ | refine Below.setCell ?_ (by first | (simp; done) | (simp; omega)) _))⟩
end Go.Proofs.YtmoelgbbgepckaaDoor

/- The law FnExactIsTown: what the law's call returns. -/
import Derived.Test.YtajkeepbabfgpaaLawH
import Derived.Test.YtajkeepbabfgpaaOwn
namespace Go.Proofs.Ytajkeepbabfgpaa
open Go.RowKit
set_option linter.unusedVariables false

theorem szStreet_pos {n : Nat} (h : n ≤ 1048576) : szStreet n 1048576 = 1048576 - n := by unfold szStreet; rw [if_neg (by omega)]
theorem szStreet_neg {n : Nat} (h : 1048576 < n) : szStreet n 1048576 = -1 := by unfold szStreet; rw [if_pos (by omega)]

set_option maxHeartbeats 2000000 in
theorem FnExactIsTown_walk (nd : Int) (A : Option Addr) (n c : Nat) (l : List (Int × Int × Int)) (w : World) (_ : (Lit.int .i64 nd).wf = true) (hn : n = l.length) (hnc : n ≤ c) (hc : c ≤ maxLen) (hr : Rd w A (l.flatMap tcells)) :
    Calls Try.prog 3 #[.agg #[.int .i64 nd, .slice A n c]] w fun e w' => e = .returned (.bool true) ∧ Below w.heap.size w w' := by
  have Hn := hide hn
  have HR := hide hr
  have hnm : n ≤ maxLen := Nat.le_trans hnc hc
  clear hn hr
  by_cases hm : n ≤ 1048576
  · have sz := fun W => szTown_any nd A n c 1048576 W hnm (by omega) (by omega)
    rw [szStreet_pos hm] at sz
    have SZ := hide sz
    clear hnc hc sz
    go_enter Try.func3, Try.ntmps3
    go_wp2_with fail
    refine (SZ.out _).mono ?_
    rintro e w0 ⟨rfl, hq⟩
    obtain ⟨a0, a1⟩ := cell_new2 w (.int .i64 nd) (.slice A n c) 24
    have a0 := cell_on a0 hq
    have a1 := cell_on a1 hq
    have HW0 : Hid (Below w.heap.size w w0) := hide (below_step (by repeat (first | exact Below.refl _ _ | refine below_step ?_ (by assumption) | refine below_step ?_ (Later.below _) | refine below_alloc ?_ _ | refine Below.drew ?_ | refine Below.setCell ?_ (by first | (simp; done) | (simp; omega)) _)) hq)
    clear hq SZ
    go_wp2_with fail
    refine (toTown_any nd A n c l _ Hn.out hm (HR.out.below HW0.out)).mono ?_
    rintro e w1 ⟨rfl, hr1, hq⟩
    have a0 := cell_on a0 hq
    have a1 := cell_on a1 hq
    have HR1 := hide hr1.rd
    have HW1 : Hid (Below w.heap.size w w1) := hide (below_step HW0.out hq)
    clear hr1 hq
    go_wp2_with fail
    refine (specIsTown_any nd _ n n l _ Hn.out hnm HR1.out).mono ?_
    rintro e w2 ⟨rfl, hq⟩
    have a0 := cell_on a0 hq
    have a1 := cell_on a1 hq
    have HW2 : Hid (Below w.heap.size w w2) := hide (below_step HW1.out hq)
    clear HR1 HW0 HW1 hq
    go_wp2_with fail
    refine (toTown_any nd A n c l _ Hn.out hm (HR.out.below HW2.out)).mono ?_
    rintro e w3 ⟨rfl, hr3, hq⟩
    have a0 := cell_on a0 hq
    have a1 := cell_on a1 hq
    have HR3 := hide hr3
    have HW3 : Hid (Below w.heap.size w w3) := hide (below_step HW2.out hq)
    clear hr3 hq
    go_wp2_with fail
    refine (implIsTown_any nd _ n n l _ Hn.out hnm (HR3.out.rd.alloc _)).mono ?_
    rintro e w4 ⟨rfl, hq⟩
    obtain ⟨d0, d1⟩ := cell_new2 w3 (.int .i64 nd) (.slice (some ⟨w2.heap.size + 3, 0, none⟩) n n) 29
    have d0 := cell_on d0 hq
    have d1 := cell_on d1 hq
    have hb : Below w3.heap.size w3 w4 := below_step (by repeat (first | exact Below.refl _ _ | refine below_step ?_ (by assumption) | refine below_step ?_ (Later.below _) | refine below_alloc ?_ _ | refine Below.drew ?_ | refine Below.setCell ?_ (by first | (simp; done) | (simp; omega)) _)) hq
    have a0 := cell_on a0 hb
    have a1 := cell_on a1 hb
    have HR4 := hide (HR3.out.below hb)
    have HW4 : Hid (Below w.heap.size w w4) := hide (below_step HW3.out hb)
    have z0 := World.block_lt_of_cell? w4 _ a0
    have z1 := World.block_lt_of_cell? w4 _ d0
    dsimp only at z0 z1
    clear hq hb HR3
    go_wp2_with fail
    refine wpAnyH_start (n := 5) (by kernel_rfl) rfl rfl ?_
    refine wpAnyH_take_all [0, 1] 3 rfl (by kernel_rfl) (by intro c a d v w h; cases d <;> exact h) (by kernel_rfl) (by simp; rfl) rfl (later_drew _) ?_
    repeat (go_big_quiet_step (fail))
    refine wpQuiet_nil ?_
    refine wpAnyH_only 2 (by kernel_rfl) (by simp; rfl) rfl rfl (later_drew _) (fun K hK => ?_)
    go_wp2_with fail
    refine (toTown_any nd A n c l _ Hn.out hm (HR.out.below HW4.out.drew)).mono ?_
    rintro e w5 ⟨rfl, hr5, hq⟩
    have HR5 := hide hr5.rd
    have hb : Below w4.heap.size w4 w5 := below_step ((Below.refl _ _).drew) hq
    have HW5 : Hid (Below w.heap.size w w5) := hide (below_step HW4.out hb)
    have HD5 := hide (HR4.out.below hb).rd
    clear hr5 hb
    go_wp2_with fail
    refine ⟨hq, ?_⟩
    clear hq
    refine wpAnyH_only 3 (by kernel_rfl) (by simp; rfl) rfl rfl (later_refl _) (fun K hK => ?_)
    go_wp2_with fail
    refine (eqTown_same nd _ _ n n n l _ Hn.out hm HD5.out HR5.out).mono ?_
    rintro e w6 ⟨rfl, hq⟩
    have HW6 : Hid (Below w.heap.size w w6) := hide (below_step HW5.out hq)
    go_wp2_with fail
    refine ⟨hq, ?_⟩
    clear hq
    refine wpAnyH_only 4 (by kernel_rfl) (by simp; rfl) rfl rfl (later_refl _) (fun K hK => ?_)
    go_wp2_with fail
    refine ⟨Below.refl _ _, ?_⟩
    refine wpAnyH_done (by kernel_rfl) ?_ _
    go_wp2
    go_ret
    exact ⟨rfl, HW6.out⟩
  · have sz := fun W => szTown_any nd A n c 1048576 W hnm (by omega) (by omega)
    rw [szStreet_neg (by omega)] at sz
    clear hnc hc
    go_enter Try.func3, Try.ntmps3
    go_wp2_with (go_at_call 15; ((with_reducible refine (sz _).mono ?_); rintro e w0 ⟨rfl, hb0⟩); obtain ⟨hc0, hf0⟩ := bcell hb0)
    go_ret
    exact ⟨rfl, (by repeat (first | exact Below.refl _ _ | refine below_step ?_ (by assumption) | refine below_step ?_ (Later.below _) | refine below_alloc ?_ _ | refine Below.drew ?_ | refine Below.setCell ?_ (by first | (simp; done) | (simp; omega)) _))⟩
end Go.Proofs.Ytajkeepbabfgpaa

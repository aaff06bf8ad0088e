/- The law FnExactHoseText: what the law's call returns. -/
import Derived.Test.YtmoelgbbgepckaaDoorHoseU
import Derived.Test.YtmoelgbbgepckaaDoorConvHose
namespace Go.Proofs.YtmoelgbbgepckaaDoor
open Go.RowKit
set_option linter.unusedVariables false

theorem szHose_neg {n : Nat} (h : 1048576 < n) : szHose n 1048576 = -1 := by unfold szHose; rw [if_pos (by omega)]
theorem szHose_pos {n : Nat} (h : n ≤ 1048576) : szHose n 1048576 = 1048576 - (n : Int) := by unfold szHose; rw [if_neg (by omega)]

set_option maxHeartbeats 2000000 in
theorem FnExactHoseText_walk (A : Option Addr) (n c : Nat) (hs : List (Int × Int)) (w : World) (hn : n = hs.length) (hnc : n ≤ c) (hc : c ≤ maxLen) (hr : Rd w A (hs.flatMap hcells)) (ht : Tab w) :
    Calls Tryd.prog 3 #[.slice A n c] w fun e w' => e = .returned (.bool true) ∧ Below w.heap.size w w' := by
  have HTAB := hide (fun W (hb : Below w.heap.size w W) => tab_below ht hb)
  clear ht
  have Hn := hide hn
  have HR := hide hr
  clear hn hr
  by_cases hm : n ≤ 1048576
  · have sz := fun w => szHoseS_any A n c 1048576 w (by omega) (by omega) (by omega)
    rw [szHose_pos hm] at sz
    clear hnc hc
    go_enter Tryd.func3, Tryd.ntmps3
    go_wp2_with (go_at_call 10; ((with_reducible refine (sz _).mono ?_); rintro e w' ⟨rfl, rfl⟩))
    refine (toHoseS_any A n c hs _ Hn.out hm HR.out).mono ?_
    rintro e w1 ⟨rfl, hr1, hb1⟩
    have HR1 := hide hr1.rd
    clear hr1
    go_wp2_with fail
    refine (specHoseText_any _ n n hs _ Hn.out hm HR1.out).mono ?_
    rintro e w2 ⟨rfl, hb2⟩
    have HW2 := hide (below_step hb1 hb2)
    go_wp2_with fail
    refine (toHoseS_any A n c hs _ Hn.out hm (HR.out.below HW2.out)).mono ?_
    rintro e w3 ⟨rfl, hr3, hb3⟩
    have HR3 := hide hr3.rd
    clear hr3
    go_wp2_with fail
    refine (implHoseText_any _ n n hs _ Hn.out hm (HTAB.out _ (below_step HW2.out hb3)) HR3.out).mono ?_
    rintro e w4 ⟨rfl, hb4⟩
    have HW4 := hide (below_step (below_step HW2.out hb3) hb4)
    go_wp2_with fail
    refine (toHoseS_any A n c hs _ Hn.out hm (HR.out.below HW4.out)).mono ?_
    rintro e w5 ⟨rfl, hr5, hb5⟩
    have HR5 := hide hr5.rd
    have HR35 := hide ((HR3.out.below hb4).below hb5)
    clear hr5
    go_wp2_with fail
    refine (eqHoseS_same _ _ n n n hs _ Hn.out hm HR35.out HR5.out).mono ?_
    rintro e w6 ⟨rfl, hb6⟩
    go_wp2
    go_ret
    exact ⟨rfl, (by repeat (first | exact Below.refl _ _ | refine below_step ?_ (by assumption) | refine below_step ?_ (Later.below _) | refine below_alloc ?_ _ | refine Below.drew ?_ | refine Below.setCell ?_ (by first | (simp; done) | (simp; omega)) _))⟩
  · have sz := fun w => szHoseS_any A n c 1048576 w (by omega) (by omega) (by omega)
    rw [szHose_neg (by omega)] at sz
    clear hnc hc
    go_enter Tryd.func3, Tryd.ntmps3
    go_wp2_with (go_at_call 10; ((with_reducible refine (sz _).mono ?_); rintro e w' ⟨rfl, rfl⟩))
    go_ret
    exact ⟨rfl, Below.refl _ _⟩
end Go.Proofs.YtmoelgbbgepckaaDoor

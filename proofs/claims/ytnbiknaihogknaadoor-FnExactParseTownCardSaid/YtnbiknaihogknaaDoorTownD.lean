/- Towns copied and compared by the laws. -/
import Derived.Test.YtnbiknaihogknaaDoorTownC
namespace Go.Proofs.YtnbiknaihogknaaDoor
open Go.RowKit
set_option linter.unusedVariables false

set_option maxHeartbeats 1000000 in
theorem eqTown_same (nd : Int) (A B : Option Addr) (n c d : Nat) (l : List (Int × Int × Int)) (w : World) (hn : n = l.length) (hm : n ≤ 1048576) (hr : Rd w A (l.flatMap tcells)) (hs : Rd w B (l.flatMap tcells)) :
    Calls Tryd.prog 6 #[.agg #[.int .i64 nd, .slice A n c], .agg #[.int .i64 nd, .slice B n d]] w fun e w' => e = .returned (.bool true) ∧ Below w.heap.size w w' := by
  have Hr := hide hr
  have Hs := hide hs
  have Hn := hide hn
  clear hn hr hs
  go_enter Tryd.func6, Tryd.ntmps6
  go_wp2_with fail
  refine (eqStreetS_same A B n c d l _ Hn.out hm (Hr.out.below (by repeat (first | exact Below.refl _ _ | refine below_step ?_ (by assumption) | refine below_step ?_ (Later.below _) | refine below_alloc ?_ _ | refine Below.drew ?_ | refine Below.setCell ?_ (by first | (simp; done) | (simp; omega)) _))) (Hs.out.below (by repeat (first | exact Below.refl _ _ | refine below_step ?_ (by assumption) | refine below_step ?_ (Later.below _) | refine below_alloc ?_ _ | refine Below.drew ?_ | refine Below.setCell ?_ (by first | (simp; done) | (simp; omega)) _)))).mono ?_
  rintro e w1 ⟨rfl, hb1⟩
  go_wp2
  go_ret
  exact ⟨rfl, (by repeat (first | exact Below.refl _ _ | refine below_step ?_ (by assumption) | refine below_step ?_ (Later.below _) | refine below_alloc ?_ _ | refine Below.drew ?_ | refine Below.setCell ?_ (by first | (simp; done) | (simp; omega)) _))⟩

end Go.Proofs.YtnbiknaihogknaaDoor

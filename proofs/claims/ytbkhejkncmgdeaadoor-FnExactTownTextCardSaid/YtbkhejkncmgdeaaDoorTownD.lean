/- Towns copied and compared by the laws. -/
import Derived.Test.YtbkhejkncmgdeaaDoorTownC
namespace Go.Proofs.YtbkhejkncmgdeaaDoor
open Go.RowKit
set_option linter.unusedVariables false

set_option maxHeartbeats 1000000 in
theorem szTown_any (nd : Int) (A : Option Addr) (n c : Nat) (left : Int) (w : World) (hn : n ≤ maxLen) (h0 : 0 ≤ left) (h1 : left ≤ 1048576) :
    Calls Tryd.prog 5 #[.agg #[.int .i64 nd, .slice A n c], .int .i64 left] w fun e w' => e = .returned (.int .i64 (szStreet n left)) ∧ Below w.heap.size w w' := by
  have q := fun W => szStreetS_any A n c left W hn h0 h1
  have hs : szStreet n left < 0 ∧ szStreet n left = -1 ∨ ¬ szStreet n left < 0 := by unfold szStreet; split <;> omega
  unfold maxLen at hn
  go_enter Tryd.func5, Tryd.ntmps5
  go_wp2_with (go_at_call 14; ((with_reducible refine (q _).mono ?_); rintro e w' ⟨rfl, rfl⟩))
  all_goals
    go_ret
    exact ⟨ret_int (by first | rfl | omega), (by repeat (first | exact Below.refl _ _ | refine below_step ?_ (by assumption) | refine below_step ?_ (Later.below _) | refine below_alloc ?_ _ | refine Below.drew ?_ | refine Below.setCell ?_ (by first | (simp; done) | (simp; omega)) _))⟩

set_option maxHeartbeats 1000000 in
theorem eqTown_same (nd : Int) (A B : Option Addr) (n c d : Nat) (l : List (Int × Int × Int)) (w : World) (hn : n = l.length) (hm : n ≤ 1048576) (hr : Rd w A (l.flatMap tcells)) (hs : Rd w B (l.flatMap tcells)) :
    Calls Tryd.prog 9 #[.agg #[.int .i64 nd, .slice A n c], .agg #[.int .i64 nd, .slice B n d]] w fun e w' => e = .returned (.bool true) ∧ Below w.heap.size w w' := by
  have Hr := hide hr
  have Hs := hide hs
  have Hn := hide hn
  clear hn hr hs
  go_enter Tryd.func9, Tryd.ntmps9
  go_wp2_with fail
  refine (eqStreetS_same A B n c d l _ Hn.out hm (Hr.out.below (by repeat (first | exact Below.refl _ _ | refine below_step ?_ (by assumption) | refine below_step ?_ (Later.below _) | refine below_alloc ?_ _ | refine Below.drew ?_ | refine Below.setCell ?_ (by first | (simp; done) | (simp; omega)) _))) (Hs.out.below (by repeat (first | exact Below.refl _ _ | refine below_step ?_ (by assumption) | refine below_step ?_ (Later.below _) | refine below_alloc ?_ _ | refine Below.drew ?_ | refine Below.setCell ?_ (by first | (simp; done) | (simp; omega)) _)))).mono ?_
  rintro e w1 ⟨rfl, hb1⟩
  go_wp2
  go_ret
  exact ⟨rfl, (by repeat (first | exact Below.refl _ _ | refine below_step ?_ (by assumption) | refine below_step ?_ (Later.below _) | refine below_alloc ?_ _ | refine Below.drew ?_ | refine Below.setCell ?_ (by first | (simp; done) | (simp; omega)) _))⟩

set_option maxHeartbeats 2000000 in
theorem toTown_any (nd : Int) (A : Option Addr) (n c : Nat) (l : List (Int × Int × Int)) (w : World) (hn : n = l.length) (hm : n ≤ 1048576) (hr : Rd w A (l.flatMap tcells)) :
    Calls Tryd.prog 7 #[.agg #[.int .i64 nd, .slice A n c]] w fun e w' => e = .returned (.agg #[.int .i64 nd, .slice (some ⟨w.heap.size + 3, 0, none⟩) n n]) ∧ Row w' (w.heap.size + 3) (l.flatMap tcells) ∧ Below w.heap.size w w' := by
  have Hr := hide hr
  have Hn := hide hn
  clear hn hr
  go_enter Tryd.func7, Tryd.ntmps7
  go_wp2_with fail
  refine (toStreetS_any A n c l _ Hn.out hm (Hr.out.below (by repeat (first | exact Below.refl _ _ | refine below_step ?_ (by assumption) | refine below_step ?_ (Later.below _) | refine below_alloc ?_ _ | refine Below.drew ?_ | refine Below.setCell ?_ (by first | (simp; done) | (simp; omega)) _)))).mono ?_
  rintro e w1 ⟨rfl, hr1, hb1⟩
  have HR1 : Hid (Row w1 (w.heap.size + 3) (l.flatMap tcells)) := hide (by simpa using hr1)
  have HB1 := hide hb1
  obtain ⟨hc1, hf1⟩ := bcell hb1
  clear hr1
  go_wp2
  refine bodyPost_ret (v := .agg #[.int .i64 nd, .slice (some ⟨w.heap.size + 3, 0, none⟩) n n]) (by simp [results, Tryd.results7, go_sem, *]) rfl ⟨rfl, ?_, (by repeat (first | exact Below.refl _ _ | refine below_step ?_ (by assumption) | refine below_step ?_ (Later.below _) | refine below_alloc ?_ _ | refine Below.drew ?_ | refine Below.setCell ?_ (by first | (simp; done) | (simp; omega)) _))⟩
  repeat (refine Row.far ?_ (by simp) _)
  exact HR1.out
end Go.Proofs.YtbkhejkncmgdeaaDoor

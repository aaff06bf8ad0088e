/- The law over towns' validity: what the law's call returns. -/
import Derived.Test.YtajkeepbabfgpaaTownF
namespace Go.Proofs.Ytajkeepbabfgpaa
open Go.RowKit
set_option linter.unusedVariables false

set_option maxHeartbeats 1000000 in
theorem implIsTown_any (nd : Int) (A : Option Addr) (n c : Nat) (l : List (Int × Int × Int)) (w : World) (hn : n = l.length) (hm : n ≤ maxLen) (hr : Rd w A (l.flatMap tcells)) :
    Calls Try.prog 18 #[.agg #[.int .i64 nd, .slice A n c]] w fun e w' => e = .returned (.bool (townB nd l)) ∧ Below w.heap.size w w' := by
  have q := implisTown_any w.heap.size nd A n c l (w.alloc (.cells #[.int .i64 nd, .slice A n c] 29)) hn hm (hr.alloc _) (by simp) ((Row.new _ _ _).2.1 0 _ rfl) ((Row.new _ _ _).2.1 1 _ rfl)
  clear hn hm hr
  go_enter Try.func18, Try.ntmps18
  go_wp2_with (go_at_call 57; ((with_reducible refine (q).mono ?_); rintro e w1 ⟨rfl, hb1⟩); obtain ⟨hc1, hf1⟩ := bcell hb1)
  go_ret
  exact ⟨rfl, (by repeat (first | exact Below.refl _ _ | refine below_step ?_ (by assumption) | refine below_step ?_ (Later.below _) | refine below_alloc ?_ _ | refine Below.drew ?_ | refine Below.setCell ?_ (by first | (simp; done) | (simp; omega)) _))⟩

set_option maxHeartbeats 1000000 in
theorem specIsTown_any (nd : Int) (A : Option Addr) (n c : Nat) (l : List (Int × Int × Int)) (w : World) (hn : n = l.length) (hm : n ≤ maxLen) (hr : Rd w A (l.flatMap tcells)) :
    Calls Try.prog 16 #[.agg #[.int .i64 nd, .slice A n c]] w fun e w' => e = .returned (.bool (townB nd l)) ∧ Below w.heap.size w w' := by
  have q := toGood_any nd A n c l (w.alloc (.cells #[.int .i64 nd, .slice A n c] 29)) hn hm (hr.alloc _)
  clear hn hm hr
  go_enter Try.func16, Try.ntmps16
  go_wp2_with (go_at_call 55; ((with_reducible refine (q).mono ?_); rintro e w1 ⟨rfl, hb1⟩); obtain ⟨hc1, hf1⟩ := bcell hb1)
  go_ret
  exact ⟨rfl, (by repeat (first | exact Below.refl _ _ | refine below_step ?_ (by assumption) | refine below_step ?_ (Later.below _) | refine below_alloc ?_ _ | refine Below.drew ?_ | refine Below.setCell ?_ (by first | (simp; done) | (simp; omega)) _))⟩
end Go.Proofs.Ytajkeepbabfgpaa

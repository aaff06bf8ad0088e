/- Nets copied by the laws; what IsNet returns. -/
import Derived.Test.YtfcpgpmhjadanaaGreatDoorNetC
namespace Go.Proofs.YtfcpgpmhjadanaaGreatDoor
open Go.RowKit
set_option linter.unusedVariables false

set_option maxHeartbeats 1000000 in
theorem implIsNet_any (A B : Option Addr) (n c m d : Nat) (M H : List (Int × Int)) (w : World) (hn : n = M.length) (hm : m = H.length) (hnm : n ≤ maxLen) (hmm : m ≤ maxLen) (hr : NetRd w A B M H) :
    Calls Tryz.prog 25 #[.agg #[.slice A n c, .slice B m d]] w fun e w' => e = .returned (.bool (netB M H)) ∧ Below w.heap.size w w' := by
  have hc := cell_new2 w (.slice A n c) (.slice B m d) 27
  have q := implisNet_any w.heap.size A B n c m d M H (w.alloc (.cells #[.slice A n c, .slice B m d] 27)) hn hm hnm hmm (hr.alloc _) hc.1 hc.2
  clear hn hm hnm hmm hr hc
  go_enter Tryz.func25, Tryz.ntmps25
  go_wp2_with (go_at_call 29; ((with_reducible refine (q).mono ?_); rintro e w1 ⟨rfl, hb1⟩); obtain ⟨hc1, hf1⟩ := bcell hb1)
  go_ret
  exact ⟨rfl, (by repeat (first | exact Below.refl _ _ | refine below_step ?_ (by assumption) | refine below_step ?_ (Later.below _) | refine below_alloc ?_ _ | refine Below.drew ?_ | refine Below.setCell ?_ (by first | (simp; done) | (simp; omega)) _))⟩

end Go.Proofs.YtfcpgpmhjadanaaGreatDoor

/- Nets copied by the laws; what IsNet returns. -/
import Derived.Test.YtmoelgbbgepckaaDoorNetC
namespace Go.Proofs.YtmoelgbbgepckaaDoor
open Go.RowKit
set_option linter.unusedVariables false

set_option maxHeartbeats 2000000 in
theorem toNet_ex (A B : Option Addr) (n c m d : Nat) (M H : List (Int × Int)) (w : World) (hn : n = M.length) (hm : m = H.length) (hs : n + m ≤ 1048576) (hr : NetRd w A B M H) :
    Calls Tryd.prog 34 #[.agg #[.slice A n c, .slice B m d]] w fun e w' => (∃ g h, e = .returned (.agg #[.slice (some ⟨g, 0, none⟩) n n, .slice (some ⟨h, 0, none⟩) m m]) ∧ (w.heap.size ≤ g ∧ g < h) ∧ h < w'.heap.size ∧ NetRow w' g h M H) ∧ Below w.heap.size w w' := by
  have Hr := hide hr
  have Hn := hide hn
  have Hm := hide hm
  clear hn hm hr
  go_enter Tryd.func34, Tryd.ntmps34
  go_wp2_with fail
  refine (toMainS_any A n c M _ Hn.out (by omega) (Hr.out.1.below (by repeat (first | exact Below.refl _ _ | refine below_step ?_ (by assumption) | refine below_step ?_ (Later.below _) | refine below_alloc ?_ _ | refine Below.drew ?_ | refine Below.setCell ?_ (by first | (simp; done) | (simp; omega)) _)))).mono ?_
  rintro e w1 ⟨rfl, hr1, hb1⟩
  have HR1 : Hid (Row w1 (w.heap.size + 3) (M.flatMap mcells)) := hide (by simpa using hr1)
  have HB1 := hide hb1
  obtain ⟨hc1, hf1⟩ := bcell hb1
  have hz1 : w.heap.size + 3 < w1.heap.size := HR1.out.1
  have k0 : w.heap.size < w1.heap.size := by omega
  have k1 : w.heap.size + 1 < w1.heap.size := by omega
  have k2 : w.heap.size + 1 + 1 < w1.heap.size := by omega
  clear hr1
  go_wp2_with fail
  refine (toHydrantS_any B m d H _ Hm.out (by omega) (Hr.out.2.below (by repeat (first | exact Below.refl _ _ | refine below_step ?_ (by assumption) | refine below_step ?_ (Later.below _) | refine below_alloc ?_ _ | refine Below.drew ?_ | refine Below.setCell ?_ (by first | (simp; done) | (simp; omega)) _)))).mono ?_
  rintro e w2 ⟨rfl, hr2, hb2⟩
  have HR2 : Hid (Row w2 w1.heap.size (H.flatMap mcells)) := hide (by simpa using hr2)
  have HR3 : Hid (Row w2 (w.heap.size + 3) (M.flatMap mcells)) := hide (Row.below (Row.far HR1.out (by simp) _) hb2)
  have HB2 := hide hb2
  obtain ⟨hc2, hf2⟩ := bcell hb2
  have hz2 := hr2.1
  have j1 := (hc2 (w.heap.size + 1) 0 (by simp; omega))
  have j1' := (hc2 (w.heap.size + 1) 1 (by simp; omega))
  have j2 := (hc2 (w.heap.size + 1 + 1) 0 (by simp; omega))
  have j2' := (hc2 (w.heap.size + 1 + 1) 1 (by simp; omega))
  have f1 := (hf2 (w.heap.size + 1) 0 (by simp; omega))
  have f1' := (hf2 (w.heap.size + 1) 1 (by simp; omega))
  have f2 := (hf2 (w.heap.size + 1 + 1) 0 (by simp; omega))
  have f2' := (hf2 (w.heap.size + 1 + 1) 1 (by simp; omega))
  simp [World.cell?_setCell_other, hc1, hf1] at j1 j1' j2 j2' f1 f1' f2 f2'

  clear hr2
  go_wp2
  refine bodyPost_ret (v := .agg #[.slice (some ⟨w.heap.size + 3, 0, none⟩) n n, .slice (some ⟨w1.heap.size, 0, none⟩) m m]) (by simp [results, Tryd.results34, go_sem, *]) rfl ⟨⟨_, _, rfl, by omega, ?_, ?_⟩, (by repeat (first | exact Below.refl _ _ | refine below_step ?_ (by assumption) | refine below_step ?_ (Later.below _) | refine below_alloc ?_ _ | refine Below.drew ?_ | refine Below.setCell ?_ (by first | (simp; done) | (simp; omega)) _))⟩
  · have := HR2.out.1; simpa using this
  · refine ⟨?_, ?_⟩
    · repeat (refine Row.far ?_ (by simp) _)
      exact HR3.out
    · repeat (refine Row.far ?_ (by simp; omega) _)
      exact HR2.out

end Go.Proofs.YtmoelgbbgepckaaDoor

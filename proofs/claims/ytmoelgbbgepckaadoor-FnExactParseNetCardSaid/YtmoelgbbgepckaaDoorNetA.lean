/- Nets copied and compared by the laws. -/
import Derived.Test.YtmoelgbbgepckaaDoorConvMain
import Derived.Test.YtmoelgbbgepckaaDoorConvHydrant
import Derived.Test.YtmoelgbbgepckaaDoorOwn
namespace Go.Proofs.YtmoelgbbgepckaaDoor
open Go.RowKit
set_option linter.unusedVariables false

def szNet (n m : Nat) : Int := if n + m ≤ 1048576 then 1048576 - n - m else -1
set_option maxHeartbeats 1000000 in
theorem szNet_any (A B : Option Addr) (n c m d : Nat) (w : World) (hn : n ≤ maxLen) (hm : m ≤ maxLen) :
    Calls Tryd.prog 32 #[.agg #[.slice A n c, .slice B m d], .int .i64 1048576] w fun e w' => e = .returned (.int .i64 (szNet n m)) ∧ Below w.heap.size w w' := by
  have q := fun W => szMainS_any A n c 1048576 W hn (by omega) (by omega)
  by_cases h : n ≤ 1048576
  · rw [show szMain n 1048576 = 1048576 - n by unfold szMain; rw [if_neg (by omega)]] at q
    have q2 := fun W => szHydrantS_any B m d (1048576 - n) W hm (by omega) (by omega)
    by_cases h2 : n + m ≤ 1048576
    · rw [show szHydrant m (1048576 - n) = 1048576 - n - m by unfold szHydrant; rw [if_neg (by omega)]] at q2
      have HE := hide (show szNet n m = 1048576 - n - m by unfold szNet; rw [if_pos h2])
      unfold maxLen at hn hm
      go_enter Tryd.func32, Tryd.ntmps32
      go_wp2_with (first | (go_at_call 82; ((with_reducible refine (q _).mono ?_); rintro e w' ⟨rfl, rfl⟩)) | (go_at_call 83; ((with_reducible refine (q2 _).mono ?_); rintro e w' ⟨rfl, rfl⟩)))
      go_ret
      exact ⟨ret_int HE.out.symm, (by repeat (first | exact Below.refl _ _ | refine below_step ?_ (by assumption) | refine below_step ?_ (Later.below _) | refine below_alloc ?_ _ | refine Below.drew ?_ | refine Below.setCell ?_ (by first | (simp; done) | (simp; omega)) _))⟩
    · rw [show szHydrant m (1048576 - n) = -1 by unfold szHydrant; rw [if_pos (by omega)]] at q2
      have HE := hide (show szNet n m = -1 by unfold szNet; rw [if_neg h2])
      unfold maxLen at hn hm
      go_enter Tryd.func32, Tryd.ntmps32
      go_wp2_with (first | (go_at_call 82; ((with_reducible refine (q _).mono ?_); rintro e w' ⟨rfl, rfl⟩)) | (go_at_call 83; ((with_reducible refine (q2 _).mono ?_); rintro e w' ⟨rfl, rfl⟩)))
      go_ret
      exact ⟨ret_int HE.out.symm, (by repeat (first | exact Below.refl _ _ | refine below_step ?_ (by assumption) | refine below_step ?_ (Later.below _) | refine below_alloc ?_ _ | refine Below.drew ?_ | refine Below.setCell ?_ (by first | (simp; done) | (simp; omega)) _))⟩
  · rw [show szMain n 1048576 = -1 by unfold szMain; rw [if_pos (by omega)]] at q
    have HE := hide (show szNet n m = -1 by unfold szNet; rw [if_neg (by omega)])
    unfold maxLen at hn hm
    go_enter Tryd.func32, Tryd.ntmps32
    go_wp2_with (go_at_call 82; ((with_reducible refine (q _).mono ?_); rintro e w' ⟨rfl, rfl⟩))
    go_ret
    exact ⟨ret_int HE.out.symm, (by repeat (first | exact Below.refl _ _ | refine below_step ?_ (by assumption) | refine below_step ?_ (Later.below _) | refine below_alloc ?_ _ | refine Below.drew ?_ | refine Below.setCell ?_ (by first | (simp; done) | (simp; omega)) _))⟩
theorem szNet_pos {n m : Nat} (h : n + m ≤ 1048576) : szNet n m = 1048576 - n - m := by unfold szNet; rw [if_pos h]
theorem szNet_neg {n m : Nat} (h : 1048576 < n + m) : szNet n m = -1 := by unfold szNet; rw [if_neg (by omega)]

set_option maxHeartbeats 1000000 in
theorem eqNet_same (A B A' B' : Option Addr) (n c c' m d d' : Nat) (M H : List (Int × Int)) (w : World) (hn : n = M.length) (hm : m = H.length) (hs : n + m ≤ 1048576) (hr : NetRd w A B M H) (hr' : NetRd w A' B' M H) :
    Calls Tryd.prog 36 #[.agg #[.slice A n c, .slice B m d], .agg #[.slice A' n c', .slice B' m d']] w fun e w' => e = .returned (.bool true) ∧ Below w.heap.size w w' := by
  have Hr := hide hr
  have Hs := hide hr'
  have Hn := hide hn
  have Hm := hide hm
  clear hn hm hr hr'
  go_enter Tryd.func36, Tryd.ntmps36
  go_wp2_with fail
  refine (eqMainS_same A A' n c c' M _ Hn.out (by omega) (Hr.out.1.below (by repeat (first | exact Below.refl _ _ | refine below_step ?_ (by assumption) | refine below_step ?_ (Later.below _) | refine below_alloc ?_ _ | refine Below.drew ?_ | refine Below.setCell ?_ (by first | (simp; done) | (simp; omega)) _))) (Hs.out.1.below (by repeat (first | exact Below.refl _ _ | refine below_step ?_ (by assumption) | refine below_step ?_ (Later.below _) | refine below_alloc ?_ _ | refine Below.drew ?_ | refine Below.setCell ?_ (by first | (simp; done) | (simp; omega)) _)))).mono ?_
  rintro e w1 ⟨rfl, hb1⟩
  obtain ⟨hc1, hf1⟩ := bcell hb1
  have Hr1 := hide (Hr.out.2.below (w' := w1) (by repeat (first | exact Below.refl _ _ | refine below_step ?_ (by assumption) | refine below_step ?_ (Later.below _) | refine below_alloc ?_ _ | refine Below.drew ?_ | refine Below.setCell ?_ (by first | (simp; done) | (simp; omega)) _)))
  have Hs1 := hide (Hs.out.2.below (w' := w1) (by repeat (first | exact Below.refl _ _ | refine below_step ?_ (by assumption) | refine below_step ?_ (Later.below _) | refine below_alloc ?_ _ | refine Below.drew ?_ | refine Below.setCell ?_ (by first | (simp; done) | (simp; omega)) _)))
  have hb1' := hide hb1
  go_wp2_with fail
  refine (eqHydrantS_same B B' m d d' H _ Hm.out (by omega) (Hr1.out.below (by repeat (first | exact Below.refl _ _ | refine below_step ?_ (by assumption) | refine below_step ?_ (Later.below _) | refine below_alloc ?_ _ | refine Below.drew ?_ | refine Below.setCell ?_ (by first | (simp; done) | (simp; omega)) _))) (Hs1.out.below (by repeat (first | exact Below.refl _ _ | refine below_step ?_ (by assumption) | refine below_step ?_ (Later.below _) | refine below_alloc ?_ _ | refine Below.drew ?_ | refine Below.setCell ?_ (by first | (simp; done) | (simp; omega)) _)))).mono ?_
  rintro e w2 ⟨rfl, hb2⟩
  go_wp2
  go_ret
  exact ⟨rfl, (by repeat (first | exact Below.refl _ _ | refine below_step ?_ (by assumption) | refine below_step ?_ (Later.below _) | refine below_alloc ?_ _ | refine Below.drew ?_ | refine Below.setCell ?_ (by first | (simp; done) | (simp; omega)) _))⟩
end Go.Proofs.YtmoelgbbgepckaaDoor

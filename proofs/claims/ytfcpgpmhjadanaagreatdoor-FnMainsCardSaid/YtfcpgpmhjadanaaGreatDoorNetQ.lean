/- Nets with open hydrants: the reference's guard. -/
import Derived.Test.YtfcpgpmhjadanaaGreatDoorNetP
namespace Go.Proofs.YtfcpgpmhjadanaaGreatDoor
open Go.RowKit
set_option linter.unusedVariables false

/-- A valid net, and open hydrants of it. -/
def openB (M H : List (Int × Int)) (F : List Int) : Bool := netB M H && risB 0 ((H.length : Int) - 1) F
theorem openB_no {M H : List (Int × Int)} {F : List Int} (h : netB M H = false) : openB M H F = false := by rw [openB, h]; rfl
theorem openB_eq {M H : List (Int × Int)} {F : List Int} (h : netB M H = true) : openB M H F = risB 0 ((H.length : Int) - 1) F := by rw [openB, h]; rfl

set_option maxHeartbeats 2000000 in
theorem hyOpen_any (A B C : Option Addr) (n c m d k ecap : Nat) (M H : List (Int × Int)) (F : List Int) (w : World) (hn : n = M.length) (hm : m = H.length) (hnm : n ≤ maxLen) (hmm : m ≤ maxLen) (hkF : k = F.length) (hkm : k ≤ maxLen) (hr : NetRd w A B M H) (hf : Rd w C (F.map (Value.int .i64))) :
    Calls Tryz.prog 57 #[.agg #[.slice A n c, .slice B m d], .slice C k ecap] w fun e w' => e = .returned (.bool (openB M H F)) ∧ Below w.heap.size w w' := by
  have hc := cell_new2 w (.slice A n c) (.slice B m d) 27
  have Q := hide (hyGood_any A B n c m d M H (w.alloc (.cells #[.slice A n c, .slice B m d] 27)) hn hm hnm hmm (hr.alloc _))
  have Hm := hide hm
  have HkF := hide hkF
  have Hf := hide hf
  clear hn hm hkF hr hf
  cases hN : netB M H with
  | false =>
    rw [hN] at Q
    have HE := hide (openB_no (F := F) hN)
    clear hN hc
    go_enter Tryz.func57, Tryz.ntmps57
    go_wp2_with (go_at_call 41; ((with_reducible refine (Q.out).mono ?_); rintro e w1 ⟨rfl, hb1⟩); obtain ⟨hc1, hf1⟩ := bcell hb1)
    go_ret
    exact ⟨ret_bool HE.out.symm, (by repeat (first | exact Below.refl _ _ | refine below_step ?_ (by assumption) | refine below_step ?_ (Later.below _) | refine below_alloc ?_ _ | refine Below.drew ?_ | refine Below.setCell ?_ (by first | (simp; done) | (simp; omega)) _))⟩
  | true =>
    have hk := netB_ok hN
    have HE := hide (show openB M H F = risB 0 ((m : Int) - 1) F by rw [openB_eq hN, ← show m = H.length from Hm.out])
    rw [hN] at Q
    have hm10 : m ≤ 10 := by have := hk.h10; have := Hm.out; omega
    have em : IntKind.i64.wrap ((m : Int) - 1) = (m : Int) - 1 := IntWalk.i64_in _ (by omega)
    clear hN hk
    go_enter Tryz.func57, Tryz.ntmps57
    go_wp2_with fail
    refine Q.out.mono ?_
    rintro e w1 ⟨rfl, hq⟩
    have HW1 : Hid (Below w.heap.size w w1) := hide (below_step (below_alloc (Below.refl _ _) _) hq)
    have a1 := cell_on hc.2 hq
    have z0 := World.block_lt_of_cell? w1 _ a1
    clear hq Q hc
    dsimp only at z0
    go_wp2_with (go_at_call 75; ((with_reducible refine (l1Rising_any C k ecap F 0 ((m : Int) - 1) w1 HkF.out hkm (Hf.out.below HW1.out)).mono ?_); rintro e w' ⟨rfl, rfl⟩))
    go_ret
    exact ⟨ret_bool HE.out.symm, HW1.out⟩
end Go.Proofs.YtfcpgpmhjadanaaGreatDoor

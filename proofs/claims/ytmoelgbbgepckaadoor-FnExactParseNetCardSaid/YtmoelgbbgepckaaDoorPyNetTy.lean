/- NetText: both sides. -/
import Derived.Test.YtmoelgbbgepckaaDoorPyNetTi
import Derived.Test.YtmoelgbbgepckaaDoorNetD
namespace Go.Proofs.YtmoelgbbgepckaaDoor
open Go.RowKit
set_option linter.unusedVariables false

def txN (M H : List (Int × Int)) : ByteArray := if netB M H then nxT M H else ByteArray.empty
theorem txN_no {M H : List (Int × Int)} (h : netB M H = false) : txN M H = ⟨#[]⟩ := by rw [txN, h]; rfl
theorem txN_yes {M H : List (Int × Int)} (h : netB M H = true) : txN M H = nxT M H := by rw [txN, if_pos h]
theorem ret_txt {s t : ByteArray} {a b : Bool} (h : s = t) (h2 : a = b) : Ending.returned (.tuple #[.string s, .bool a]) = .returned (.tuple #[.string t, .bool b]) := by rw [h, h2]

set_option maxHeartbeats 2000000 in
theorem specNetText_any (A B : Option Addr) (n c m d : Nat) (M H : List (Int × Int)) (w : World) (hn : n = M.length) (hm : m = H.length) (hnm : n ≤ maxLen) (hmm : m ≤ maxLen) (hr : NetRd w A B M H) :
    Calls Tryd.prog 33 #[.agg #[.slice A n c, .slice B m d]] w fun e w' => e = .returned (.tuple #[.string (txN M H), .bool (netB M H)]) ∧ Below w.heap.size w w' := by
  have Q := hide (hyGood_any A B n c m d M H (w.alloc (.cells #[.slice A n c, .slice B m d] 57)) hn hm hnm hmm (hr.alloc _))
  have Hn := hide hn
  have Hm := hide hm
  have Hr := hide hr
  clear hn hm hnm hmm hr
  cases ht : netB M H with
  | false =>
    rw [ht] at Q
    have HG := hide (txN_no ht)
    clear ht
    go_enter Tryd.func33, Tryd.ntmps33
    go_wp2_with fail
    refine Q.out.mono ?_
    rintro e w1 ⟨rfl, hq⟩
    go_wp2
    go_ret2
    exact ⟨ret_txt HG.out.symm rfl, below_step (below_alloc (Below.refl _ _) _) hq⟩
  | true =>
    rw [ht] at Q
    have HG := hide (txN_yes ht)
    have HK := hide (netB_ok ht)
    clear ht
    go_enter Tryd.func33, Tryd.ntmps33
    go_wp2_with fail
    refine Q.out.mono ?_
    rintro e w1 ⟨rfl, hq⟩
    obtain ⟨a0, a1⟩ := cell_new2 w (.slice A n c) (.slice B m d) 57
    have a0 := cell_on a0 hq
    have a1 := cell_on a1 hq
    have HW1 : Hid (Below w.heap.size w w1) := hide (below_step (below_alloc (Below.refl _ _) _) hq)
    have z0 := World.block_lt_of_cell? w1 _ a0
    dsimp only at z0
    clear hq Q
    go_wp2_with fail
    refine (hyText_any n c m d A B M H _ Hn.out Hm.out HK.out (Hr.out.below HW1.out)).mono ?_
    rintro e w2 ⟨rfl, hq⟩
    have HW2 := hide (below_step HW1.out hq)
    clear hq a0 a1 z0
    go_wp2
    go_ret2
    exact ⟨ret_txt HG.out.symm rfl, HW2.out⟩

set_option maxHeartbeats 2000000 in
theorem implNetText_any (A B : Option Addr) (n c m d : Nat) (M H : List (Int × Int)) (w : World) (hn : n = M.length) (hm : m = H.length) (hnm : n ≤ maxLen) (hmm : m ≤ maxLen) (ht : Tab w) (hr : NetRd w A B M H) :
    Calls Tryd.prog 35 #[.agg #[.slice A n c, .slice B m d]] w fun e w' => e = .returned (.tuple #[.string (txN M H), .bool (netB M H)]) ∧ Below w.heap.size w w' := by
  have Q := hide (implisNet_any w.heap.size A B n c m d M H (w.alloc (.cells #[.slice A n c, .slice B m d] 57)) hn hm hnm hmm (hr.alloc _) ((Row.new _ _ _).2.1 0 _ rfl) ((Row.new _ _ _).2.1 1 _ rfl))
  have Hn := hide hn
  have Hm := hide hm
  have Hr := hide hr
  have HT := hide ht
  clear hn hm hnm hmm hr ht
  cases ht : netB M H with
  | false =>
    rw [ht] at Q
    have HG := hide (txN_no ht)
    clear ht
    go_enter Tryd.func35, Tryd.ntmps35
    go_wp2_with fail
    refine Q.out.mono ?_
    rintro e w1 ⟨rfl, hq⟩
    go_wp2
    go_ret2
    exact ⟨ret_txt HG.out.symm rfl, below_step (below_alloc (Below.refl _ _) _) hq⟩
  | true =>
    rw [ht] at Q
    have HG := hide (txN_yes ht)
    have HK := hide (netB_ok ht)
    clear ht
    go_enter Tryd.func35, Tryd.ntmps35
    go_wp2_with fail
    refine Q.out.mono ?_
    rintro e w1 ⟨rfl, hq⟩
    obtain ⟨a0, a1⟩ := cell_new2 w (.slice A n c) (.slice B m d) 57
    have A0 := hide (cell_on a0 hq)
    have A1 := hide (cell_on a1 hq)
    have HW1 : Hid (Below w.heap.size w w1) := hide (below_step (below_alloc (Below.refl _ _) _) hq)
    have z0 := World.block_lt_of_cell? w1 _ A0.out
    dsimp only at z0
    clear hq Q a0 a1
    go_wp2_with fail
    refine (netText_any w.heap.size n c m d A B M H _ Hn.out Hm.out HK.out (Hr.out.below HW1.out) A0.out A1.out (tab_below HT.out HW1.out)).mono ?_
    rintro e w2 ⟨rfl, hq⟩
    have HW2 := hide (below_step HW1.out hq)
    clear hq z0
    go_wp2
    go_ret2
    exact ⟨ret_txt HG.out.symm rfl, HW2.out⟩
end Go.Proofs.YtmoelgbbgepckaaDoor

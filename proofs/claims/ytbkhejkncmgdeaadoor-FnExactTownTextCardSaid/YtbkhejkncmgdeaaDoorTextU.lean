/- TownText: both sides. -/
import Derived.Test.YtbkhejkncmgdeaaDoorTextT
namespace Go.Proofs.YtbkhejkncmgdeaaDoor
open Go.RowKit
set_option linter.unusedVariables false

def txV (nd : Int) (l : List StT) : ByteArray := if townB nd l then ttN nd.toNat l l.length else ByteArray.empty
theorem txV_no {nd : Int} {l : List StT} (h : townB nd l = false) : txV nd l = ⟨#[]⟩ := by rw [txV, h]; rfl
theorem txV_yes {k : Nat} {l : List StT} (h : townB k l = true) : txV k l = ttN k l l.length := by rw [txV, if_pos h, Int.toNat_natCast]
theorem ret_txt {s t : ByteArray} {a b : Bool} (h : s = t) (h2 : a = b) : Ending.returned (.tuple #[.string s, .bool a]) = .returned (.tuple #[.string t, .bool b]) := by rw [h, h2]

set_option maxHeartbeats 2000000 in
theorem specTownText_any (nd : Int) (A : Option Addr) (n c : Nat) (l : List StT) (w : World) (hn : n = l.length) (hm : n ≤ maxLen) (hr : Rd w A (l.flatMap tcells)) :
    Calls Tryd.prog 6 #[.agg #[.int .i64 nd, .slice A n c]] w fun e w' => e = .returned (.tuple #[.string (txV nd l), .bool (townB nd l)]) ∧ Below w.heap.size w w' := by
  have Q := hide (toGood_any nd A n c l (w.alloc (.cells #[.int .i64 nd, .slice A n c] 30)) hn hm (hr.alloc _))
  have Hn := hide hn
  have Hr := hide hr
  clear hn hm hr
  cases ht : townB nd l with
  | false =>
    rw [ht] at Q
    have HG := hide (txV_no ht)
    clear ht
    go_enter Tryd.func6, Tryd.ntmps6
    go_wp2_with fail
    refine Q.out.mono ?_
    rintro e w1 ⟨rfl, hq⟩
    go_wp2
    go_ret2
    exact ⟨ret_txt HG.out.symm rfl, below_step (below_alloc (Below.refl _ _) _) hq⟩
  | true =>
    rw [ht] at Q
    obtain ⟨k, rfl, hk⟩ := townB_ok ht
    have HG := hide ((txV_yes ht).trans (by rw [← Hn.out]))
    have HK := hide hk
    clear ht hk
    go_enter Tryd.func6, Tryd.ntmps6
    go_wp2_with fail
    refine Q.out.mono ?_
    rintro e w1 ⟨rfl, hq⟩
    obtain ⟨a0, a1⟩ := cell_new2 w (.int .i64 k) (.slice A n c) 30
    have a0 := cell_on a0 hq
    have a1 := cell_on a1 hq
    have HW1 : Hid (Below w.heap.size w w1) := hide (below_step (below_alloc (Below.refl _ _) _) hq)
    have z0 := World.block_lt_of_cell? w1 _ a0
    dsimp only at z0
    clear hq Q
    go_wp2_with fail
    refine (toText_any k n c A l _ Hn.out HK.out (Hr.out.below HW1.out)).mono ?_
    rintro e w2 ⟨rfl, hq⟩
    have HW2 := hide (below_step HW1.out hq)
    clear hq a0 a1 z0
    go_wp2
    go_ret2
    exact ⟨ret_txt HG.out.symm rfl, HW2.out⟩

set_option maxHeartbeats 2000000 in
theorem implTownText_any (nd : Int) (A : Option Addr) (n c : Nat) (l : List StT) (w : World) (hn : n = l.length) (hm : n ≤ maxLen) (ht : Tab w) (hr : Rd w A (l.flatMap tcells)) :
    Calls Tryd.prog 8 #[.agg #[.int .i64 nd, .slice A n c]] w fun e w' => e = .returned (.tuple #[.string (txV nd l), .bool (townB nd l)]) ∧ Below w.heap.size w w' := by
  have Q := hide (implisTown_any w.heap.size nd A n c l (w.alloc (.cells #[.int .i64 nd, .slice A n c] 30)) hn hm (hr.alloc _) (by simp) ((Row.new _ _ _).2.1 0 _ rfl) ((Row.new _ _ _).2.1 1 _ rfl))
  have Hn := hide hn
  have Hr := hide hr
  have HT := hide ht
  clear hn hm hr ht
  cases ht : townB nd l with
  | false =>
    rw [ht] at Q
    have HG := hide (txV_no ht)
    clear ht
    go_enter Tryd.func8, Tryd.ntmps8
    go_wp2_with fail
    refine Q.out.mono ?_
    rintro e w1 ⟨rfl, hq⟩
    go_wp2
    go_ret2
    exact ⟨ret_txt HG.out.symm rfl, below_step (below_alloc (Below.refl _ _) _) hq⟩
  | true =>
    rw [ht] at Q
    obtain ⟨k, rfl, hk⟩ := townB_ok ht
    have HG := hide ((txV_yes ht).trans (by rw [← Hn.out]))
    have HK := hide hk
    clear ht hk
    go_enter Tryd.func8, Tryd.ntmps8
    go_wp2_with fail
    refine Q.out.mono ?_
    rintro e w1 ⟨rfl, hq⟩
    obtain ⟨a0, a1⟩ := cell_new2 w (.int .i64 k) (.slice A n c) 30
    have A0 := hide (cell_on a0 hq)
    have A1 := hide (cell_on a1 hq)
    have HW1 : Hid (Below w.heap.size w w1) := hide (below_step (below_alloc (Below.refl _ _) _) hq)
    have z0 := World.block_lt_of_cell? w1 _ A0.out
    dsimp only at z0
    clear hq Q a0 a1
    go_wp2_with fail
    refine (text_any w.heap.size k n c A l _ Hn.out HK.out (Hr.out.below HW1.out) A0.out A1.out (tab_below HT.out HW1.out)).mono ?_
    rintro e w2 ⟨rfl, hq⟩
    have HW2 := hide (below_step HW1.out hq)
    clear hq z0
    go_wp2
    go_ret2
    exact ⟨ret_txt HG.out.symm rfl, HW2.out⟩
end Go.Proofs.YtbkhejkncmgdeaaDoor

/- TimesFrom. -/
import Derived.Test.YtbkhejkncmgdeaaTownV
namespace Go.Proofs.Ytbkhejkncmgdeaa
open Go.RowKit
set_option linter.unusedVariables false

def timesL (nd : Int) (l : List (Int × Int × Int)) (i : Int) : List Int := if goodB nd l i then (List.range nd.toNat).map (timesF nd.toNat l i.toNat) else []
theorem timesL_length (nd : Int) (l : List (Int × Int × Int)) (i : Int) : (timesL nd l i).length ≤ 14 := by
  unfold timesL
  split
  · rename_i h
    obtain ⟨k, x, rfl, rfl, hx, hk⟩ := goodB_ok h
    have := hk.hi
    simpa using this
  · simp
theorem OwnD.ints {w : World} {B g nd : Nat} {d : Nat → Int} (h : OwnD w B g nd d) {L : List Int} (hL : L = (List.range nd).map d) : w.ownsRow B 3 1 (.slice (some ⟨g, 0, none⟩) nd nd) L.length (L.map (Value.int .i64)) := by
  subst hL
  have := h
  unfold OwnD at this
  simpa [rowOf, Function.comp_def] using this
theorem nil_ints (w : World) (B : Nat) {L : List Int} (hL : L = []) : w.ownsRow B 3 1 (.slice none 0 0) L.length (L.map (Value.int .i64)) := by
  subst hL
  exact World.ownsRow_nil _ _ _ _

theorem ret_slb {v : Value} {a b : Bool} (h : a = b) : Ending.returned (.tuple #[v, .bool a]) = .returned (.tuple #[v, .bool b]) := by rw [h]

def specTimesPost (nd i : Int) (l : List (Int × Int × Int)) (w : World) (e : Ending) (w' : World) : Prop :=
  (∃ v, e = .returned (.tuple #[v, .bool (goodB nd l i)]) ∧ w'.ownsRow w.heap.size 3 1 v (timesL nd l i).length ((timesL nd l i).map (Value.int .i64))) ∧ Below w.heap.size w w'
def implTimesPost (nd i : Int) (l : List (Int × Int × Int)) (w : World) (e : Ending) (w' : World) : Prop :=
  (∃ v, e = .returned (.tuple #[v, .bool (goodB nd l i)]) ∧ w'.ownsRow w.heap.size 3 1 v (timesL nd l i).length ((timesL nd l i).map (Value.int .i64))) ∧ Below w.heap.size w w'

set_option maxHeartbeats 1000000 in
theorem specTimesFrom_any (nd i : Int) (A : Option Addr) (n c : Nat) (l : List (Int × Int × Int)) (w : World) (hn : n = l.length) (hm : n ≤ maxLen) (hr : Rd w A (l.flatMap tcells)) :
    Calls Try.prog 20 #[.agg #[.int .i64 nd, .slice A n c], .int .i64 i] w (specTimesPost nd i l w) := by
  have q := toNode_any nd i A n c l (w.alloc (.cells #[.int .i64 nd, .slice A n c] 30)) hn hm (hr.alloc _)
  have Q := hide q
  have Hn := hide hn
  have Hr := hide hr
  clear q hn hm hr
  cases ht : goodB nd l i with
  | false =>
    rw [ht] at Q
    have HG := hide ht
    have HL : Hid (timesL nd l i = []) := hide (by rw [timesL, ht]; rfl)
    clear ht
    go_enter Try.func20, Try.ntmps20
    go_wp2_with (go_at_call 50; ((with_reducible refine (Q.out).mono ?_); rintro e w1 ⟨rfl, hb1⟩); obtain ⟨hc1, hf1⟩ := bcell hb1)
    go_ret2
    exact ⟨⟨.slice none 0 0, ret_slb HG.out.symm, nil_ints _ _ HL.out⟩, (by repeat (first | exact Below.refl _ _ | refine below_step ?_ (by assumption) | refine below_step ?_ (Later.below _) | refine below_alloc ?_ _ | refine Below.drew ?_ | refine Below.setCell ?_ (by first | (simp; done) | (simp; omega)) _))⟩
  | true =>
    rw [ht] at Q
    have HG := hide ht
    have HL : Hid (timesL nd l i = (List.range nd.toNat).map (timesF nd.toNat l i.toNat)) := hide (by rw [timesL, ht]; rfl)
    obtain ⟨k, x, rfl, rfl, hx, hk⟩ := goodB_ok ht
    have h1 := hk.lo
    have h2 := hk.hi
    have HK := hide hk
    clear ht hk
    go_enter Try.func20, Try.ntmps20
    go_wp2_with fail
    refine Q.out.mono ?_
    rintro e w1 ⟨rfl, hq⟩
    obtain ⟨a0, a1⟩ := cell_new2 w (.int .i64 k) (.slice A n c) 30
    have a0 := cell_on a0 hq
    have a1 := cell_on a1 hq
    have HW1 : Hid (Below w.heap.size w w1) := hide (below_step (by repeat (first | exact Below.refl _ _ | refine below_step ?_ (by assumption) | refine below_step ?_ (Later.below _) | refine below_alloc ?_ _ | refine Below.drew ?_ | refine Below.setCell ?_ (by first | (simp; done) | (simp; omega)) _)) hq)
    clear hq Q
    go_wp2_with fail
    refine (toTimes_any k n c x A l _ Hn.out (by have := Hn.out; have := HK.out.len; omega) h2 hx HK.out.fits (Hr.out.below HW1.out)).mono ?_
    rintro e w2 ⟨rfl, ho, hq⟩
    have HO := hide ho
    have HW2 : Hid (Below w.heap.size w w2) := hide (below_step HW1.out hq)
    clear hq ho a0 a1
    go_wp2
    go_ret2
    exact ⟨⟨.slice (some ⟨w1.heap.size + 1, 0, none⟩) k k, ret_slb HG.out.symm, own_le (HO.out.ints HL.out) HW1.out.size⟩, HW2.out⟩

set_option maxHeartbeats 1000000 in
theorem implTimesFrom_any (nd i : Int) (A : Option Addr) (n c : Nat) (l : List (Int × Int × Int)) (w : World) (hn : n = l.length) (hm : n ≤ maxLen) (hr : Rd w A (l.flatMap tcells)) :
    Calls Try.prog 19 #[.agg #[.int .i64 nd, .slice A n c], .int .i64 i] w (implTimesPost nd i l w) := by
  have q := implisTown_any w.heap.size nd A n c l (w.alloc (.cells #[.int .i64 nd, .slice A n c] 30)) hn hm (hr.alloc _) (by simp) ((Row.new _ _ _).2.1 0 _ rfl) ((Row.new _ _ _).2.1 1 _ rfl)
  have Q := hide q
  have Hn := hide hn
  have Hr := hide hr
  clear q hn hm hr
  cases ht : townB nd l with
  | false =>
    rw [ht] at Q
    have HG : Hid (goodB nd l i = false) := hide (by rw [goodB, ht]; rfl)
    have HL : Hid (timesL nd l i = []) := hide (by rw [timesL, HG.out]; rfl)
    clear ht
    go_enter Try.func19, Try.ntmps19
    go_wp2_with (go_at_call 33; ((with_reducible refine (Q.out).mono ?_); rintro e w1 ⟨rfl, hb1⟩); obtain ⟨hc1, hf1⟩ := bcell hb1)
    go_ret2
    exact ⟨⟨.slice none 0 0, ret_slb HG.out.symm, nil_ints _ _ HL.out⟩, (by repeat (first | exact Below.refl _ _ | refine below_step ?_ (by assumption) | refine below_step ?_ (Later.below _) | refine below_alloc ?_ _ | refine Below.drew ?_ | refine Below.setCell ?_ (by first | (simp; done) | (simp; omega)) _))⟩
  | true =>
    rw [ht] at Q
    have HT := hide ht
    obtain ⟨k, rfl, hk⟩ := townB_ok ht
    have h1 := hk.lo
    have h2 := hk.hi
    have HK := hide hk
    clear ht hk
    go_enter Try.func19, Try.ntmps19
    go_wp2_with fail
    refine Q.out.mono ?_
    rintro e w1 ⟨rfl, hq⟩
    obtain ⟨a0, a1⟩ := cell_new2 w (.int .i64 k) (.slice A n c) 30
    have a0 := cell_on a0 hq
    have a1 := cell_on a1 hq
    have HW1 : Hid (Below w.heap.size w w1) := hide (below_step (by repeat (first | exact Below.refl _ _ | refine below_step ?_ (by assumption) | refine below_step ?_ (Later.below _) | refine below_alloc ?_ _ | refine Below.drew ?_ | refine Below.setCell ?_ (by first | (simp; done) | (simp; omega)) _)) hq)
    have z0 := World.block_lt_of_cell? w1 _ a0
    dsimp only at z0
    have q1 := has_any w.heap.size (k : Int) i w1 (by omega) (by omega) z0 a0
    clear hq Q z0
    cases hi : nodeB k i with
    | false =>
      have HG : Hid (goodB k l i = false) := hide (by rw [goodB, hi, Bool.and_false])
      have HL : Hid (timesL k l i = []) := hide (by rw [timesL, HG.out]; rfl)
      rw [hi] at q1
      clear hi
      go_wp2_with (go_at_call 44; ((with_reducible refine (q1).mono ?_); rintro e w' ⟨rfl, rfl⟩))
      go_ret2
      exact ⟨⟨.slice none 0 0, ret_slb HG.out.symm, nil_ints _ _ HL.out⟩, HW1.out⟩
    | true =>
      have HG : Hid (goodB k l i = true) := hide (by rw [goodB, hi, HT.out]; rfl)
      have HL : Hid (timesL k l i = (List.range k).map (timesF k l i.toNat)) := hide (by rw [timesL, HG.out]; rfl)
      rw [hi] at q1
      obtain ⟨x, rfl, hx⟩ := nodeB_ok hi
      clear hi
      go_wp2_with (go_at_call 44; ((with_reducible refine (q1).mono ?_); rintro e w' ⟨rfl, rfl⟩))
      refine (times_any w.heap.size k n c x A l _ Hn.out (by have := Hn.out; have := HK.out.len; omega) h2 hx HK.out.fits (Hr.out.below HW1.out) a0 a1).mono ?_
      rintro e w2 ⟨rfl, ho, hq⟩
      have HO := hide ho
      have HW2 : Hid (Below w.heap.size w w2) := hide (below_step HW1.out hq)
      clear hq ho a0 a1 q1
      go_wp2
      go_ret2
      exact ⟨⟨.slice (some ⟨w1.heap.size + 1, 0, none⟩) k k, ret_slb HG.out.symm, own_le (HO.out.ints HL.out) HW1.out.size⟩, HW2.out⟩
end Go.Proofs.Ytbkhejkncmgdeaa

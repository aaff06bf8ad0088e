/- A net handed back, or none. -/
import Derived.Test.YtmoelgbbgepckaaDoorPyPnR
import Derived.Test.YtmoelgbbgepckaaDoorPyNetTy
import Derived.Test.YtmoelgbbgepckaaDoorPyNetJ
namespace Go.Proofs.YtmoelgbbgepckaaDoor
open Go.RowKit
set_option linter.unusedVariables false

def outM (o : Option (List (Int × Int) × List (Int × Int))) : List (Int × Int) := match o with
  | some x => x.1
  | none => []
def outY (o : Option (List (Int × Int) × List (Int × Int))) : List (Int × Int) := match o with
  | some x => x.2
  | none => []
def OwnP (w : World) (B : Nat) (M H : List (Int × Int)) (v v' : Value) : Prop := w.ownsRow B 120 2 v M.length (M.flatMap mcells) ∧ w.ownsRow B 118 2 v' H.length (H.flatMap mcells)
def NetOut (o : Option (List (Int × Int) × List (Int × Int))) (w : World) (e : Ending) (w' : World) : Prop :=
  (∃ v v', e = .returned (.tuple #[.agg #[v, v'], .bool o.isSome]) ∧ OwnP w' w.heap.size (outM o) (outY o) v v') ∧ Below w.heap.size w w'
theorem NetOut.no {o : Option (List (Int × Int) × List (Int × Int))} {w w' : World} (h : o = none) (hb : Below w.heap.size w w') : NetOut o w (.returned (.tuple #[.agg #[.slice none 0 0, .slice none 0 0], .bool false])) w' := by
  subst h
  exact ⟨⟨_, _, rfl, World.ownsRow_nil _ _ _ _, World.ownsRow_nil _ _ _ _⟩, hb⟩
theorem NetOut.yes {o : Option (List (Int × Int) × List (Int × Int))} {M H : List (Int × Int)} {w w' : World} {v v' : Value} (h : o = some (M, H)) (hv : w'.ownsRow w.heap.size 120 2 v M.length (M.flatMap mcells)) (hv' : w'.ownsRow w.heap.size 118 2 v' H.length (H.flatMap mcells)) (hb : Below w.heap.size w w') : NetOut o w (.returned (.tuple #[.agg #[v, v'], .bool true])) w' := by
  subst h
  exact ⟨⟨_, _, rfl, hv, hv'⟩, hb⟩
theorem infoMainP : (Tryd.prog.info? 120).map (fun i => (i.zero, i.size, i.bytes)) = some (some (.agg #[.int .i64 0, .int .i64 0]), 2, 16) := by kernel_rfl
theorem infoHydP : (Tryd.prog.info? 118).map (fun i => (i.zero, i.size, i.bytes)) = some (some (.agg #[.int .i64 0, .int .i64 0]), 2, 16) := by kernel_rfl
theorem texts_ne {a b : ByteArray} (h : a ≠ b) : (a.toList == b.toList) = false := by rw [texts_eq, decide_eq_false h]
theorem cut_size (s : ByteArray) (b : UInt8) : (cutA s b).size ≤ s.size ∧ (cutB s b).size ≤ s.size := by
  have ha : (cutA s b).size = (Lib.cut s.data.toList [b]).1.length := rfl
  have hb : (cutB s b).size = (Lib.cut s.data.toList [b]).2.1.length := rfl
  have hs : s.size = s.data.toList.length := rfl
  rw [ha, hb, hs]
  rcases cut_cases b s.data.toList with h | ⟨p, r, e, hp⟩
  · rw [cut_no h]; simp
  · have hc := cut_byte (r := r) hp
    rw [← e] at hc
    rw [hc, e]
    simp only [List.length_append, List.length_cons]
    omega
theorem pnI_bad1 {s v : ByteArray} (hv : v ∈ wordsF (cutA s 124)) (h : wokI 47 v = false) : pnI s = none := by
  unfold pnI
  rw [if_neg]
  intro hc
  simp only [Bool.and_eq_true, List.all_eq_true] at hc
  rw [hc.1.1.1 v hv] at h
  cases h
theorem pnI_bad2 {s v : ByteArray} (hv : v ∈ wordsF (cutB s 124)) (h : wokI 58 v = false) : pnI s = none := by
  unfold pnI
  rw [if_neg]
  intro hc
  simp only [Bool.and_eq_true, List.all_eq_true] at hc
  rw [hc.1.1.2 v hv] at h
  cases h
theorem pnI_good {s : ByteArray} (h1 : (wordsF (cutA s 124)).all (wokI 47) = true) (h2 : (wordsF (cutB s 124)).all (wokI 58) = true) : pnI s = if netB ((wordsF (cutA s 124)).map (wvI 47)) ((wordsF (cutB s 124)).map (wvI 58)) && decide (nxT ((wordsF (cutA s 124)).map (wvI 47)) ((wordsF (cutB s 124)).map (wvI 58)) = s) then some ((wordsF (cutA s 124)).map (wvI 47), (wordsF (cutB s 124)).map (wvI 58)) else none := by
  rw [pnI, h1, h2, Bool.true_and, Bool.true_and]
theorem outN_le (s : ByteArray) : (outM (pnS s)).length + (outY (pnS s)).length ≤ 1048576 := by
  cases h : pnS s with
  | none => simp [outM, outY]
  | some x =>
    have hk := netB_ok (pnS_some (M := x.1) (H := x.2) h).1
    have := hk.m10
    have := hk.h10
    show x.1.length + x.2.length ≤ 1048576
    omega
end Go.Proofs.YtmoelgbbgepckaaDoor

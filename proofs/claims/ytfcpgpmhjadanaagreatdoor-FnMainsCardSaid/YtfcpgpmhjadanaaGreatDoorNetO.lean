/- Rows of numbers of the call's own. -/
import Derived.Test.YtfcpgpmhjadanaaGreatDoorNetL
import Derived.Test.YtfcpgpmhjadanaaGreatDoorNetD
import Derived.Test.YtfcpgpmhjadanaaGreatDoorIntS
import Derived.Outline
namespace Go.Proofs.YtfcpgpmhjadanaaGreatDoor
open Go.RowKit
set_option linter.unusedVariables false

def rowOf (nd : Nat) (d : Nat → Int) : List Value := (List.range nd).map fun i => Value.int .i64 (d i)
section
variable {nd : Nat} {d d' : Nat → Int}
theorem rowOf_length : (rowOf nd d).length = nd := by simp [rowOf]
theorem rowOf_get {i : Nat} (h : i < nd) : (rowOf nd d)[i]? = some (.int .i64 (d i)) := by simp [rowOf, h]
theorem rowOf_congr (h : ∀ i, i < nd → d i = d' i) : rowOf nd d = rowOf nd d' := by
  unfold rowOf
  refine List.map_congr_left fun i hi => ?_
  rw [h i (by simpa using hi)]
theorem rowOf_set {i : Nat} (h : i < nd) (x : Int) : (rowOf nd d).set i (.int .i64 x) = rowOf nd (upd d i x) := by
  refine List.ext_getElem? fun j => ?_
  rw [List.getElem?_set]
  by_cases hj : j < nd
  · by_cases hij : i = j
    · subst hij; rw [rowOf_get h, if_pos rfl, if_pos (by rw [rowOf_length]; exact h)]; have : upd d i x i = x := by unfold upd; rw [if_pos rfl]
      rw [rowOf_get h, this]
    · rw [if_neg hij, rowOf_get hj, rowOf_get hj]; simp [upd, show ¬ j = i from fun e => hij e.symm]
  · have e1 : (rowOf nd d)[j]? = none := List.getElem?_eq_none (by rw [rowOf_length]; omega)
    have e2 : (rowOf nd (upd d i x))[j]? = none := List.getElem?_eq_none (by rw [rowOf_length]; omega)
    rw [e1, e2, if_neg (by omega)]
end

/-- A row of numbers of the call's own. -/
def OwnD (w : World) (B g nd : Nat) (d : Nat → Int) : Prop := w.ownsRow B 3 1 (.slice (some ⟨g, 0, none⟩) nd nd) nd (rowOf nd d)
section
variable {w w' : World} {B g nd : Nat} {d d' : Nat → Int}
theorem OwnD.cell (h : OwnD w B g nd d) {i : Nat} (hi : i < nd) : w.cell? ⟨g, i, none⟩ = some (.int .i64 (d i)) := by
  rw [World.ownsRow.cellAt h i (by omega), rowOf_get hi]
theorem OwnD.free (h : OwnD w B g nd d) (i : Nat) : w.frozen? ⟨g, i, none⟩ = false := World.ownsRow.frozenAt h i
theorem OwnD.set (h : OwnD w B g nd d) {i : Nat} (hi : i < nd) (x : Int) : OwnD (w.setCell ⟨g, i, none⟩ (.int .i64 x)) B g nd (upd d i x) := by
  have := (World.ownsRow.stored h i (.int .i64 x)).1
  rw [rowOf_set hi] at this
  exact this
theorem OwnD.below (h : OwnD w B g nd d) (hb : Below w.heap.size w w') : OwnD w' B g nd d := own_below h hb
theorem OwnD.alloc (h : OwnD w B g nd d) (o : Obj) : OwnD (w.alloc o) B g nd d := World.ownsRow.alloc h o
theorem OwnD.drew (h : OwnD w B g nd d) : OwnD w.drew B g nd d := h
theorem OwnD.congr (h : OwnD w B g nd d) (e : ∀ i, i < nd → d i = d' i) : OwnD w B g nd d' := by
  unfold OwnD at *
  rw [← rowOf_congr e]
  exact h
theorem OwnD.lt (h : OwnD w B g nd d) : B ≤ g ∧ g < w.heap.size := World.ownsRow.lt h g rfl
theorem OwnD.new (w : World) (B nd : Nat) (hB : B ≤ w.heap.size) (hn : nd ≤ maxLen) (c : Array Value) (hc : c.toList = rowOf nd d) : OwnD (w.alloc (.cells c 3)) B w.heap.size nd d := by
  have := World.ownsRow_lit (e := 3) (size := 1) w c nd hB hn (by rw [← Array.length_toList, hc, rowOf_length, Nat.mul_one])
  rw [hc] at this
  exact this
end


theorem made_zero (nd : Nat) : (madeCells #[Value.int .i64 0] nd).toList = rowOf nd (fun _ => 0) := by
  rw [toList_madeCells_one]
  refine List.ext_getElem? fun j => ?_
  by_cases hj : j < nd
  · rw [rowOf_get hj]; simp [hj]
  · rw [List.getElem?_eq_none (by simp; omega), List.getElem?_eq_none (by rw [rowOf_length]; omega)]

theorem infoIntT : (Tryz.prog.info? 3).map (fun i => (i.zero, i.size, i.bytes)) = some (some (.int .i64 0), 1, 8) := by kernel_rfl

end Go.Proofs.YtfcpgpmhjadanaaGreatDoor

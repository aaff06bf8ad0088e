/- Travel times: what the reference's loops hand back. -/
import Derived.Test.YtnbiknaihogknaaDoorTownQ
import Derived.Test.YtnbiknaihogknaaDoorOwn
import Derived.Test.YtnbiknaihogknaaDoorConvStreet
import Derived.Outline
namespace Go.Proofs.YtnbiknaihogknaaDoor
open Go.RowKit
set_option linter.unusedVariables false

def rowOf (nd : Nat) (d : Nat → Int) : List Value := (List.range nd).map fun i => Value.int .i64 (d i)
section
variable {nd : Nat} {d d' : Nat → Int}
theorem rowOf_length : (rowOf nd d).length = nd := by simp [rowOf]
theorem rowOf_get {i : Nat} (h : i < nd) : (rowOf nd d)[i]? = some (.int .i64 (d i)) := by simp [rowOf, h]
theorem rowOf_congr (h : ∀ i, i < nd → d i = d' i) : rowOf nd d = rowOf nd d' := by
  unfold rowOf
  refine List.map_congr_left fun i hi => ?_
  rw [h i (by simpa using hi)]
theorem rowOf_set {i : Nat} (h : i < nd) (x : Int) : (rowOf nd d).set i (.int .i64 x) = rowOf nd (upd d i x) := by
  refine List.ext_getElem? fun j => ?_
  rw [List.getElem?_set]
  by_cases hj : j < nd
  · by_cases hij : i = j
    · subst hij; rw [rowOf_get h, if_pos rfl, if_pos (by rw [rowOf_length]; exact h)]; have : upd d i x i = x := by unfold upd; rw [if_pos rfl]
      rw [rowOf_get h, this]
    · rw [if_neg hij, rowOf_get hj, rowOf_get hj]; simp [upd, show ¬ j = i from fun e => hij e.symm]
  · have e1 : (rowOf nd d)[j]? = none := List.getElem?_eq_none (by rw [rowOf_length]; omega)
    have e2 : (rowOf nd (upd d i x))[j]? = none := List.getElem?_eq_none (by rw [rowOf_length]; omega)
    rw [e1, e2, if_neg (by omega)]
end

/-- A row of numbers of the call's own. -/
def OwnD (w : World) (B g nd : Nat) (d : Nat → Int) : Prop := w.ownsRow B 3 1 (.slice (some ⟨g, 0, none⟩) nd nd) nd (rowOf nd d)
section
variable {w w' : World} {B g nd : Nat} {d d' : Nat → Int}
theorem OwnD.cell (h : OwnD w B g nd d) {i : Nat} (hi : i < nd) : w.cell? ⟨g, i, none⟩ = some (.int .i64 (d i)) := by
  rw [World.ownsRow.cellAt h i (by omega), rowOf_get hi]
theorem OwnD.free (h : OwnD w B g nd d) (i : Nat) : w.frozen? ⟨g, i, none⟩ = false := World.ownsRow.frozenAt h i
theorem OwnD.set (h : OwnD w B g nd d) {i : Nat} (hi : i < nd) (x : Int) : OwnD (w.setCell ⟨g, i, none⟩ (.int .i64 x)) B g nd (upd d i x) := by
  have := (World.ownsRow.stored h i (.int .i64 x)).1
  rw [rowOf_set hi] at this
  exact this
theorem OwnD.below (h : OwnD w B g nd d) (hb : Below w.heap.size w w') : OwnD w' B g nd d := own_below h hb
theorem OwnD.alloc (h : OwnD w B g nd d) (o : Obj) : OwnD (w.alloc o) B g nd d := World.ownsRow.alloc h o
theorem OwnD.drew (h : OwnD w B g nd d) : OwnD w.drew B g nd d := h
theorem OwnD.congr (h : OwnD w B g nd d) (e : ∀ i, i < nd → d i = d' i) : OwnD w B g nd d' := by
  unfold OwnD at *
  rw [← rowOf_congr e]
  exact h
theorem OwnD.lt (h : OwnD w B g nd d) : B ≤ g ∧ g < w.heap.size := World.ownsRow.lt h g rfl
theorem OwnD.new (w : World) (B nd : Nat) (hB : B ≤ w.heap.size) (hn : nd ≤ maxLen) (c : Array Value) (hc : c.toList = rowOf nd d) : OwnD (w.alloc (.cells c 3)) B w.heap.size nd d := by
  have := World.ownsRow_lit (e := 3) (size := 1) w c nd hB hn (by rw [← Array.length_toList, hc, rowOf_length, Nat.mul_one])
  rw [hc] at this
  exact this
end

theorem int_at (w : World) (A : Addr) (h : w.cell? A = none) : True := trivial

/-- The town's box and the row of times, in a later world. -/
structure TS (w wr : World) (nd n c : Nat) (A : Option Addr) (d : Nat → Int) : Prop where
  bel : Below w.heap.size w wr
  box : Row wr w.heap.size [.int .i64 (nd : Int), .slice A n c]
  own : OwnD wr w.heap.size (w.heap.size + 1) nd d
section
variable {w wr w' : World} {nd n c : Nat} {A : Option Addr} {d d' : Nat → Int}
theorem TS.set (h : TS w wr nd n c A d) {i : Nat} (hi : i < nd) (x : Int) : TS w (wr.setCell ⟨w.heap.size + 1, i, none⟩ (.int .i64 x)) nd n c A (upd d i x) :=
  ⟨h.bel.setCell (by simp) _, h.box.far (by simp) _, h.own.set hi x⟩
theorem TS.below (h : TS w wr nd n c A d) (hb : Below wr.heap.size wr w') : TS w w' nd n c A d := ⟨below_step h.bel hb, h.box.below hb, h.own.below hb⟩
theorem TS.alloc (h : TS w wr nd n c A d) (o : Obj) : TS w (wr.alloc o) nd n c A d := h.below ((Below.refl _ _).alloc (Nat.le_refl _) _)
theorem TS.drew (h : TS w wr nd n c A d) : TS w wr.drew nd n c A d := ⟨h.bel.drew, h.box.drew, h.own.drew⟩
theorem TS.congr (h : TS w wr nd n c A d) (e : ∀ i, i < nd → d i = d' i) : TS w wr nd n c A d' := ⟨h.bel, h.box, h.own.congr e⟩
end

theorem made_zero (nd : Nat) : (madeCells #[Value.int .i64 0] nd).toList = rowOf nd (fun _ => 0) := by
  rw [toList_madeCells_one]
  refine List.ext_getElem? fun j => ?_
  by_cases hj : j < nd
  · rw [rowOf_get hj]; simp [hj]
  · rw [List.getElem?_eq_none (by simp; omega), List.getElem?_eq_none (by rw [rowOf_length]; omega)]

theorem infoIntT : (Tryd.prog.info? 3).map (fun i => (i.zero, i.size, i.bytes)) = some (some (.int .i64 0), 1, 8) := by kernel_rfl

def fillF (k : Nat) : Nat → Int := fun i => if i < k then -1 else 0

/-- The rows of one street's ways, beside the times. -/
structure WS (wr : World) (p : Nat) (x0 x1 x2 : Int) : Prop where
  st : Row wr p [.int .i64 x0, .int .i64 x1, .int .i64 x2]
  w0 : Row wr (p + 1) [.int .i64 x0, .int .i64 x1]
  w1 : Row wr (p + 1 + 1) [.int .i64 x1, .int .i64 x0]
  ws : Row wr (p + 1 + 1 + 1) [.slice (some ⟨p + 1, 0, none⟩) 2 2, .slice (some ⟨p + 1 + 1, 0, none⟩) 2 2]
theorem WS.far {wr : World} {p : Nat} {x0 x1 x2 : Int} (h : WS wr p x0 x1 x2) {q : Addr} (hq : q.block < p) (u : Value) : WS (wr.setCell q u) p x0 x1 x2 :=
  ⟨h.st.far (by omega) _, h.w0.far (by omega) _, h.w1.far (by omega) _, h.ws.far (by omega) _⟩
theorem WS.drew {wr : World} {p : Nat} {x0 x1 x2 : Int} (h : WS wr p x0 x1 x2) : WS wr.drew p x0 x1 x2 := ⟨h.st.drew, h.w0.drew, h.w1.drew, h.ws.drew⟩
theorem WS.drewN {wr : World} {p : Nat} {x0 x1 x2 : Int} (h : WS wr p x0 x1 x2) (n : Nat) : WS (wr.drewN n) p x0 x1 x2 :=
  ⟨h.st.below (below_drewN (Below.refl _ _) n), h.w0.below (below_drewN (Below.refl _ _) n), h.w1.below (below_drewN (Below.refl _ _) n), h.ws.below (below_drewN (Below.refl _ _) n)⟩
theorem WS.new (wr : World) (x0 x1 x2 : Int) (t0 t1 t2 t3 : TypeId) :
    WS ((((wr.alloc (.cells #[.int .i64 x0, .int .i64 x1, .int .i64 x2] t0)).alloc (.cells #[.int .i64 x0, .int .i64 x1] t1)).alloc (.cells #[.int .i64 x1, .int .i64 x0] t2)).alloc (.cells #[.slice (some ⟨wr.heap.size + 1, 0, none⟩) 2 2, .slice (some ⟨wr.heap.size + 1 + 1, 0, none⟩) 2 2] t3)) wr.heap.size x0 x1 x2 := by
  refine ⟨(((Row.new _ _ _).alloc _).alloc _).alloc _, ?_, ?_, ?_⟩
  · have := ((Row.new (wr.alloc (.cells #[.int .i64 x0, .int .i64 x1, .int .i64 x2] t0)) #[.int .i64 x0, .int .i64 x1] t1).alloc (.cells #[.int .i64 x1, .int .i64 x0] t2)).alloc (.cells #[.slice (some ⟨wr.heap.size + 1, 0, none⟩) 2 2, .slice (some ⟨wr.heap.size + 1 + 1, 0, none⟩) 2 2] t3)
    simpa using this
  · have := (Row.new ((wr.alloc (.cells #[.int .i64 x0, .int .i64 x1, .int .i64 x2] t0)).alloc (.cells #[.int .i64 x0, .int .i64 x1] t1)) #[.int .i64 x1, .int .i64 x0] t2).alloc (.cells #[.slice (some ⟨wr.heap.size + 1, 0, none⟩) 2 2, .slice (some ⟨wr.heap.size + 1 + 1, 0, none⟩) 2 2] t3)
    simpa using this
  · have := Row.new (((wr.alloc (.cells #[.int .i64 x0, .int .i64 x1, .int .i64 x2] t0)).alloc (.cells #[.int .i64 x0, .int .i64 x1] t1)).alloc (.cells #[.int .i64 x1, .int .i64 x0] t2)) #[.slice (some ⟨wr.heap.size + 1, 0, none⟩) 2 2, .slice (some ⟨wr.heap.size + 1 + 1, 0, none⟩) 2 2] t3
    simpa using this
theorem Row.at {w : World} {g : Nat} {xs : List Value} (h : Row w g xs) (j : Nat) {u : Value} (hu : xs[j]? = some u) : w.cell? ⟨g, j, none⟩ = some u := h.2.1 j u hu

end Go.Proofs.YtnbiknaihogknaaDoor

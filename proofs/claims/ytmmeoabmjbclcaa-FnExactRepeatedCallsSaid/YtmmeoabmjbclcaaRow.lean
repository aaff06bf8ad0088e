/- A row that the call itself has made: what it holds behind stores, and in later worlds. -/
import Derived.Test.YtmmeoabmjbclcaaMem
namespace Go.Proofs.Ytmmeoabmjbclcaa
open Go.RowKit

/-! ### A row that the call has made -/
def Row (w : World) (g : Nat) (xs : List Value) : Prop :=
  g < w.heap.size ∧ (∀ j u, xs[j]? = some u → w.cell? ⟨g, j, none⟩ = some u) ∧ ∀ j, w.frozen? ⟨g, j, none⟩ = false

section
variable {w w' : World} {g : Nat} {xs : List Value}
theorem Row.new (w : World) (c : Array Value) (t : TypeId) : Row (w.alloc (.cells c t)) w.heap.size c.toList :=
  ⟨by simp, fun j u hu => by simpa using hu, fun j => by simp⟩
theorem Row.below (h : Row w g xs) (hb : Below w.heap.size w w') : Row w' g xs :=
  ⟨Nat.lt_of_lt_of_le h.1 hb.size, fun j u hu => (hb.cell (p := ⟨g, j, none⟩) h.1).trans (h.2.1 j u hu), fun j => (hb.frozen (p := ⟨g, j, none⟩) h.1).trans (h.2.2 j)⟩
theorem Row.alloc (h : Row w g xs) (o : Obj) : Row (w.alloc o) g xs := h.below ((Below.refl _ _).alloc (Nat.le_refl _) o)
theorem Row.drew (h : Row w g xs) : Row w.drew g xs := h
theorem Row.rd (h : Row w g xs) : Rd w (some ⟨g, 0, none⟩) xs := .inr ⟨g, 0, rfl, fun j u hu => by rw [Nat.zero_add]; exact h.2.1 j u hu⟩
theorem Row.set (h : Row w g xs) {k : Nat} (hk : k < xs.length) (u : Value) : Row (w.setCell ⟨g, k, none⟩ u) g (xs.set k u) := by
  refine ⟨by simpa [World.setCell] using h.1, fun j v hv => ?_, fun j => by simpa using h.2.2 j⟩
  by_cases hj : k = j
  · subst hj
    rw [List.getElem?_set_self hk] at hv
    rw [World.cell?_setCell_same _ _ _ (h.2.1 k _ (List.getElem?_eq_getElem hk))]
    exact hv
  · rw [List.getElem?_set_ne hj] at hv
    rw [World.cell?_setCell_other _ _ _ _ (by intro e; injection e with _ e _; exact hj e)]
    exact h.2.1 j v hv
theorem Row.far (h : Row w g xs) {p : Addr} (hp : p.block ≠ g) (u : Value) : Row (w.setCell p u) g xs :=
  ⟨by simpa [World.setCell] using h.1, fun j v hv => (World.cell?_setCell_other _ _ _ _ (by intro e; exact hp (by rw [e]))).trans (h.2.1 j v hv), fun j => by simpa using h.2.2 j⟩
theorem Row.there (h : Row w g xs) {j : Nat} (hj : j < xs.length) : ∃ v, w.cell? ⟨g, j, none⟩ = some v := ⟨_, h.2.1 j _ (List.getElem?_eq_getElem hj)⟩
theorem Row.free (h : Row w g xs) (j : Nat) : w.frozen? ⟨g, j, none⟩ = false := h.2.2 j
theorem Row.cast (h : Row w g xs) {ys : List Value} (e : xs = ys) : Row w g ys := e ▸ h
end

theorem set_run1 (A R : List Value) (k : Nat) (hA : A.length = k) (hR : 1 ≤ R.length) (u : Value) : (A ++ R).set k u = A ++ [u] ++ R.drop 1 := by
  match R, hR with
  | r :: R, _ => rw [List.set_append_right _ _ (by omega), hA]; simp
theorem set_run2 (A R : List Value) (k : Nat) (hA : A.length = k * 2) (hR : 2 ≤ R.length) (u0 u1 : Value) : ((A ++ R).set (k * 2) u0).set (k * 2 + 1) u1 = A ++ [u0, u1] ++ R.drop 2 := by
  match R, hR with
  | r0 :: r1 :: R, _ =>
    have e : ∀ (j : Nat) (X : List Value) (u : Value), (A ++ X).set (k * 2 + j) u = A ++ X.set j u := fun j X u => by
      rw [List.set_append_right _ _ (by omega), hA, Nat.add_sub_cancel_left]
    have e0 : ∀ (X : List Value) (u : Value), (A ++ X).set (k * 2) u = A ++ X.set 0 u := fun X u => e 0 X u
    simp [e, e0]
theorem set_run3 (A R : List Value) (k : Nat) (hA : A.length = k * 3) (hR : 3 ≤ R.length) (u0 u1 u2 : Value) : (((A ++ R).set (k * 3) u0).set (k * 3 + 1) u1).set (k * 3 + 2) u2 = A ++ [u0, u1, u2] ++ R.drop 3 := by
  match R, hR with
  | r0 :: r1 :: r2 :: R, _ =>
    have e : ∀ (j : Nat) (X : List Value) (u : Value), (A ++ X).set (k * 3 + j) u = A ++ X.set j u := fun j X u => by
      rw [List.set_append_right _ _ (by omega), hA, Nat.add_sub_cancel_left]
    have e0 : ∀ (X : List Value) (u : Value), (A ++ X).set (k * 3) u = A ++ X.set 0 u := fun X u => e 0 X u
    simp [e, e0]
theorem set_run5 (A R : List Value) (k : Nat) (hA : A.length = k * 5) (hR : 5 ≤ R.length) (u0 u1 u2 u3 u4 : Value) : (((((A ++ R).set (k * 5) u0).set (k * 5 + 1) u1).set (k * 5 + 2) u2).set (k * 5 + 3) u3).set (k * 5 + 4) u4 = A ++ [u0, u1, u2, u3, u4] ++ R.drop 5 := by
  match R, hR with
  | r0 :: r1 :: r2 :: r3 :: r4 :: R, _ =>
    have e : ∀ (j : Nat) (X : List Value) (u : Value), (A ++ X).set (k * 5 + j) u = A ++ X.set j u := fun j X u => by
      rw [List.set_append_right _ _ (by omega), hA, Nat.add_sub_cancel_left]
    have e0 : ∀ (X : List Value) (u : Value), (A ++ X).set (k * 5) u = A ++ X.set 0 u := fun X u => e 0 X u
    simp [e, e0]

theorem length_madeCells (z : Array Value) (n : Nat) : (madeCells z n).toList.length = n := by simp [madeCells]

theorem run_makeN {P : Program} (t e : TypeId) {i : TypeInfo} {z : Value} (ht : P.underlying t = some (.slice e)) (hi : P.info? e = some i) (hz : i.zero = some z) (n : Nat) (hb : i.bytes * n ≤ 281474976710656) (hn : n ≤ 1048576) (w : World) :
    (Instr.makeSlice t (.int .i64 (n : Int)) (.int .i64 (n : Int))).run P w = .ok (.slice (some ⟨w.heap.size, 0, none⟩) n n) (w.alloc (.cells (madeCells z.cells (n * i.size)) e)) := by
  have hb' : (i.bytes : Int) * (n : Int) ≤ 281474976710656 := by
    have h2 : ((i.bytes * n : Nat) : Int) ≤ 281474976710656 := by omega
    rwa [Int.natCast_mul] at h2
  have h := run_make (P := P) w t e i z ht hi hz .i64 .i64 n n (by omega) (by omega) hb' (by omega)
  simpa using h

theorem take_flat_succ {α : Type} (f : α → List Value) {l : List α} {k : Nat} {a : α} (h : l[k]? = some a) : (l.take (k + 1)).flatMap f = (l.take k).flatMap f ++ f a := by
  rw [List.take_add_one, h, List.flatMap_append]
  simp
theorem take_flat_length {α : Type} (f : α → List Value) (m : Nat) (hf : ∀ a, (f a).length = m) {l : List α} {k : Nat} (hk : k ≤ l.length) : ((l.take k).flatMap f).length = k * m := by
  rw [flat_length f m hf, List.length_take, Nat.min_eq_left hk, Nat.mul_comm]
end Go.Proofs.Ytmmeoabmjbclcaa

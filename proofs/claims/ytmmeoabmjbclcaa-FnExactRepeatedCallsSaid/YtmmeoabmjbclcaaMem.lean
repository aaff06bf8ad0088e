/- A slice that reads as a list of cells; what later worlds keep. -/
import Derived.WalkKit
import Derived.Deep.Draws
import Derived.Laws.Rows
namespace Go.Proofs.Ytmmeoabmjbclcaa
open Go.RowKit

theorem bnf {b : Bool} (h : (!b) = false) : b = true := by simpa using h
theorem bnt {b : Bool} (h : (!b) = true) : b = false := by simpa using h
theorem below_step {w a b : World} (h : Below w.heap.size w a) (k : Below a.heap.size a b) : Below w.heap.size w b := h.trans (k.mono h.size)
theorem below_alloc {w a : World} (h : Below w.heap.size w a) (o : Obj) : Below w.heap.size w (a.alloc o) := h.alloc h.size o
theorem bcell {W w1 : World} (hb : Below W.heap.size W w1) : (∀ b o, b < W.heap.size → w1.cell? ⟨b, o, none⟩ = W.cell? ⟨b, o, none⟩) ∧ (∀ b o, b < W.heap.size → w1.frozen? ⟨b, o, none⟩ = W.frozen? ⟨b, o, none⟩) :=
  ⟨fun b o h => hb.cell (p := ⟨b, o, none⟩) h, fun b o h => hb.frozen (p := ⟨b, o, none⟩) h⟩

/-- The slice that starts at A holds the cells xs (A says nothing where there are none). -/
def Rd (w : World) (A : Option Addr) (xs : List Value) : Prop :=
  xs = [] ∨ ∃ b off, A = some ⟨b, off, none⟩ ∧ ∀ j u, xs[j]? = some u → w.cell? ⟨b, off + j, none⟩ = some u

theorem Rd.nil (w : World) (A : Option Addr) : Rd w A [] := .inl rfl

theorem Rd.keep {w w' : World} {A : Option Addr} {xs : List Value} (h : Rd w A xs) (hk : ∀ b o, b < w.heap.size → w'.cell? ⟨b, o, none⟩ = w.cell? ⟨b, o, none⟩) : Rd w' A xs := by
  rcases h with h | ⟨b, off, hA, hc⟩
  · exact .inl h
  · exact .inr ⟨b, off, hA, fun j u hu => by
      have h1 := hc j u hu
      rw [hk b _ (World.block_lt_of_cell? w ⟨b, off + j, none⟩ h1)]
      exact h1⟩
theorem Rd.below {w w' : World} {A : Option Addr} {xs : List Value} (h : Rd w A xs) (hb : Below w.heap.size w w') : Rd w' A xs :=
  h.keep fun b o hlt => hb.cell (p := ⟨b, o, none⟩) hlt
theorem Rd.drew {w : World} {A : Option Addr} {xs : List Value} (h : Rd w A xs) : Rd w.drew A xs := h
theorem Rd.alloc {w : World} {A : Option Addr} {xs : List Value} (h : Rd w A xs) (o : Obj) : Rd (w.alloc o) A xs :=
  h.below ((Below.refl _ _).alloc (Nat.le_refl _) o)

/-- The cells of element k, of 'size' cells each. -/
theorem Rd.at_ {w : World} {A : Option Addr} {xs : List Value} (h : Rd w A xs) {k : Nat} (hk : k < xs.length) :
    ∃ b off, A = some ⟨b, off, none⟩ ∧ b < w.heap.size ∧ ∀ j u, xs[j]? = some u → w.cell? ⟨b, off + j, none⟩ = some u := by
  rcases h with h | ⟨b, off, hA, hc⟩
  · subst h; simp at hk
  · exact ⟨b, off, hA, World.block_lt_of_cell? w ⟨b, off + k, none⟩ (hc k _ (List.getElem?_eq_getElem hk)), hc⟩

/-- A list of structs as cells. -/
theorem flat_length {α : Type} (f : α → List Value) (n : Nat) (hf : ∀ a, (f a).length = n) : ∀ l : List α, (l.flatMap f).length = n * l.length
  | [] => by simp
  | a :: l => by simp [List.flatMap_cons, hf, flat_length f n hf l, Nat.mul_add]; omega
theorem flat_get {α : Type} (f : α → List Value) (n : Nat) (hf : ∀ a, (f a).length = n) : ∀ (l : List α) (k j : Nat) (a : α), l[k]? = some a → j < n → (l.flatMap f)[n * k + j]? = (f a)[j]?
  | [], k, j, a, h, _ => by simp at h
  | x :: l, 0, j, a, h, hj => by
    simp at h
    subst h
    simp [List.flatMap_cons, List.getElem?_append_left (show j < (f x).length by rw [hf]; exact hj)]
  | x :: l, k + 1, j, a, h, hj => by
    simp only [List.getElem?_cons_succ] at h
    rw [List.flatMap_cons, List.getElem?_append_right (by rw [hf, Nat.mul_add]; omega), hf, show n * (k + 1) + j - n = n * k + j by rw [Nat.mul_add]; omega]
    exact flat_get f n hf l k j a h hj

theorem Rd.get2 {α : Type} {w : World} {A : Option Addr} {f : α → List Value} {l : List α} (h : Rd w A (l.flatMap f)) (hf : ∀ a, (f a).length = 2) {k : Nat} {a : α} (ha : l[k]? = some a) {u0 u1 : Value} (hu : f a = [u0, u1]) :
    ∃ b off, A = some ⟨b, off, none⟩ ∧ b < w.heap.size ∧ w.cell? ⟨b, off + k * 2, none⟩ = some u0 ∧ w.cell? ⟨b, off + k * 2 + 1, none⟩ = some u1 := by
  have hk : k < l.length := (List.getElem?_eq_some_iff.1 ha).1
  obtain ⟨b, off, hA, hb, hc⟩ := h.at_ (k := 2 * k) (by rw [flat_length f 2 hf]; omega)
  exact ⟨b, off, hA, hb, by have := hc (2 * k + 0) u0 (by rw [flat_get f 2 hf l k 0 a ha (by omega), hu]; rfl); rw [show off + (2 * k + 0) = off + k * 2 by omega] at this; exact this,
    by have := hc (2 * k + 1) u1 (by rw [flat_get f 2 hf l k 1 a ha (by omega), hu]; rfl); rw [show off + (2 * k + 1) = off + k * 2 + 1 by omega] at this; exact this⟩

theorem Rd.get3 {α : Type} {w : World} {A : Option Addr} {f : α → List Value} {l : List α} (h : Rd w A (l.flatMap f)) (hf : ∀ a, (f a).length = 3) {k : Nat} {a : α} (ha : l[k]? = some a) {u0 u1 u2 : Value} (hu : f a = [u0, u1, u2]) :
    ∃ b off, A = some ⟨b, off, none⟩ ∧ b < w.heap.size ∧ w.cell? ⟨b, off + k * 3, none⟩ = some u0 ∧ w.cell? ⟨b, off + k * 3 + 1, none⟩ = some u1 ∧ w.cell? ⟨b, off + k * 3 + 2, none⟩ = some u2 := by
  have hk : k < l.length := (List.getElem?_eq_some_iff.1 ha).1
  obtain ⟨b, off, hA, hb, hc⟩ := h.at_ (k := 3 * k) (by rw [flat_length f 3 hf]; omega)
  exact ⟨b, off, hA, hb, by have := hc (3 * k + 0) u0 (by rw [flat_get f 3 hf l k 0 a ha (by omega), hu]; rfl); rw [show off + (3 * k + 0) = off + k * 3 by omega] at this; exact this,
    by have := hc (3 * k + 1) u1 (by rw [flat_get f 3 hf l k 1 a ha (by omega), hu]; rfl); rw [show off + (3 * k + 1) = off + k * 3 + 1 by omega] at this; exact this,
    by have := hc (3 * k + 2) u2 (by rw [flat_get f 3 hf l k 2 a ha (by omega), hu]; rfl); rw [show off + (3 * k + 2) = off + k * 3 + 2 by omega] at this; exact this⟩

theorem Rd.get5 {α : Type} {w : World} {A : Option Addr} {f : α → List Value} {l : List α} (h : Rd w A (l.flatMap f)) (hf : ∀ a, (f a).length = 5) {k : Nat} {a : α} (ha : l[k]? = some a) {u0 u1 u2 u3 u4 : Value} (hu : f a = [u0, u1, u2, u3, u4]) :
    ∃ b off, A = some ⟨b, off, none⟩ ∧ b < w.heap.size ∧ w.cell? ⟨b, off + k * 5, none⟩ = some u0 ∧ w.cell? ⟨b, off + k * 5 + 1, none⟩ = some u1 ∧ w.cell? ⟨b, off + k * 5 + 2, none⟩ = some u2 ∧ w.cell? ⟨b, off + k * 5 + 3, none⟩ = some u3 ∧ w.cell? ⟨b, off + k * 5 + 4, none⟩ = some u4 := by
  have hk : k < l.length := (List.getElem?_eq_some_iff.1 ha).1
  obtain ⟨b, off, hA, hb, hc⟩ := h.at_ (k := 5 * k) (by rw [flat_length f 5 hf]; omega)
  exact ⟨b, off, hA, hb, by have := hc (5 * k + 0) u0 (by rw [flat_get f 5 hf l k 0 a ha (by omega), hu]; rfl); rw [show off + (5 * k + 0) = off + k * 5 by omega] at this; exact this,
    by have := hc (5 * k + 1) u1 (by rw [flat_get f 5 hf l k 1 a ha (by omega), hu]; rfl); rw [show off + (5 * k + 1) = off + k * 5 + 1 by omega] at this; exact this,
    by have := hc (5 * k + 2) u2 (by rw [flat_get f 5 hf l k 2 a ha (by omega), hu]; rfl); rw [show off + (5 * k + 2) = off + k * 5 + 2 by omega] at this; exact this,
    by have := hc (5 * k + 3) u3 (by rw [flat_get f 5 hf l k 3 a ha (by omega), hu]; rfl); rw [show off + (5 * k + 3) = off + k * 5 + 3 by omega] at this; exact this,
    by have := hc (5 * k + 4) u4 (by rw [flat_get f 5 hf l k 4 a ha (by omega), hu]; rfl); rw [show off + (5 * k + 4) = off + k * 5 + 4 by omega] at this; exact this⟩

theorem Rd.get1 {w : World} {A : Option Addr} {xs : List Value} (h : Rd w A xs) {k : Nat} {u : Value} (ha : xs[k]? = some u) :
    ∃ b off, A = some ⟨b, off, none⟩ ∧ b < w.heap.size ∧ w.cell? ⟨b, off + k, none⟩ = some u := by
  have hk : k < xs.length := (List.getElem?_eq_some_iff.1 ha).1
  obtain ⟨b, off, hA, hb, hc⟩ := h.at_ hk
  exact ⟨b, off, hA, hb, hc k u ha⟩

theorem all_take_succ {α : Type} (p : α → Bool) {l : List α} {k : Nat} {a : α} (ha : l[k]? = some a) (h : (l.take k).all p = true) (hp : p a = true) : (l.take (k + 1)).all p = true := by
  rw [List.take_add_one, ha, List.all_append, h]
  simp [hp]
theorem all_false_of {α : Type} (p : α → Bool) {l : List α} {k : Nat} {a : α} (ha : l[k]? = some a) (hp : p a = false) : l.all p = false := by
  rw [List.all_eq_false]
  exact ⟨a, List.mem_of_getElem? ha, by simp [hp]⟩
theorem all_of_take {α : Type} (p : α → Bool) {l : List α} {k : Nat} (hk : l.length ≤ k) (h : (l.take k).all p = true) : l.all p = true := by
  rwa [List.take_of_length_le hk] at h
end Go.Proofs.Ytmmeoabmjbclcaa

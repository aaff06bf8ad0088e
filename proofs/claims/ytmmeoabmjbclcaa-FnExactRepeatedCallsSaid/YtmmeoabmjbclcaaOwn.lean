/- Memory of the call's own: what stays behind writes to one block. -/
import Derived.Test.YtmmeoabmjbclcaaRow
import Derived.Test.YtmmeoabmjbclcaaRegions
import Derived.Laws.AppendOwn
import Derived.Laws.AppendOwnNone
import Derived.Laws.OwnMore
import Derived.OwnWalk
import Derived.WalkKit
namespace Go.Proofs.Ytmmeoabmjbclcaa
open Go.RowKit
set_option linter.unusedVariables false

section
variable {w w' w1 w2 : World} {B g n cap sz : Nat} {e : TypeId} {v : Value} {xs : List Value} {row : Option Nat}

theorem grown_refl (w : World) (row : Option Nat) : w.grownBy w row := ⟨rfl, rfl, rfl, Nat.le_refl _, fun _ _ _ => rfl⟩
theorem grown_of_below (h : Below w.heap.size w w') (row : Option Nat) : w.grownBy w' row := ⟨h.os, h.tape, h.output, h.size, fun k hk _ => h.block k hk⟩
theorem grown_trans (h : w.grownBy w1 row) (k : w1.grownBy w2 row) : w.grownBy w2 row :=
  ⟨k.os.trans h.os, k.tape.trans h.tape, k.output.trans h.output, Nat.le_trans h.size k.size, fun i hi hne => (k.block i (Nat.lt_of_lt_of_le hi h.size) hne).trans (h.block i hi hne)⟩
theorem grown_set {p : Addr} (u : Value) (hp : p.block = g) : w.grownBy (w.setCell p u) (some g) :=
  ⟨rfl, rfl, rfl, by simp [World.setCell], fun k hk hne => Below.heap_setCell _ _ _ _ (fun e => hne (by rw [e, hp]))⟩
theorem grown_any (h : w.grownBy w' none) (row : Option Nat) : w.grownBy w' row := ⟨h.os, h.tape, h.output, h.size, fun k hk _ => h.block k hk (by simp)⟩
theorem grown_below (h : w.grownBy w' row) {N : Nat} (hN : N ≤ w.heap.size) (hr : ∀ k, row = some k → N ≤ k) : Below N w w' :=
  ⟨h.os, h.tape, h.output, h.size, fun k hk => h.block k (by omega) (fun e => by have := hr k e.symm; omega)⟩
theorem grown_none_below (h : w.grownBy w' none) : Below w.heap.size w w' := grown_below h (Nat.le_refl _) (fun k hk => by cases hk)

theorem own_below (h : w.ownsRow B e sz v n xs) (hb : Below w.heap.size w w') : w'.ownsRow B e sz v n xs := h.kept (grown_of_below hb none) (by
  cases hv : v.ownBlock with
  | none => exact .inl rfl
  | some g => exact .inr (by simp))
theorem own_le {B' : Nat} (h : w.ownsRow B e sz v n xs) (hB : B' ≤ B) : w.ownsRow B' e sz v n xs :=
  ⟨h.1, h.2.imp id fun ⟨g, cap, cur, hv, hg, r⟩ => ⟨g, cap, cur, hv, Nat.le_trans hB hg, r⟩⟩
/-- The value written out, and what it reads as. -/
theorem own_open (h : w.ownsRow B e sz v n xs) : ∃ A cap, v = .slice A n cap ∧ Rd w A xs ∧ n ≤ cap ∧ cap ≤ maxLen ∧ (A = none → n = 0 ∧ cap = 0 ∧ xs = []) ∧ (∀ b off sp, A = some ⟨b, off, sp⟩ → off = 0 ∧ sp = none ∧ B ≤ b ∧ b < w.heap.size ∧ v.ownBlock = some b) := by
  rcases h.2 with ⟨rfl, rfl⟩ | ⟨g, cap, cur, rfl, hg, hh, h1, h2, h3, h4⟩
  · exact ⟨none, 0, rfl, .inl (List.eq_nil_of_length_eq_zero (by rw [h.1]; simp)), Nat.le_refl _, Nat.zero_le _, fun _ => ⟨rfl, rfl, List.eq_nil_of_length_eq_zero (by rw [h.1]; simp)⟩, fun b off sp hA => by cases hA⟩
  · refine ⟨some ⟨g, 0, none⟩, cap, rfl, .inr ⟨g, 0, rfl, fun j u hu => ?_⟩, h1, h2, (fun hA => by cases hA), fun b off sp hA => ?_⟩
    · have := h.cells (g := g) rfl j u hu
      rw [Addr.add_lit] at this
      exact this
    · injection hA with hA
      injection hA with h5 h6 h7
      subst h5
      exact ⟨h6.symm, h7.symm, hg, (Array.getElem?_eq_some_iff.1 hh).1, rfl⟩

theorem own_rd {A : Option Addr} {m k : Nat} (h : w.ownsRow B e sz (.slice A m k) n xs) : Rd w A xs := by
  obtain ⟨A', k', hv, hr, _⟩ := own_open h
  injection hv with h1 h2 h3
  rw [h1]
  exact hr
theorem own_far {N : Nat} (h : w.ownsRow B e sz v n xs) (hg : w.grownBy w' (some N)) (hB : N < B) : w'.ownsRow B e sz v n xs := h.kept hg (by
  cases hv : v.ownBlock with
  | none => exact .inl rfl
  | some g => exact .inr (fun e => by injection e with e; have := (h.lt g hv).1; omega))
theorem own_near {N : Nat} (h : w.ownsRow B e sz v n xs) (hl : ∀ k, v.ownBlock = some k → k < N) (hg : w.grownBy w' row) (hB : ∀ k, row = some k → N ≤ k) : w'.ownsRow B e sz v n xs := h.kept hg (by
  cases hv : v.ownBlock with
  | none => exact .inl rfl
  | some g => exact .inr (fun e => by have h1 := hl g hv; have h2 := hB g e.symm; omega))

theorem Rd.grown {A : Option Addr} (h : Rd w A xs) (hg : w.grownBy w' row) (hne : ∀ b off sp, A = some ⟨b, off, sp⟩ → some b ≠ row) : Rd w' A xs := by
  rcases h with h | ⟨b, off, hA, hc⟩
  · exact .inl h
  · exact .inr ⟨b, off, hA, fun j u hu => hg.cell (hc j u hu) (hne b off none hA)⟩
theorem Row.grown (h : Row w g xs) (hg : w.grownBy w' row) (hne : some g ≠ row) : Row w' g xs :=
  ⟨Nat.lt_of_lt_of_le h.1 hg.size, fun j u hu => hg.cell (h.2.1 j u hu) hne, fun j => (World.frozen?_of_block (w := w) (hg.block g h.1 hne)).trans (h.2.2 j)⟩

/-- 'append' to what is nil or the call's own, whatever is appended: nil, empty or not. -/
theorem wpList_append_any {P : Program} {w : World} {ops : Array Oper} {rest : List Oper} {o : Oper} {a : Act} {Q : Exit → Act → World → Prop} (hgd : o.guard = none) (s x : Operand) (t : TypeId)
    (ho : o.op = .call { callee := .builtin .append, args := #[s, x], argTypes := #[t, t] })
    (base : Nat) (e : TypeId) (i : TypeInfo) (z : Value) (size bytes : Nat) (ht : P.underlying t = some (.slice e)) (hi : P.info? e = some i) (hz : i.zero = some z)
    (hsize : i.size = size) (hby : i.bytes = bytes) (hzs : z.cells.size = size) (hsz : 0 < size)
    (v : Value) (n : Nat) (xs : List Value) (hs : a.eval s = v) (hown : w.ownsRow base e size v n xs)
    (ao : Option Addr) (m c : Nat) (news : List Value) (hx : a.eval x = .slice ao m c) (hl : news.length = m * size) (hnone : ao = none → m = 0 ∧ c = 0) (hnews : ∀ ad, ao = some ad → ∀ j u, news[j]? = some u → w.cell? (ad.add j) = some u) (h1 : ∀ u ∈ news, u.oneCell' = true)
    (h63 : n + m ≤ maxLen) (hbytes : (n + m) * bytes ≤ 140737488355328) (hbase : base ≤ w.heap.size)
    (h : ∀ v' w', w'.ownsRow base e size v' (n + m) (xs ++ news) → w.grownBy w' v.ownBlock → wpList P ops Q rest (a.put o.dst v') w') : wpList P ops Q (o :: rest) a w := by
  cases ao with
  | none =>
    obtain ⟨rfl, rfl⟩ := hnone rfl
    obtain rfl : news = [] := List.eq_nil_of_length_eq_zero (by simpa using hl)
    refine wpList_append_own_none hgd s x t ho base e i size ht hi v n xs hs hown hx ?_
    exact h v w (by simpa using hown) (grown_refl _ _)
  | some ad => exact wpList_append_own _ hgd s x t ho base e i z size bytes ht hi hz hsize hby hzs hsz v n xs hs hown ad m c news hx hl (hnews ad rfl) h1 h63 hbytes hbase (fun v' w' h2 h3 _ => h v' w' h2 h3)
end

/-- What lay in a block, behind a call. -/
theorem cell_on {W w1 : World} {b o : Nat} {v : Value} (h : W.cell? ⟨b, o, none⟩ = some v) (hb : Below W.heap.size W w1) : w1.cell? ⟨b, o, none⟩ = some v :=
  (hb.cell (p := ⟨b, o, none⟩) (World.block_lt_of_cell? W ⟨b, o, none⟩ h)).trans h
theorem cell_new2 (W : World) (a b : Value) (t : TypeId) : (W.alloc (.cells #[a, b] t)).cell? ⟨W.heap.size, 0, none⟩ = some a ∧ (W.alloc (.cells #[a, b] t)).cell? ⟨W.heap.size, 1, none⟩ = some b :=
  ⟨(Row.new W #[a, b] t).2.1 0 _ rfl, (Row.new W #[a, b] t).2.1 1 _ rfl⟩

/-- Marks: the numbers that the laws write. -/
def marks (t : Int) (n : Nat) : List Value := (List.range n).map fun i : Nat => Value.int .i64 (t + (i : Int))
theorem marks_length (t : Int) (n : Nat) : (marks t n).length = n := by simp [marks]
theorem marks_get {t : Int} {n i : Nat} (h : i < n) : (marks t n)[i]? = some (.int .i64 (t + i)) := by simp [marks, h]
theorem marks_set {t : Int} {k : Nat} {xs : List Value} (h : k < xs.length) : (marks t k ++ xs.drop k).set k (.int .i64 (t + k)) = marks t (k + 1) ++ xs.drop (k + 1) := by
  rw [List.set_append_right _ _ (by simp [marks_length]), marks_length, Nat.sub_self, List.drop_eq_getElem_cons h, List.set_cons_zero]
  simp [marks, List.range_succ]
end Go.Proofs.Ytmmeoabmjbclcaa

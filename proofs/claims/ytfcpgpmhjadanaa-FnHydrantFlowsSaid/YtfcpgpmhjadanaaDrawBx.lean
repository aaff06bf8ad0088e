/- Draws that make one struct in a box: what is known while it is made. -/
import Derived.Test.YtfcpgpmhjadanaaDrawSp
import Derived.Test.YtfcpgpmhjadanaaRow
namespace Go.Proofs.Ytfcpgpmhjadanaa
open Go.RowKit
set_option linter.unusedVariables false

theorem grown_under {w w1 w2 : World} {row r2 : Option Nat} (h : w.grownBy w1 row) (k : w1.grownBy w2 r2) (hr : ∀ j, r2 = some j → w.heap.size ≤ j) : w.grownBy w2 row :=
  ⟨k.os.trans h.os, k.tape.trans h.tape, k.output.trans h.output, Nat.le_trans h.size k.size, fun i hi hne => (k.block i (Nat.lt_of_lt_of_le hi h.size) (fun e => by have := hr i e.symm; omega)).trans (h.block i hi hne)⟩

/-- While a struct is made: the result's box rb, the struct's box tb, the drawer behind N steps. -/
structure BxAt (d : Drw) (w : World) (rb tb : Nat) (xs ys : List Value) (N : Nat) (wr : World) : Prop where
  gle : d.W0.heap.size ≤ d.g
  st : d.st N wr
  gr : w.grownBy wr (some d.g)
  res : Row wr rb xs
  box : Row wr tb ys
  ord : d.g < w.heap.size ∧ w.heap.size ≤ rb ∧ rb < tb
section
variable {d : Drw} {w wr w' : World} {rb tb N M : Nat} {xs ys : List Value}
theorem BxAt.draw (h : BxAt d w rb tb xs ys N wr) (hs : d.st M w') (hg : wr.grownBy w' (some d.g)) : BxAt d w rb tb xs ys M w' :=
  ⟨h.gle, hs, grown_trans h.gr hg, h.res.grown hg (fun e => by injection e with e; have := h.ord; omega), h.box.grown hg (fun e => by injection e with e; have := h.ord; omega), h.ord⟩
theorem BxAt.below (h : BxAt d w rb tb xs ys N wr) (hb : Below wr.heap.size wr w') : BxAt d w rb tb xs ys N w' :=
  ⟨h.gle, h.st.below hb, grown_trans h.gr (grown_of_below hb _), h.res.below hb, h.box.below hb, h.ord⟩
theorem BxAt.alloc (h : BxAt d w rb tb xs ys N wr) (o : Obj) : BxAt d w rb tb xs ys N (wr.alloc o) := h.below ((Below.refl _ _).alloc (Nat.le_refl _) o)
theorem BxAt.more (h : BxAt d w rb tb xs ys N wr) (hM : N ≤ M) : BxAt d w rb tb xs ys M wr := { h with st := h.st.more hM }
theorem BxAt.base (h : BxAt d w rb tb xs ys N wr) : d.W0.heap.size ≤ w.heap.size := Nat.le_of_lt (Nat.lt_of_le_of_lt h.gle h.ord.1)
theorem BxAt.set (h : BxAt d w rb tb xs ys N wr) {k : Nat} (hk : k < ys.length) (u : Value) : BxAt d w rb tb xs (ys.set k u) N (wr.setCell ⟨tb, k, none⟩ u) := by
  have h0 : w.heap.size ≤ tb := by have := h.ord; omega
  have h1 : tb ≠ d.g := by have := h.ord; omega
  exact ⟨h.gle, h.st.put (p := ⟨tb, k, none⟩) (Nat.le_trans h.base h0) h1 _, grown_put h.gr (p := ⟨tb, k, none⟩) h0 _, h.res.far (p := ⟨tb, k, none⟩) (by have := h.ord; simp; omega) _, h.box.set hk _, h.ord⟩
theorem BxAt.setR (h : BxAt d w rb tb xs ys N wr) {k : Nat} (hk : k < xs.length) (u : Value) : BxAt d w rb tb (xs.set k u) ys N (wr.setCell ⟨rb, k, none⟩ u) := by
  have h0 : w.heap.size ≤ rb := h.ord.2.1
  have h1 : rb ≠ d.g := by have := h.ord; omega
  exact ⟨h.gle, h.st.put (p := ⟨rb, k, none⟩) (Nat.le_trans h.base h0) h1 _, grown_put h.gr (p := ⟨rb, k, none⟩) h0 _, h.res.set hk _, h.box.far (p := ⟨rb, k, none⟩) (by have := h.ord; simp; omega) _, h.ord⟩
theorem BxAt.castB (h : BxAt d w rb tb xs ys N wr) {zs : List Value} (e : ys = zs) : BxAt d w rb tb xs zs N wr := e ▸ h
end
end Go.Proofs.Ytfcpgpmhjadanaa

/- Several texts in one. Draws of nets: what is known while one is made. Draws of nets: a valid one. Draws of nets: any. Draws of lists of integers: what is known while one is made; the open hydrants. Draws of nets: flows. Draws of nets: a net with its open hydrants, with flows. Draws of nets: a net alone, with flows, with a main. -/
import Derived.Test.YtfcpgpmhjadanaaGreatDoorPmO
import Derived.Test.YtfcpgpmhjadanaaGreatDoorRegX
import Derived.Test.YtfcpgpmhjadanaaGreatDoorNetM
import Derived.Test.YtfcpgpmhjadanaaGreatDoorOwn
import Derived.Test.YtfcpgpmhjadanaaGreatDoorRowsX
import Derived.Test.YtfcpgpmhjadanaaGreatDoorPmH
import Derived.Test.YtfcpgpmhjadanaaGreatDoorNetQ
import Derived.Test.YtfcpgpmhjadanaaGreatDoorNetI
import Derived.IntWalk
import Derived.Deep.AppendLies
import Derived.Deep.DeepCutAuto
import Derived.Deep.CutBlock
import Derived.Deep.LoopGhost
namespace Go.Proofs.YtfcpgpmhjadanaaGreatDoor
open Go.RowKit
set_option linter.unusedVariables false

theorem own_keep {w w' : World} {B n sz : Nat} {e : TypeId} {v : Value} {xs : List Value} {row : Option Nat} (h : w.ownsRow B e sz v n xs) (hg : w.grownBy w' row) (hp : ∀ q, v.ownBlock = some q → row ≠ some q) : w'.ownsRow B e sz v n xs :=
  h.kept hg (by
    cases hv : v.ownBlock with
    | none => exact .inl rfl
    | some g => exact .inr (fun e => hp g hv e.symm))
theorem own_putN {w : World} {B n sz : Nat} {e : TypeId} {v : Value} {xs : List Value} (h : w.ownsRow B e sz v n xs) {p : Addr} (hp : ∀ q, v.ownBlock = some q → q ≠ p.block) (u : Value) : (w.setCell p u).ownsRow B e sz v n xs :=
  own_keep h (grown_set (g := p.block) u rfl) (fun q hq e => by injection e with e; exact hp q hq e.symm)

/-- While a net is made: the result's box rb, the net's box tb, the drawer behind N steps. -/
structure NwAt (d : Drw) (w : World) (rb tb : Nat) (A : Option Addr) (c : Nat) (M : List (Int × Int)) (B : Option Addr) (e : Nat) (H : List (Int × Int)) (N : Nat) (wr : World) : Prop where
  gle : d.W0.heap.size ≤ d.g
  st : d.st N wr
  gr : w.grownBy wr (some d.g)
  res : Row wr rb [.slice none 0 0, .slice none 0 0]
  box : Row wr tb [.slice A M.length c, .slice B H.length e]
  ownM : wr.ownsRow w.heap.size 36 2 (.slice A M.length c) M.length (M.flatMap mcells)
  ownH : wr.ownsRow w.heap.size 73 2 (.slice B H.length e) H.length (H.flatMap mcells)
  ord : d.g < w.heap.size ∧ w.heap.size ≤ rb ∧ rb < tb
  apM : ∀ q, (Value.slice A M.length c).ownBlock = some q → q ≠ rb ∧ q ≠ tb
  apH : ∀ q, (Value.slice B H.length e).ownBlock = some q → q ≠ rb ∧ q ≠ tb
  apB : ∀ q, (Value.slice A M.length c).ownBlock = some q → (Value.slice B H.length e).ownBlock ≠ some q
section
variable {d : Drw} {w wr w' : World} {rb tb c e N K : Nat} {A B : Option Addr} {M H : List (Int × Int)}
theorem NwAt.draw (h : NwAt d w rb tb A c M B e H N wr) (hs : d.st K w') (hg : wr.grownBy w' (some d.g)) : NwAt d w rb tb A c M B e H K w' :=
  ⟨h.gle, hs, grown_trans h.gr hg, h.res.grown hg (fun e => by injection e with e; have := h.ord; omega), h.box.grown hg (fun e => by injection e with e; have := h.ord; omega), own_far h.ownM hg h.ord.1, own_far h.ownH hg h.ord.1, h.ord, h.apM, h.apH, h.apB⟩
theorem NwAt.below (h : NwAt d w rb tb A c M B e H N wr) (hb : Below wr.heap.size wr w') : NwAt d w rb tb A c M B e H N w' :=
  ⟨h.gle, h.st.below hb, grown_trans h.gr (grown_of_below hb _), h.res.below hb, h.box.below hb, own_below h.ownM hb, own_below h.ownH hb, h.ord, h.apM, h.apH, h.apB⟩
theorem NwAt.alloc (h : NwAt d w rb tb A c M B e H N wr) (o : Obj) : NwAt d w rb tb A c M B e H N (wr.alloc o) := h.below ((Below.refl _ _).alloc (Nat.le_refl _) o)
theorem NwAt.drew (h : NwAt d w rb tb A c M B e H N wr) : NwAt d w rb tb A c M B e H N wr.drew := h.below (Below.refl _ _).drew
theorem NwAt.more (h : NwAt d w rb tb A c M B e H N wr) (hM : N ≤ K) : NwAt d w rb tb A c M B e H K wr := { h with st := h.st.more hM }
theorem NwAt.base (h : NwAt d w rb tb A c M B e H N wr) : d.W0.heap.size ≤ w.heap.size := Nat.le_of_lt (Nat.lt_of_le_of_lt h.gle h.ord.1)
theorem NwAt.put (h : NwAt d w rb tb A c M B e H N wr) {p : Addr} (h0 : w.heap.size ≤ p.block) (h1 : p.block ≠ rb) (h2 : p.block ≠ tb) (h3 : ∀ q, (Value.slice A M.length c).ownBlock = some q → q ≠ p.block) (h4 : ∀ q, (Value.slice B H.length e).ownBlock = some q → q ≠ p.block) (u : Value) : NwAt d w rb tb A c M B e H N (wr.setCell p u) :=
  ⟨h.gle, h.st.put (Nat.le_trans h.base h0) (by have := h.ord; omega) u, grown_put h.gr h0 u, h.res.far h1 u, h.box.far h2 u, own_putN h.ownM h3 u, own_putN h.ownH h4 u, h.ord, h.apM, h.apH, h.apB⟩
theorem NwAt.rd (h : NwAt d w rb tb A c M B e H N wr) : NetRd wr A B M H := ⟨own_rd h.ownM, own_rd h.ownH⟩
/-- Another list of mains stored. -/
theorem NwAt.setM (h : NwAt d w rb tb A c M B e H N wr) {X : Option Addr} {x : Nat} {L : List (Int × Int)} (ho : wr.ownsRow w.heap.size 36 2 (.slice X L.length x) L.length (L.flatMap mcells)) (ha : ∀ q, (Value.slice X L.length x).ownBlock = some q → q ≠ rb ∧ q ≠ tb)
    (hb : ∀ q, (Value.slice X L.length x).ownBlock = some q → (Value.slice B H.length e).ownBlock ≠ some q) : NwAt d w rb tb X x L B e H N (wr.setCell ⟨tb, 0, none⟩ (.slice X L.length x)) := by
  have h0 : w.heap.size ≤ tb := by have := h.ord; omega
  have h1 : tb ≠ d.g := by have := h.ord; omega
  exact ⟨h.gle, h.st.put (p := ⟨tb, 0, none⟩) (Nat.le_trans h.base h0) h1 _, grown_put h.gr (p := ⟨tb, 0, none⟩) h0 _, h.res.far (p := ⟨tb, 0, none⟩) (by have := h.ord; simp; omega) _, (h.box.set (k := 0) (by simp) _).cast rfl,
    own_putN (p := ⟨tb, 0, none⟩) ho (fun q hq => (ha q hq).2) _, own_putN (p := ⟨tb, 0, none⟩) h.ownH (fun q hq => (h.apH q hq).2) _, h.ord, ha, h.apH, hb⟩
/-- Another list of hydrants stored. -/
theorem NwAt.setH (h : NwAt d w rb tb A c M B e H N wr) {X : Option Addr} {x : Nat} {L : List (Int × Int)} (ho : wr.ownsRow w.heap.size 73 2 (.slice X L.length x) L.length (L.flatMap mcells)) (ha : ∀ q, (Value.slice X L.length x).ownBlock = some q → q ≠ rb ∧ q ≠ tb)
    (hb : ∀ q, (Value.slice A M.length c).ownBlock = some q → (Value.slice X L.length x).ownBlock ≠ some q) : NwAt d w rb tb A c M X x L N (wr.setCell ⟨tb, 1, none⟩ (.slice X L.length x)) := by
  have h0 : w.heap.size ≤ tb := by have := h.ord; omega
  have h1 : tb ≠ d.g := by have := h.ord; omega
  exact ⟨h.gle, h.st.put (p := ⟨tb, 1, none⟩) (Nat.le_trans h.base h0) h1 _, grown_put h.gr (p := ⟨tb, 1, none⟩) h0 _, h.res.far (p := ⟨tb, 1, none⟩) (by have := h.ord; simp; omega) _, (h.box.set (k := 1) (by simp) _).cast rfl,
    own_putN (p := ⟨tb, 1, none⟩) h.ownM (fun q hq => (h.apM q hq).2) _, own_putN (p := ⟨tb, 1, none⟩) ho (fun q hq => (ha q hq).2) _, h.ord, h.apM, ha, hb⟩
/-- Behind an append to the mains: both boxes, the hydrants. -/
theorem NwAt.farM (h : NwAt d w rb tb A c M B e H N wr) (hg : wr.grownBy w' (Value.slice A M.length c).ownBlock) : Row w' rb [.slice none 0 0, .slice none 0 0] ∧ Row w' tb [.slice A M.length c, .slice B H.length e] ∧ w'.ownsRow w.heap.size 73 2 (.slice B H.length e) H.length (H.flatMap mcells) :=
  ⟨h.res.grown hg (fun e => (h.apM rb e.symm).1 rfl), h.box.grown hg (fun e => (h.apM tb e.symm).2 rfl), own_keep h.ownH hg (fun q hq e => h.apB q e hq)⟩
theorem NwAt.farH (h : NwAt d w rb tb A c M B e H N wr) (hg : wr.grownBy w' (Value.slice B H.length e).ownBlock) : Row w' rb [.slice none 0 0, .slice none 0 0] ∧ Row w' tb [.slice A M.length c, .slice B H.length e] ∧ w'.ownsRow w.heap.size 36 2 (.slice A M.length c) M.length (M.flatMap mcells) :=
  ⟨h.res.grown hg (fun e => (h.apH rb e.symm).1 rfl), h.box.grown hg (fun e => (h.apH tb e.symm).2 rfl), own_keep h.ownM hg (fun q hq e => h.apB q hq e)⟩
/-- An append to the mains, stored. -/
theorem NwAt.appendM (h : NwAt d w rb tb A c M B e H N wr) {g c' : Nat} {s : Int × Int} (hg : wr.grownBy w' (Value.slice A M.length c).ownBlock) (hw : (Value.slice A M.length c).ownBlock = some g ∨ g = wr.heap.size)
    (ho : w'.ownsRow w.heap.size 36 2 (.slice (some ⟨g, 0, none⟩) (M.length + 1) c') (M.length + 1) (M.flatMap mcells ++ mcells s)) :
    NwAt d w rb tb (some ⟨g, 0, none⟩) c' (M ++ [s]) B e H N (w'.setCell ⟨tb, 0, none⟩ (.slice (some ⟨g, 0, none⟩) (M.length + 1) c')) := by
  have hl : (M ++ [s]).length = M.length + 1 := by simp
  have hc : (M ++ [s]).flatMap mcells = M.flatMap mcells ++ mcells s := by simp
  have hlt : ∀ k, (Value.slice A M.length c).ownBlock = some k → w.heap.size ≤ k ∧ k < wr.heap.size := fun k hk => h.ownM.lt k hk
  obtain ⟨r1, r2, r3⟩ := h.farM hg
  have hgr : g ≠ rb ∧ g ≠ tb ∧ (Value.slice B H.length e).ownBlock ≠ some g := by
    rcases hw with hw | hw
    · exact ⟨(h.apM g hw).1, (h.apM g hw).2, h.apB g hw⟩
    · have := h.res.1
      have := h.box.1
      exact ⟨by omega, by omega, fun e => by have := (h.ownH.lt g e).2; omega⟩
  have hbase := h.base
  have hS : w'.setCell ⟨tb, 0, none⟩ (.slice (some ⟨g, 0, none⟩) (M.length + 1) c') = w'.setCell ⟨tb, 0, none⟩ (.slice (some ⟨g, 0, none⟩) (M ++ [s]).length c') := by rw [hl]
  rw [hS]
  have ha : ∀ q, (Value.slice (some ⟨g, 0, none⟩) (M ++ [s]).length c').ownBlock = some q → q = g := fun q hq => by simp [Value.ownBlock] at hq; exact hq.symm
  refine ⟨h.gle, (h.st.grown hg (fun k hk => by have := hlt k hk; have := h.ord; omega)).put (p := ⟨tb, 0, none⟩) (by have := h.ord; simp; omega) (by have := h.ord; simp; omega) _, grown_put (grown_under h.gr hg (fun j hj => (hlt j hj).1)) (p := ⟨tb, 0, none⟩) (by have := h.ord; simp; omega) _, r1.far (p := ⟨tb, 0, none⟩) (by have := h.ord; simp; omega) _, (r2.set (k := 0) (by simp) _).cast rfl, ?_, own_putN (p := ⟨tb, 0, none⟩) r3 (fun q hq => (h.apH q hq).2) _, h.ord, fun q hq => by rw [ha q hq]; exact ⟨hgr.1, hgr.2.1⟩, h.apH, fun q hq => by rw [ha q hq]; exact hgr.2.2⟩
  rw [hl, hc]
  exact own_putN (p := ⟨tb, 0, none⟩) ho (fun q hq => by rw [ha q (by rw [hl]; exact hq)]; exact hgr.2.1) _
/-- An append to the hydrants, stored. -/
theorem NwAt.appendH (h : NwAt d w rb tb A c M B e H N wr) {g c' : Nat} {s : Int × Int} (hg : wr.grownBy w' (Value.slice B H.length e).ownBlock) (hw : (Value.slice B H.length e).ownBlock = some g ∨ g = wr.heap.size)
    (ho : w'.ownsRow w.heap.size 73 2 (.slice (some ⟨g, 0, none⟩) (H.length + 1) c') (H.length + 1) (H.flatMap mcells ++ mcells s)) :
    NwAt d w rb tb A c M (some ⟨g, 0, none⟩) c' (H ++ [s]) N (w'.setCell ⟨tb, 1, none⟩ (.slice (some ⟨g, 0, none⟩) (H.length + 1) c')) := by
  have hl : (H ++ [s]).length = H.length + 1 := by simp
  have hc : (H ++ [s]).flatMap mcells = H.flatMap mcells ++ mcells s := by simp
  have hlt : ∀ k, (Value.slice B H.length e).ownBlock = some k → w.heap.size ≤ k ∧ k < wr.heap.size := fun k hk => h.ownH.lt k hk
  obtain ⟨r1, r2, r3⟩ := h.farH hg
  have hgr : g ≠ rb ∧ g ≠ tb ∧ (Value.slice A M.length c).ownBlock ≠ some g := by
    rcases hw with hw | hw
    · exact ⟨(h.apH g hw).1, (h.apH g hw).2, fun e => h.apB g e hw⟩
    · have := h.res.1
      have := h.box.1
      exact ⟨by omega, by omega, fun e => by have := (h.ownM.lt g e).2; omega⟩
  have hbase := h.base
  have hS : w'.setCell ⟨tb, 1, none⟩ (.slice (some ⟨g, 0, none⟩) (H.length + 1) c') = w'.setCell ⟨tb, 1, none⟩ (.slice (some ⟨g, 0, none⟩) (H ++ [s]).length c') := by rw [hl]
  rw [hS]
  have ha : ∀ q, (Value.slice (some ⟨g, 0, none⟩) (H ++ [s]).length c').ownBlock = some q → q = g := fun q hq => by simp [Value.ownBlock] at hq; exact hq.symm
  refine ⟨h.gle, (h.st.grown hg (fun k hk => by have := hlt k hk; have := h.ord; omega)).put (p := ⟨tb, 1, none⟩) (by have := h.ord; simp; omega) (by have := h.ord; simp; omega) _, grown_put (grown_under h.gr hg (fun j hj => (hlt j hj).1)) (p := ⟨tb, 1, none⟩) (by have := h.ord; simp; omega) _, r1.far (p := ⟨tb, 1, none⟩) (by have := h.ord; simp; omega) _, (r2.set (k := 1) (by simp) _).cast rfl, own_putN (p := ⟨tb, 1, none⟩) r3 (fun q hq => (h.apM q hq).2) _, ?_, h.ord, h.apM, fun q hq => by rw [ha q hq]; exact ⟨hgr.1, hgr.2.1⟩, fun q hq e => hgr.2.2 (by rw [← ha q e]; exact hq)⟩
  rw [hl, hc]
  exact own_putN (p := ⟨tb, 1, none⟩) ho (fun q hq => by rw [ha q (by rw [hl]; exact hq)]; exact hgr.2.1) _
/-- A field of one main stored. -/
theorem NwAt.elemM {g : Nat} (h : NwAt d w rb tb (some ⟨g, 0, none⟩) c M B e H N wr) {k : Nat} {u : Value} {L : List (Int × Int)} (hl : L.length = M.length) (hL : L.flatMap mcells = (M.flatMap mcells).set k u) :
    NwAt d w rb tb (some ⟨g, 0, none⟩) c L B e H N (wr.setCell ⟨g, k, none⟩ u) := by
  have hlt := h.ownM.lt g rfl
  have ha := h.apM g rfl
  have ho := (World.ownsRow.stored h.ownM k u).1
  refine ⟨h.gle, h.st.put (p := ⟨g, k, none⟩) (Nat.le_trans h.base hlt.1) (by have := h.ord; simp; omega) _, grown_put h.gr (p := ⟨g, k, none⟩) hlt.1 _, h.res.far (p := ⟨g, k, none⟩) ha.1 _, by rw [hl]; exact h.box.far (p := ⟨g, k, none⟩) ha.2 _, by rw [hl, hL]; exact ho, own_putN (p := ⟨g, k, none⟩) h.ownH (fun q hq e => h.apB g rfl (by rw [← show q = g from e]; exact hq)) _, h.ord, by rw [hl]; exact h.apM, h.apH, by rw [hl]; exact h.apB⟩
/-- What the draw of a net leaves. -/
def DrwNet (d : Drw) (K : Nat) (Pn : List (Int × Int) → List (Int × Int) → Prop) (w : World) (e : Ending) (w' : World) : Prop :=
  (∃ (A : Option Addr) (c : Nat) (M : List (Int × Int)) (B : Option Addr) (k : Nat) (H : List (Int × Int)), e = .returned (.agg #[.slice A M.length c, .slice B H.length k]) ∧ Pn M H ∧ w'.ownsRow w.heap.size 36 2 (.slice A M.length c) M.length (M.flatMap mcells) ∧ w'.ownsRow w.heap.size 73 2 (.slice B H.length k) H.length (H.flatMap mcells) ∧ (∀ q, (Value.slice A M.length c).ownBlock = some q → (Value.slice B H.length k).ownBlock ≠ some q)) ∧ d.st K w' ∧ w.grownBy w' (some d.g)
theorem NwAt.done (h : NwAt d w rb tb A c M B e H N wr) {Pn : List (Int × Int) → List (Int × Int) → Prop} (hp : Pn M H) (hM : N ≤ K) (u0 u1 : Value) : DrwNet d K Pn w (.returned (.agg #[.slice A M.length c, .slice B H.length e])) ((wr.setCell ⟨rb, 0, none⟩ u0).setCell ⟨rb, 1, none⟩ u1) := by
  have h0 : w.heap.size ≤ rb := h.ord.2.1
  have h1 : rb ≠ d.g := by have := h.ord; omega
  have hg := Nat.le_trans h.base h0
  exact ⟨⟨A, c, M, B, e, H, rfl, hp, own_putN (p := ⟨rb, 1, none⟩) (own_putN (p := ⟨rb, 0, none⟩) h.ownM (fun q hq => (h.apM q hq).1) _) (fun q hq => (h.apM q hq).1) _, own_putN (p := ⟨rb, 1, none⟩) (own_putN (p := ⟨rb, 0, none⟩) h.ownH (fun q hq => (h.apH q hq).1) _) (fun q hq => (h.apH q hq).1) _, h.apB⟩,
    ((h.st.more hM).put (p := ⟨rb, 0, none⟩) hg h1 _).put (p := ⟨rb, 1, none⟩) hg h1 _, grown_put (grown_put h.gr (p := ⟨rb, 0, none⟩) h0 _) (p := ⟨rb, 1, none⟩) h0 _⟩
end
end Go.Proofs.YtfcpgpmhjadanaaGreatDoor
namespace Go.Proofs.YtfcpgpmhjadanaaGreatDoor
open Go.RowKit
set_option linter.unusedVariables false

/-- Small numbers. -/
def NS (x : Int × Int) : Prop := (-10 ≤ x.1 ∧ x.1 ≤ 100000) ∧ -10 ≤ x.2 ∧ x.2 ≤ 100000
theorem NS.snoc {l : List (Int × Int)} {s : Int × Int} (h : ∀ x ∈ l, NS x) (hs : NS s) : ∀ x ∈ l ++ [s], NS x := fun x hx => by
  rcases List.mem_append.1 hx with hx | hx
  · exact h x hx
  · rw [List.mem_singleton.1 hx]; exact hs
/-- Mains as a valid net has them. -/
def MN (M : List (Int × Int)) : Prop := ∀ (i : Nat) (x : Int × Int), M[i]? = some x → (i = 0 → x.1 = -1) ∧ (0 < i → 0 ≤ x.1 ∧ x.1 ≤ (i : Int) - 1) ∧ 0 ≤ x.2 ∧ x.2 ≤ 5000
theorem MN.snoc {M : List (Int × Int)} {a b : Int} (h : MN M) (h1 : 1 ≤ M.length) (ha : 0 ≤ a ∧ a < (M.length : Int)) (hb : 0 ≤ b ∧ b ≤ 5000) : MN (M ++ [(a, b)]) := fun i x hx => by
  by_cases hi : i < M.length
  · rw [List.getElem?_append_left hi] at hx
    exact h i x hx
  · have hl := (List.getElem?_eq_some_iff.1 hx).1
    rw [List.length_append, List.length_singleton] at hl
    rw [List.getElem?_append_right (by omega), show i - M.length = 0 by omega] at hx
    simp at hx
    rw [← hx]
    exact ⟨fun h0 => by omega, fun _ => by dsimp only; omega, hb⟩
/-- Hydrants at n mains. -/
def HYN (n : Nat) (H : List (Int × Int)) : Prop := ∀ y ∈ H, (0 ≤ y.1 ∧ y.1 < (n : Int)) ∧ 1 ≤ y.2 ∧ y.2 ≤ 5000
theorem HYN.snoc {n : Nat} {H : List (Int × Int)} {a b : Int} (h : HYN n H) (ha : 0 ≤ a ∧ a < (n : Int)) (hb : 1 ≤ b ∧ b ≤ 5000) : HYN n (H ++ [(a, b)]) := fun y hy => by
  rcases List.mem_append.1 hy with hy | hy
  · exact h y hy
  · rw [List.mem_singleton.1 hy]; exact ⟨ha, hb⟩
theorem net_of {M H : List (Int × Int)} (h1 : 1 ≤ M.length) (h2 : M.length ≤ 10) (h3 : H.length ≤ 10) (hm : MN M) (hh : HYN M.length H) : NetOk M H :=
  ⟨h1, h2, h3, hm, fun i x hx => by have := hh x (List.mem_of_getElem? hx); omega⟩
theorem net_ns {M H : List (Int × Int)} (hk : NetOk M H) : (∀ x ∈ M, NS x) ∧ ∀ x ∈ H, NS x := by
  have h1 := hk.m10
  refine ⟨fun x hx => ?_, fun x hx => ?_⟩
  · obtain ⟨i, hi⟩ := List.mem_iff_getElem?.1 hx
    obtain ⟨a, b, c, d⟩ := hk.main i x hi
    have := (List.getElem?_eq_some_iff.1 hi).1
    unfold NS
    by_cases h0 : i = 0
    · have := a h0; omega
    · have := b (by omega); omega
  · obtain ⟨i, hi⟩ := List.mem_iff_getElem?.1 hx
    have := hk.hyd i x hi
    unfold NS
    omega
theorem own_fresh {w : World} {B : Nat} (hB : B ≤ w.heap.size) (t : TypeId) (u0 u1 : Value) : (w.alloc (.cells #[u0, u1] t)).ownsRow B t 2 (.slice (some ⟨w.heap.size, 0, none⟩) 1 1) 1 [u0, u1] :=
  ⟨rfl, .inr ⟨w.heap.size, 1, _, rfl, hB, by unfold World.alloc; exact Array.getElem?_push_size, Nat.le_refl _, by unfold maxLen; omega, rfl, rfl⟩⟩
theorem infoMainD : (Tryz.prog.info? 36).map (fun i => (i.zero, i.size, i.bytes)) = some (some (.agg #[.int .i64 0, .int .i64 0]), 2, 16) := by kernel_rfl
theorem infoHydD : (Tryz.prog.info? 73).map (fun i => (i.zero, i.size, i.bytes)) = some (some (.agg #[.int .i64 0, .int .i64 0]), 2, 16) := by kernel_rfl
theorem mcells_ones : ∀ (l : List (Int × Int)), ∀ u ∈ l.flatMap mcells, u.oneCell' = true := by
  intro l u hu
  obtain ⟨x, hx, hu⟩ := List.mem_flatMap.1 hu
  simp [mcells] at hu
  rcases hu with rfl | rfl <;> rfl

set_option maxRecDepth 100000 in
set_option maxHeartbeats 16000000 in
theorem net_any (d : Drw) (N : Nat) (w : World) (hd : d.ok) (h : d.st N w) (hN : N ≤ 10000000000) :
    Calls Tryz.prog 43 #[.pointer (some ⟨d.g, 0, none⟩)] w (DrwNet d (N + 400) NetOk w) := by
  have H := hide h
  have HD := hide (show d.g < w.heap.size ∧ d.W0.heap.size ≤ d.g from ⟨h.lt, hd.2.2.2.2⟩)
  obtain ⟨i0, hi0, hz0, hz1, hz2⟩ := info_parts infoMainD
  obtain ⟨j0, hj0, hy0, hy1, hy2⟩ := info_parts infoHydD
  have Hi := hide hi0
  have Hz := hide (And.intro hz0 (And.intro hz1 hz2))
  have Hj := hide hj0
  have Hy := hide (And.intro hy0 (And.intro hy1 hy2))
  clear h hi0 hz0 hz1 hz2 hj0 hy0 hy1 hy2
  go_enter Tryz.func43, Tryz.ntmps43
  go_wp2_with fail
  have HR := hide (Row.new w #[.slice none 0 0, .slice none 0 0] 27)
  refine (among_lit d N [2000, 1000, 3000, 5000, 0] _ _ (by simp) hd (H.out.alloc _) (by omega) (by simp) (by simp)).mono ?_
  rintro e w1 ⟨⟨x, rfl, hx⟩, hs, hg⟩
  replace HR := hide (HR.out.grown hg (fun e => by injection e with e; have := HD.out; omega))
  have HS := hide hs
  have HG := hide (grown_trans (grown_of_below ((Below.refl _ _).alloc (Nat.le_refl _) (.cells #[.slice none 0 0, .slice none 0 0] 27)) _) hg)
  have HX : Hid (0 ≤ x ∧ x ≤ 5000) := hide (by simp at hx; omega)
  clear hs hg hx H
  go_upto_region 2 with fail
  have HT : Hid (NwAt d w w.heap.size (w1.heap.size + 1) (some ⟨w1.heap.size, 0, none⟩) 1 [(-1, x)] none 0 [] (N + 2) ((w1.alloc (.cells #[.int .i64 (-1), .int .i64 x] 36)).alloc (.cells #[.slice (some ⟨w1.heap.size, 0, none⟩) 1 1, .slice none 0 0] 27))) := by
    have e1 : (w1.alloc (.cells #[.int .i64 (-1), .int .i64 x] 36)).heap.size = w1.heap.size + 1 := by simp
    have hr := HR.out.1
    refine hide ⟨HD.out.2, (HS.out.alloc _).alloc _, grown_new (grown_new HG.out _) _, (HR.out.alloc _).alloc _, by rw [← e1]; exact Row.new _ _ _, World.ownsRow.alloc (own_fresh HG.out.size _ _ _) _, World.ownsRow_nil _ _ _ _, ⟨HD.out.1, Nat.le_refl _, by omega⟩, fun q hq => ?_, fun q hq => (by cases hq), fun q _ hq => (by cases hq)⟩
    simp [Value.ownBlock] at hq
    omega
  clear HR HS HG HD
  have HLM : Hid ((1 ≤ ([(-1, x)] : List (Int × Int)).length ∧ ([(-1, x)] : List (Int × Int)).length ≤ 10) ∧ MN [(-1, x)]) := hide ⟨by simp, fun i y hy => by
    cases i with
    | zero =>
      simp at hy
      rw [← hy]
      exact ⟨fun _ => rfl, fun h => by omega, HX.out⟩
    | succ i => simp at hy⟩
  clear HX
  generalize (w1.alloc (.cells #[.int .i64 (-1), .int .i64 x] 36)).alloc (.cells #[.slice (some ⟨w1.heap.size, 0, none⟩) 1 1, .slice none 0 0] 27) = w2 at *
  generalize w1.heap.size + 1 = tb at *
  obtain ⟨rb, hrb⟩ : ∃ rb, rb = w.heap.size := ⟨_, rfl⟩
  rw [← hrb] at HT ⊢
  clear hrb
  generalize (some ⟨w1.heap.size, 0, none⟩ : Option Addr) = A0 at *
  go_wp2_with fail
  refine (pick_any d (N + 2) 6 _ hd HT.out.st (by omega) (by omega)).mono ?_
  rintro e w3 ⟨⟨p, rfl, hp0, hp1, hp2⟩, hs, hg⟩
  replace HT : Hid (NwAt d w rb tb A0 1 [(-1, x)] none 0 [] (N + 4) w3) := hide (HT.out.draw hs hg)
  obtain ⟨q, hq⟩ := Int.eq_ofNat_of_zero_le (show 0 ≤ 1 + p by omega)
  have hq6 : q ≤ 6 := by omega
  have HQ := hide hq
  have hp5 : p ≤ 5 := by omega
  clear hs hg hp1 hp2 hq
  go_wp2_with fail
  rw [HQ.out]
  clear hp0 hp5
  refine (one_any d (N + 4) 12 _ hd HT.out.st (by omega) (by omega)).mono ?_
  rintro e w4 ⟨⟨b, rfl⟩, hs, hg⟩
  replace HT : Hid (NwAt d w rb tb A0 1 [(-1, x)] none 0 [] (N + 6) w4) := hide (HT.out.draw hs hg)
  clear hs hg
  go_upto_if 15 with fail
  go_cut [4] (fun s wx => ∃ mm : Nat, s = .int .i64 (mm : Int) ∧ mm ≤ 10 ∧ Hid (NwAt d w rb tb A0 1 [(-1, x)] none 0 [] (N + 6) wx))
  case first =>
    cases b with
    | false =>
      go_wp2_with fail
      go_meet
      exact ⟨q, rfl, by omega, HT⟩
    | true =>
      go_wp2_with fail
      go_meet
      exact ⟨10, rfl, by omega, HT⟩
  clear HT HQ hq6
  obtain ⟨mm, rfl, hmm, HT⟩ := hcut
  go_upto_region 5 with fail
  go_loopg [] 12 (fun g wr => ∃ (A : Option Addr) (c : Nat) (M : List (Int × Int)), Hid ((1 ≤ M.length ∧ M.length ≤ 10) ∧ MN M) ∧ Hid (11 ≤ g + M.length) ∧ Hid (NwAt d w rb tb A c M none 0 [] (N + 6 + 8 * M.length) wr))
  case atStart => exact ⟨A0, 1, [(-1, x)], HLM, hide (by simp), hide (HT.out.more (by simp))⟩
  case round =>
    clear HT HLM
    obtain ⟨A, c, M, HLM, HGK, HT⟩ := hrel
    have t0 := HT.out.box.2.1 0 _ rfl
    have t1 := HT.out.box.2.1 1 _ rfl
    have tz := HT.out.box.1
    have hM10 : M.length ≤ 10 := HLM.out.1.2
    by_cases hlt : M.length < mm
    · have tg : tb ≠ d.g := by have := HT.out.ord; omega
      go_wp2_with fail
      refine wpAnyX_start (fun w' => ∃ n : LaterX wr d.g, w' = n.w) [14, 16] (n := 17) (by kernel_rfl) rfl rfl ?_
      refine wpAnyX_take [0, 1, 2, 3, 4, 5, 7, 8] 9 rfl (by kernel_rfl) (by intro c a d v w h; cases d <;> exact h) (by kernel_rfl) (by kernel_rfl) (by kernel_rfl) (by simp; rfl) rfl (laterX_drew _ _) ?_
      repeat (go_big_quiet_step (fail))
      refine wpQuiet_nil ?_
      have HG : Hid (wr.grownBy wr.drew (some d.g)) := hide (grown_of_below (Below.refl _ _).drew _)
      replace HT := hide HT.out.drew
      clear t0 t1 tz tg
      generalize wr.drew = V0 at *
      refine wpAnyX_only 6 (by kernel_rfl) (by simp; rfl) rfl rfl (fun K hK => ?_)
      go_wp2_with fail
      refine (pick_any d (N + 6 + 8 * M.length) (M.length : Int) _ hd HT.out.st (by omega) (by omega)).mono ?_
      rintro e V1 ⟨⟨x1, rfl, y0, y1, y2⟩, hs, hg⟩
      have HX1 : Hid (0 ≤ x1 ∧ x1 < (M.length : Int)) := hide ⟨y0, by have := HLM.out.1.1; omega⟩
      replace HT : Hid (NwAt d w rb tb A c M none 0 [] (N + 6 + 8 * M.length + 2) V1) := hide (HT.out.draw hs hg)
      replace HG := hide (grown_trans HG.out hg)
      clear hs hg y0 y1 y2
      go_wp2_with fail
      refine ⟨laterX_of HG.out, ?_⟩
      refine wpAnyX_only 9 (by kernel_rfl) (by simp; rfl) rfl rfl (fun K hK => ?_)
      go_wp2_with fail
      refine (pick_any d (N + 6 + 8 * M.length + 2) 2000 _ hd HT.out.st (by omega) (by omega)).mono ?_
      rintro e V2 ⟨⟨x2, rfl, y0, y1, y2⟩, hs, hg⟩
      have HX2 : Hid (0 ≤ x2 ∧ x2 < 2000) := hide ⟨y0, by omega⟩
      replace HT : Hid (NwAt d w rb tb A c M none 0 [] (N + 6 + 8 * M.length + 4) V2) := hide (HT.out.draw hs hg)
      replace HG := hide (grown_trans HG.out hg)
      clear hs hg y0 y1 y2
      go_wp2_with fail
      refine ⟨laterX_of HG.out, ?_⟩
      refine wpAnyX_only 10 (by kernel_rfl) (by simp; rfl) rfl rfl (fun K hK => ?_)
      have HB := hide (Row.new V2 #[.int .i64 500, .int .i64 900, .int .i64 1500, .int .i64 2000, .int .i64 0, .int .i64 x2] 3)
      have HBG : Hid (V2.heap.size ≠ d.g) := hide (by have := HT.out.st.lt; omega)
      replace HT := hide (HT.out.alloc (.cells #[.int .i64 500, .int .i64 900, .int .i64 1500, .int .i64 2000, .int .i64 0, .int .i64 x2] 3))
      replace HG := hide (grown_new HG.out (.cells #[.int .i64 500, .int .i64 900, .int .i64 1500, .int .i64 2000, .int .i64 0, .int .i64 x2] 3))
      refine wp_ints6 500 900 1500 2000 0 x2 (.const (.int .i64 500)) (.const (.int .i64 900)) (.const (.int .i64 1500)) (.const (.int .i64 2000)) (.const (.int .i64 0)) (.tmp 30) rfl rfl rfl rfl rfl rfl rfl (hK _ _ ⟨laterX_of HG.out, ?_⟩)
      simp only [Act.put, List.setIfInBounds_toArray, List.set_cons_succ, List.set_cons_zero]
      generalize V2.alloc (.cells #[.int .i64 500, .int .i64 900, .int .i64 1500, .int .i64 2000, .int .i64 0, .int .i64 x2] 3) = V3 at *
      generalize V2.heap.size = lb at *
      refine wpAnyX_only 11 (by kernel_rfl) (by simp; rfl) rfl rfl (fun K hK => ?_)
      go_wp2_with fail
      refine (among_any d (N + 6 + 8 * M.length + 4) (some ⟨lb, 0, none⟩) 6 6 [500, 900, 1500, 2000, 0, x2] _ hd HT.out.st (by omega) rfl (by omega) (by omega) (by exact HB.out.rd) (fun b o sp e => by injection e with e; injection e with e; have := HBG.out; omega)).mono ?_
      rintro e V4 ⟨⟨z, rfl, hz⟩, hs, hg⟩
      have HNS : Hid (0 ≤ z ∧ z ≤ 5000) := hide (by have h2 := HX2.out; simp at hz; omega)
      clear HB HBG hz HX2
      replace HT : Hid (NwAt d w rb tb A c M none 0 [] (N + 6 + 8 * M.length + 6) V4) := hide (HT.out.draw hs hg)
      replace HG := hide (grown_trans HG.out hg)
      clear hs hg
      go_wp2_with fail
      refine ⟨laterX_of HG.out, ?_⟩
      refine wpAnyX_take [12] 4 rfl (by kernel_rfl) (by intro c a d v w h; cases d <;> exact h) (by kernel_rfl) (by kernel_rfl) (by kernel_rfl) (by simp; rfl) rfl (laterX_of HG.out) ?_
      repeat (go_big_quiet_step (fail))
      refine wpQuiet_nil ?_
      refine wpAnyX_only 13 (by kernel_rfl) (by simp; rfl) rfl rfl (fun K hK => ?_)
      go_wp2_with fail
      have HS := hide (Row.new V4 #[.int .i64 x1, .int .i64 z] 36)
      replace HT := hide (HT.out.alloc (.cells #[.int .i64 x1, .int .i64 z] 36))
      replace HG := hide (grown_new HG.out (.cells #[.int .i64 x1, .int .i64 z] 36))
      refine ⟨laterX_of HG.out, ?_⟩
      generalize V4.alloc (.cells #[.int .i64 x1, .int .i64 z] 36) = V5 at *
      generalize V4.heap.size = sb at *
      refine wpAnyX_last 14 (by kernel_rfl) (by simp; rfl) rfl rfl (by kernel_rfl) (fun K hK => ?_)
      have hml : maxLen = 9223372036854775807 := rfl
      refine wp_append_lies _ (.tmp 22) (.tmp 34) 24 rfl w.heap.size 36 i0 _ 2 16 Tryz.underlying24 Hi.out Hz.out.1 Hz.out.2.1 Hz.out.2.2 rfl (by decide) (.slice A M.length c) M.length (M.flatMap mcells) rfl HT.out.ownM ⟨sb, 0, none⟩ 1 1 (mcells (x1, z)) rfl rfl (fun j u hu => by rw [Addr.add_lit, Nat.zero_add]; exact HS.out.2.1 j u hu) (fun u hu => mcells_ones [(x1, z)] u (by simpa using hu)) (by omega) (by omega) (by omega) HT.out.gr.size V5.heap.size rfl (fun g' cap' V9 ho' hg' hw' hlt' => ?_)
      have HF := hide (HT.out.farM hg')
      have HT9 := hide (HT.out.appendM hg' hw' ho')
      clear HS hml hg' hw' ho' hlt' HG
      refine hK _ _ ?_
      simp only [Act.put, List.setIfInBounds_toArray, List.set_cons_succ, List.set_cons_zero]
      refine wpAnyX_last 15 (by kernel_rfl) (by simp; rfl) rfl rfl (by kernel_rfl) (fun K hK => ?_)
      go_wp2_with fail
      refine wpAnyX_last 16 (by kernel_rfl) (by simp; rfl) rfl rfl (by kernel_rfl) (fun K hK => ?_)
      have t0 := HF.out.2.1.2.1 0 _ rfl
      have t1 := HF.out.2.1.2.1 1 _ rfl
      have f0 := HF.out.2.1.free 0
      have tz := HF.out.2.1.1
      go_wp2_with fail
      refine wpAnyX_done (by kernel_rfl) ?_ _
      clear t0 t1 f0 tz HF
      replace HT := HT9
      clear HT9
      have HLN : Hid ((1 ≤ (M ++ [(x1, z)]).length ∧ (M ++ [(x1, z)]).length ≤ 10) ∧ MN (M ++ [(x1, z)])) := hide ⟨by simp; omega, HLM.out.2.snoc HLM.out.1.1 HX1.out HNS.out⟩
      have HLL := hide (show (M ++ [(x1, z)]).length = M.length + 1 by simp)
      generalize V9.setCell ⟨tb, 0, none⟩ (.slice (some ⟨g', 0, none⟩) (M.length + 1) cap') = W9 at *
      generalize M ++ [(x1, z)] = LL at *
      go_wp2_with fail
      go_roundg (gk - 1)
      case rel => exact ⟨some ⟨g', 0, none⟩, cap', LL, HLN, hide (by have := HGK.out; have := HLL.out; omega), hide (HT.out.more (by have := HLL.out; omega))⟩
      case measure => have := HGK.out; omega
    · have hlf : ((M.length : Int) < (mm : Int)) = False := by simp; omega
      clear HGK
      go_wp2_with fail
      replace HT : Hid (NwAt d w rb tb A c M none 0 [] (N + 100) wr) := hide (HT.out.more (by omega))
      clear t0 t1 tz hlf hlt
      refine (pick_any d (N + 100) 6 _ hd HT.out.st (by omega) (by omega)).mono ?_
      rintro e w5 ⟨⟨p2, rfl, hp0, hp1, hp2⟩, hs, hg⟩
      replace HT : Hid (NwAt d w rb tb A c M none 0 [] (N + 102) w5) := hide (HT.out.draw hs hg)
      obtain ⟨q2, rfl⟩ := Int.eq_ofNat_of_zero_le hp0
      have hq5 : q2 ≤ 5 := by omega
      clear hs hg hp0 hp1 hp2 hmm
      go_wp2_with fail
      refine (one_any d (N + 102) 12 _ hd HT.out.st (by omega) (by omega)).mono ?_
      rintro e w6 ⟨⟨b2, rfl⟩, hs, hg⟩
      replace HT : Hid (NwAt d w rb tb A c M none 0 [] (N + 104) w6) := hide (HT.out.draw hs hg)
      clear hs hg
      go_upto_if 40 with fail
      go_cut [4] (fun s wx => ∃ mm : Nat, s = .int .i64 (mm : Int) ∧ mm ≤ 10 ∧ Hid (NwAt d w rb tb A c M none 0 [] (N + 104) wx))
      case first =>
        cases b2 with
        | false =>
          go_wp2_with fail
          go_meet
          exact ⟨q2, rfl, by omega, HT⟩
        | true =>
          go_wp2_with fail
          go_meet
          exact ⟨10, rfl, by omega, HT⟩
      clear HT hq5
      obtain ⟨m2, rfl, hm2, HT⟩ := hcut
      go_upto_region 10 with fail
      go_loopg [] 12 (fun g wr => ∃ (B : Option Addr) (e0 : Nat) (H : List (Int × Int)), Hid (H.length ≤ 10 ∧ HYN M.length H) ∧ Hid (11 ≤ g + H.length) ∧ Hid (NwAt d w rb tb A c M B e0 H (N + 104 + 4 * H.length) wr))
      case atStart => exact ⟨none, 0, [], hide ⟨by simp, fun y hy => by simp at hy⟩, hide (by simp), hide (HT.out.more (by simp))⟩
      case round =>
        clear HT
        obtain ⟨B, e0, H, HLH, HGK, HT⟩ := hrel
        have t0 := HT.out.box.2.1 0 _ rfl
        have t1 := HT.out.box.2.1 1 _ rfl
        have tz := HT.out.box.1
        have hH10 : H.length ≤ 10 := HLH.out.1
        by_cases hlt : H.length < m2
        · have tg : tb ≠ d.g := by have := HT.out.ord; omega
          go_wp2_with fail
          refine wpAnyX_start (fun w' => ∃ n : LaterX wr d.g, w' = n.w) [12, 14] (n := 15) (by kernel_rfl) rfl rfl ?_
          refine wpAnyX_take [0, 1, 2, 3, 4, 5, 7] 8 rfl (by kernel_rfl) (by intro c a d v w h; cases d <;> exact h) (by kernel_rfl) (by kernel_rfl) (by kernel_rfl) (by simp; rfl) rfl (laterX_drew _ _) ?_
          repeat (go_big_quiet_step (fail))
          refine wpQuiet_nil ?_
          have HG : Hid (wr.grownBy wr.drew (some d.g)) := hide (grown_of_below (Below.refl _ _).drew _)
          replace HT := hide HT.out.drew
          clear t0 t1 tz tg
          generalize wr.drew = V0 at *
          refine wpAnyX_two 6 8 (by kernel_rfl) (by simp; rfl) (by simp; rfl) rfl rfl rfl rfl (fun K hK => ?_) (fun K hK => ?_)
          · go_wp2_with fail
            refine (pick_any d (N + 104 + 4 * H.length) (M.length : Int) _ hd HT.out.st (by omega) (by omega)).mono ?_
            rintro e V1 ⟨⟨x1, rfl, y0, y1, y2⟩, hs, hg⟩
            have HX1 : Hid (0 ≤ x1 ∧ x1 < (M.length : Int)) := hide ⟨y0, by have := HLM.out.1.1; omega⟩
            replace HT : Hid (NwAt d w rb tb A c M B e0 H (N + 104 + 4 * H.length + 2) V1) := hide (HT.out.draw hs hg)
            replace HG := hide (grown_trans HG.out hg)
            clear hs hg y0 y1 y2
            go_wp2_with fail
            refine ⟨laterX_of HG.out, ?_⟩
            refine wpAnyX_only 8 (by kernel_rfl) (by simp; rfl) rfl rfl (fun K hK => ?_)
            have HB := hide (Row.new V1 #[.int .i64 300, .int .i64 800, .int .i64 1000, .int .i64 1200, .int .i64 1, .int .i64 5000] 3)
            have HBG : Hid (V1.heap.size ≠ d.g) := hide (by have := HT.out.st.lt; omega)
            replace HT := hide (HT.out.alloc (.cells #[.int .i64 300, .int .i64 800, .int .i64 1000, .int .i64 1200, .int .i64 1, .int .i64 5000] 3))
            replace HG := hide (grown_new HG.out (.cells #[.int .i64 300, .int .i64 800, .int .i64 1000, .int .i64 1200, .int .i64 1, .int .i64 5000] 3))
            refine wp_ints6 300 800 1000 1200 1 5000 (.const (.int .i64 300)) (.const (.int .i64 800)) (.const (.int .i64 1000)) (.const (.int .i64 1200)) (.const (.int .i64 1)) (.const (.int .i64 5000)) rfl rfl rfl rfl rfl rfl rfl (hK _ _ ⟨laterX_of HG.out, ?_⟩)
            simp only [Act.put, List.setIfInBounds_toArray, List.set_cons_succ, List.set_cons_zero]
            generalize V1.alloc (.cells #[.int .i64 300, .int .i64 800, .int .i64 1000, .int .i64 1200, .int .i64 1, .int .i64 5000] 3) = V3 at *
            generalize V1.heap.size = lb at *
            refine wpAnyX_only 9 (by kernel_rfl) (by simp; rfl) rfl rfl (fun K hK => ?_)
            go_wp2_with fail
            refine (among_any d (N + 104 + 4 * H.length + 2) (some ⟨lb, 0, none⟩) 6 6 [300, 800, 1000, 1200, 1, 5000] _ hd HT.out.st (by omega) rfl (by omega) (by omega) (by exact HB.out.rd) (fun b o sp e => by injection e with e; injection e with e; have := HBG.out; omega)).mono ?_
            rintro e V4 ⟨⟨z, rfl, hz⟩, hs, hg⟩
            have HNS : Hid (1 ≤ z ∧ z ≤ 5000) := hide (by simp at hz; omega)
            clear HB HBG hz
            replace HT : Hid (NwAt d w rb tb A c M B e0 H (N + 104 + 4 * H.length + 4) V4) := hide (HT.out.draw hs hg)
            replace HG := hide (grown_trans HG.out hg)
            clear hs hg
            go_wp2_with fail
            refine ⟨laterX_of HG.out, ?_⟩
            refine wpAnyX_take [10] 4 rfl (by kernel_rfl) (by intro c a d v w h; cases d <;> exact h) (by kernel_rfl) (by kernel_rfl) (by kernel_rfl) (by simp; rfl) rfl (laterX_of HG.out) ?_
            repeat (go_big_quiet_step (fail))
            refine wpQuiet_nil ?_
            refine wpAnyX_only 11 (by kernel_rfl) (by simp; rfl) rfl rfl (fun K hK => ?_)
            go_wp2_with fail
            have HS := hide (Row.new V4 #[.int .i64 x1, .int .i64 z] 73)
            replace HT := hide (HT.out.alloc (.cells #[.int .i64 x1, .int .i64 z] 73))
            replace HG := hide (grown_new HG.out (.cells #[.int .i64 x1, .int .i64 z] 73))
            refine ⟨laterX_of HG.out, ?_⟩
            generalize V4.alloc (.cells #[.int .i64 x1, .int .i64 z] 73) = V5 at *
            generalize V4.heap.size = sb at *
            refine wpAnyX_last 12 (by kernel_rfl) (by simp; rfl) rfl rfl (by kernel_rfl) (fun K hK => ?_)
            have hml : maxLen = 9223372036854775807 := rfl
            refine wp_append_lies _ (.tmp 47) (.tmp 57) 25 rfl w.heap.size 73 j0 _ 2 16 Tryz.underlying25 Hj.out Hy.out.1 Hy.out.2.1 Hy.out.2.2 rfl (by decide) (.slice B H.length e0) H.length (H.flatMap mcells) rfl HT.out.ownH ⟨sb, 0, none⟩ 1 1 (mcells (x1, z)) rfl rfl (fun j u hu => by rw [Addr.add_lit, Nat.zero_add]; exact HS.out.2.1 j u hu) (fun u hu => mcells_ones [(x1, z)] u (by simpa using hu)) (by omega) (by omega) (by omega) HT.out.gr.size V5.heap.size rfl (fun g' cap' V9 ho' hg' hw' hlt' => ?_)
            have HF := hide (HT.out.farH hg')
            have HT9 := hide (HT.out.appendH hg' hw' ho')
            clear HS hml hg' hw' ho' hlt' HG
            refine hK _ _ ?_
            simp only [Act.put, List.setIfInBounds_toArray, List.set_cons_succ, List.set_cons_zero]
            refine wpAnyX_last 13 (by kernel_rfl) (by simp; rfl) rfl rfl (by kernel_rfl) (fun K hK => ?_)
            go_wp2_with fail
            refine wpAnyX_last 14 (by kernel_rfl) (by simp; rfl) rfl rfl (by kernel_rfl) (fun K hK => ?_)
            have t0 := HF.out.2.1.2.1 0 _ rfl
            have t1 := HF.out.2.1.2.1 1 _ rfl
            have f1 := HF.out.2.1.free 1
            have tz := HF.out.2.1.1
            go_wp2_with fail
            refine wpAnyX_done (by kernel_rfl) ?_ _
            clear t0 t1 f1 tz HF
            replace HT := HT9
            clear HT9
            have HLN : Hid ((H ++ [(x1, z)]).length ≤ 10 ∧ HYN M.length (H ++ [(x1, z)])) := hide ⟨by simp; omega, HLH.out.2.snoc HX1.out HNS.out⟩
            have HLL := hide (show (H ++ [(x1, z)]).length = H.length + 1 by simp)
            generalize V9.setCell ⟨tb, 1, none⟩ (.slice (some ⟨g', 0, none⟩) (H.length + 1) cap') = W9 at *
            generalize H ++ [(x1, z)] = LL at *
            go_wp2_with fail
            go_roundg (gk - 1)
            case rel => exact ⟨some ⟨g', 0, none⟩, cap', LL, HLN, hide (by have := HGK.out; have := HLL.out; omega), hide (HT.out.more (by have := HLL.out; omega))⟩
            case measure => have := HGK.out; omega
          · have HB := hide (Row.new V0 #[.int .i64 300, .int .i64 800, .int .i64 1000, .int .i64 1200, .int .i64 1, .int .i64 5000] 3)
            have HBG : Hid (V0.heap.size ≠ d.g) := hide (by have := HT.out.st.lt; omega)
            replace HT := hide (HT.out.alloc (.cells #[.int .i64 300, .int .i64 800, .int .i64 1000, .int .i64 1200, .int .i64 1, .int .i64 5000] 3))
            replace HG := hide (grown_new HG.out (.cells #[.int .i64 300, .int .i64 800, .int .i64 1000, .int .i64 1200, .int .i64 1, .int .i64 5000] 3))
            refine wp_ints6 300 800 1000 1200 1 5000 (.const (.int .i64 300)) (.const (.int .i64 800)) (.const (.int .i64 1000)) (.const (.int .i64 1200)) (.const (.int .i64 1)) (.const (.int .i64 5000)) rfl rfl rfl rfl rfl rfl rfl (hK _ _ ⟨laterX_of HG.out, ?_⟩)
            simp only [Act.put, List.setIfInBounds_toArray, List.set_cons_succ, List.set_cons_zero]
            generalize V0.alloc (.cells #[.int .i64 300, .int .i64 800, .int .i64 1000, .int .i64 1200, .int .i64 1, .int .i64 5000] 3) = V1 at *
            generalize V0.heap.size = lb at *
            refine wpAnyX_only 6 (by kernel_rfl) (by simp; rfl) rfl rfl (fun K hK => ?_)
            go_wp2_with fail
            refine (pick_any d (N + 104 + 4 * H.length) (M.length : Int) _ hd HT.out.st (by omega) (by omega)).mono ?_
            rintro e V3 ⟨⟨x1, rfl, y0, y1, y2⟩, hs, hg⟩
            have HX1 : Hid (0 ≤ x1 ∧ x1 < (M.length : Int)) := hide ⟨y0, by have := HLM.out.1.1; omega⟩
            replace HB := hide (HB.out.grown hg (fun e => by injection e with e; have := HBG.out; omega))
            replace HT : Hid (NwAt d w rb tb A c M B e0 H (N + 104 + 4 * H.length + 2) V3) := hide (HT.out.draw hs hg)
            replace HG := hide (grown_trans HG.out hg)
            clear hs hg y0 y1 y2
            go_wp2_with fail
            refine ⟨laterX_of HG.out, ?_⟩
            refine wpAnyX_only 9 (by kernel_rfl) (by simp; rfl) rfl rfl (fun K hK => ?_)
            go_wp2_with fail
            refine (among_any d (N + 104 + 4 * H.length + 2) (some ⟨lb, 0, none⟩) 6 6 [300, 800, 1000, 1200, 1, 5000] _ hd HT.out.st (by omega) rfl (by omega) (by omega) (by exact HB.out.rd) (fun b o sp e => by injection e with e; injection e with e; have := HBG.out; omega)).mono ?_
            rintro e V4 ⟨⟨z, rfl, hz⟩, hs, hg⟩
            have HNS : Hid (1 ≤ z ∧ z ≤ 5000) := hide (by simp at hz; omega)
            clear HB HBG hz
            replace HT : Hid (NwAt d w rb tb A c M B e0 H (N + 104 + 4 * H.length + 4) V4) := hide (HT.out.draw hs hg)
            replace HG := hide (grown_trans HG.out hg)
            clear hs hg
            go_wp2_with fail
            refine ⟨laterX_of HG.out, ?_⟩
            refine wpAnyX_take [10] 4 rfl (by kernel_rfl) (by intro c a d v w h; cases d <;> exact h) (by kernel_rfl) (by kernel_rfl) (by kernel_rfl) (by simp; rfl) rfl (laterX_of HG.out) ?_
            repeat (go_big_quiet_step (fail))
            refine wpQuiet_nil ?_
            refine wpAnyX_only 11 (by kernel_rfl) (by simp; rfl) rfl rfl (fun K hK => ?_)
            go_wp2_with fail
            have HS := hide (Row.new V4 #[.int .i64 x1, .int .i64 z] 73)
            replace HT := hide (HT.out.alloc (.cells #[.int .i64 x1, .int .i64 z] 73))
            replace HG := hide (grown_new HG.out (.cells #[.int .i64 x1, .int .i64 z] 73))
            refine ⟨laterX_of HG.out, ?_⟩
            generalize V4.alloc (.cells #[.int .i64 x1, .int .i64 z] 73) = V5 at *
            generalize V4.heap.size = sb at *
            refine wpAnyX_last 12 (by kernel_rfl) (by simp; rfl) rfl rfl (by kernel_rfl) (fun K hK => ?_)
            have hml : maxLen = 9223372036854775807 := rfl
            refine wp_append_lies _ (.tmp 47) (.tmp 57) 25 rfl w.heap.size 73 j0 _ 2 16 Tryz.underlying25 Hj.out Hy.out.1 Hy.out.2.1 Hy.out.2.2 rfl (by decide) (.slice B H.length e0) H.length (H.flatMap mcells) rfl HT.out.ownH ⟨sb, 0, none⟩ 1 1 (mcells (x1, z)) rfl rfl (fun j u hu => by rw [Addr.add_lit, Nat.zero_add]; exact HS.out.2.1 j u hu) (fun u hu => mcells_ones [(x1, z)] u (by simpa using hu)) (by omega) (by omega) (by omega) HT.out.gr.size V5.heap.size rfl (fun g' cap' V9 ho' hg' hw' hlt' => ?_)
            have HF := hide (HT.out.farH hg')
            have HT9 := hide (HT.out.appendH hg' hw' ho')
            clear HS hml hg' hw' ho' hlt' HG
            refine hK _ _ ?_
            simp only [Act.put, List.setIfInBounds_toArray, List.set_cons_succ, List.set_cons_zero]
            refine wpAnyX_last 13 (by kernel_rfl) (by simp; rfl) rfl rfl (by kernel_rfl) (fun K hK => ?_)
            go_wp2_with fail
            refine wpAnyX_last 14 (by kernel_rfl) (by simp; rfl) rfl rfl (by kernel_rfl) (fun K hK => ?_)
            have t0 := HF.out.2.1.2.1 0 _ rfl
            have t1 := HF.out.2.1.2.1 1 _ rfl
            have f1 := HF.out.2.1.free 1
            have tz := HF.out.2.1.1
            go_wp2_with fail
            refine wpAnyX_done (by kernel_rfl) ?_ _
            clear t0 t1 f1 tz HF
            replace HT := HT9
            clear HT9
            have HLN : Hid ((H ++ [(x1, z)]).length ≤ 10 ∧ HYN M.length (H ++ [(x1, z)])) := hide ⟨by simp; omega, HLH.out.2.snoc HX1.out HNS.out⟩
            have HLL := hide (show (H ++ [(x1, z)]).length = H.length + 1 by simp)
            generalize V9.setCell ⟨tb, 1, none⟩ (.slice (some ⟨g', 0, none⟩) (H.length + 1) cap') = W9 at *
            generalize H ++ [(x1, z)] = LL at *
            go_wp2_with fail
            go_roundg (gk - 1)
            case rel => exact ⟨some ⟨g', 0, none⟩, cap', LL, HLN, hide (by have := HGK.out; have := HLL.out; omega), hide (HT.out.more (by have := HLL.out; omega))⟩
            case measure => have := HGK.out; omega
        · have hlf : ((H.length : Int) < (m2 : Int)) = False := by simp; omega
          have r0 := HT.out.res.2.1 0 _ rfl
          have r1 := HT.out.res.2.1 1 _ rfl
          have q0 := HT.out.res.free 0
          have q1 := HT.out.res.free 1
          have g0 := HT.out.box.free 0
          have g1 := HT.out.box.free 1
          have rz := HT.out.res.1
          have n1 : tb ≠ rb := by have := HT.out.ord; omega
          have n2 : rb ≠ tb := Ne.symm n1
          go_wp2
          exact bodyPost_ret (v := .agg #[.slice A M.length c, .slice B H.length e0]) (by simp [results, Tryz.results43, go_sem, *]) rfl (HT.out.done (net_of HLM.out.1.1 HLM.out.1.2 HLH.out.1 HLM.out.2 HLH.out.2) (by omega) _ _)
end Go.Proofs.YtfcpgpmhjadanaaGreatDoor
namespace Go.Proofs.YtfcpgpmhjadanaaGreatDoor
open Go.RowKit
set_option linter.unusedVariables false

theorem run_ints2 (a b : Int) (w : World) : (Instr.buildSlice 28 2 #[(0, .int .i64 a), (1, .int .i64 b)]).run Tryz.prog w = .ok (.slice (some ⟨w.heap.size, 0, none⟩) 2 2) (w.alloc (.cells #[.int .i64 a, .int .i64 b] 3)) := by kernel_rfl
theorem wp_ints2 {Q : Exit → Act → World → Prop} {o : Oper} {ac : Act} {w : World} {K : Act → World → Prop} (a b : Int) (x0 x1 : Operand) (ho : o.op = .buildSlice 28 2 #[(0, x0), (1, x1)]) (e0 : ac.eval x0 = .int .i64 a) (e1 : ac.eval x1 = .int .i64 b) (h : K (ac.put o.dst (.slice (some ⟨w.heap.size, 0, none⟩) 2 2)) (w.alloc (.cells #[.int .i64 a, .int .i64 b] 3))) : Oper.wp Tryz.prog o ac w K Q := by
  refine wp_of_run ?_ h
  have := run_ints2 a b w
  unfold execOp
  simp only [ho, List.map_toArray, List.map_cons, List.map_nil, e0, e1, Sem.run_bind, this, Result.andThen_ok, Sem.run_pure]
/-- What a drawn net is like: at most eleven of each, small numbers. -/
def AnyNet (M H : List (Int × Int)) : Prop := (M.length ≤ 11 ∧ H.length ≤ 11) ∧ (∀ x ∈ M, NS x) ∧ ∀ x ∈ H, NS x
theorem NwAt.first {d : Drw} {w wr : World} {rb tb c e N : Nat} {A B : Option Addr} {M H : List (Int × Int)} (h : NwAt d w rb tb A c M B e H N wr) (hm : 1 ≤ M.length) : ∃ g, A = some ⟨g, 0, none⟩ ∧ g ≠ d.g := by
  obtain ⟨A', cap, hv, hr, hn, hc, h0, h1⟩ := own_open h.ownM
  simp only [Value.slice.injEq, true_and] at hv
  obtain ⟨rfl, rfl⟩ := hv
  cases A with
  | none => have := (h0 rfl).1; omega
  | some ad =>
    obtain ⟨b, off, sp⟩ := ad
    obtain ⟨rfl, rfl, -⟩ := h1 b off sp rfl
    refine ⟨b, rfl, ?_⟩
    have := (h.ownM.lt b rfl).1
    have := h.ord.1
    omega

set_option maxRecDepth 100000 in
set_option maxHeartbeats 16000000 in
theorem anyNet_any (d : Drw) (N : Nat) (w : World) (hd : d.ok) (h : d.st N w) (hN : N ≤ 1000000000) :
    Calls Tryz.prog 26 #[.pointer (some ⟨d.g, 0, none⟩)] w (DrwNet d (N + 500) AnyNet w) := by
  have H := hide h
  have HD := hide (show d.g < w.heap.size ∧ d.W0.heap.size ≤ d.g from ⟨h.lt, hd.2.2.2.2⟩)
  obtain ⟨i0, hi0, hz0, hz1, hz2⟩ := info_parts infoMainD
  obtain ⟨j0, hj0, hy0, hy1, hy2⟩ := info_parts infoHydD
  have Hi := hide hi0
  have Hz := hide (And.intro hz0 (And.intro hz1 hz2))
  have Hj := hide hj0
  have Hy := hide (And.intro hy0 (And.intro hy1 hy2))
  clear h hi0 hz0 hz1 hz2 hj0 hy0 hy1 hy2
  go_enter Tryz.func26, Tryz.ntmps26
  go_wp2_with fail
  have HR := hide (Row.new w #[.slice none 0 0, .slice none 0 0] 27)
  refine (net_any d N _ hd (H.out.alloc _) (by omega)).mono ?_
  rintro e w1 ⟨⟨A, c, M, B, e0, H, rfl, hk, hoM, hoH, hap⟩, hs, hg⟩
  have HL : Hid ((1 ≤ M.length ∧ M.length ≤ 10 ∧ H.length ≤ 10) ∧ (∀ x ∈ M, NS x) ∧ ∀ x ∈ H, NS x) := hide ⟨⟨hk.m1, hk.m10, hk.h10⟩, (net_ns hk).1, (net_ns hk).2⟩
  have HG := hide (grown_trans (grown_of_below ((Below.refl _ _).alloc (Nat.le_refl _) (.cells #[.slice none 0 0, .slice none 0 0] 27)) _) hg)
  replace HR := hide (HR.out.grown hg (fun e => by injection e with e; have := HD.out; omega))
  go_upto_region 2 with fail
  have e2 : (w.alloc (.cells #[.slice none 0 0, .slice none 0 0] 27)).heap.size = w.heap.size + 1 := by simp
  have HT : Hid (NwAt d w w.heap.size w1.heap.size A c M B e0 H (N + 400) (w1.alloc (.cells #[.slice A M.length c, .slice B H.length e0] 27))) := hide ⟨HD.out.2, hs.alloc _, grown_new HG.out _, HR.out.alloc _, Row.new _ _ _, World.ownsRow.alloc (own_le hoM (by simp)) _, World.ownsRow.alloc (own_le hoH (by simp)) _, ⟨HD.out.1, Nat.le_refl _, HR.out.1⟩,
    fun q hq => (by have h1 := hoM.lt q hq; rw [e2] at h1; exact ⟨by omega, by omega⟩), fun q hq => (by have h1 := hoH.lt q hq; rw [e2] at h1; exact ⟨by omega, by omega⟩), hap⟩
  clear HR HG HD hs hg hoM hoH hap hk e2
  generalize w1.alloc (.cells #[.slice A M.length c, .slice B H.length e0] 27) = w2 at *
  generalize w1.heap.size = tb at *
  obtain ⟨rb, hrb⟩ : ∃ rb, rb = w.heap.size := ⟨_, rfl⟩
  rw [← hrb] at HT ⊢
  clear hrb
  go_wp2_with fail
  refine (pick_any d (N + 400) 40 _ hd HT.out.st (by omega) (by omega)).mono ?_
  rintro e w4 ⟨⟨p, rfl, hp0, hp1, hp2⟩, hs, hg⟩
  replace HT : Hid (NwAt d w rb tb A c M B e0 H (N + 402) w4) := hide (HT.out.draw hs hg)
  clear hs hg hp0 hp1 hp2
  go_upto_block 0 with fail
  go_cut [] (fun wx => ∃ (A : Option Addr) (c : Nat) (M : List (Int × Int)) (B : Option Addr) (e0 : Nat) (H : List (Int × Int)), Hid (AnyNet M H) ∧ Hid (NwAt d w rb tb A c M B e0 H (N + 450) wx))
  case first => as_aux_lemma =>
    by_cases h0 : p = 0
    · as_aux_lemma =>
      have hp : (p == 0) = true := by simpa using h0
      clear h0
      obtain ⟨g, rfl, hgd⟩ := HT.out.first HL.out.1.1
      have hm1 := HL.out.1.1
      have hm10 := HL.out.1.2.1
      have t0 := HT.out.box.2.1 0 _ rfl
      have t1 := HT.out.box.2.1 1 _ rfl
      have tz := HT.out.box.1
      have tg : tb ≠ d.g := by have := HT.out.ord; omega
      have hi0 : (0 : Int) < (M.length : Int) := by omega
      have hi1 : (0 : Int) ≤ (M.length : Int) - 1 := by omega
      have hi2 : (M.length : Int) - 1 < (M.length : Int) := by omega
      have hi3 : ((M.length : Int) - 1).toNat = M.length - 1 := by omega
      have hi4 : IntKind.i64.wrap ((M.length : Int) - 1) = (M.length : Int) - 1 := IntWalk.i64_in _ (by omega)
      go_wp2_with fail
      refine wpAnyX_start (fun w' => ∃ n : LaterX w4 d.g, w' = n.w) [7] (n := 8) (by kernel_rfl) rfl rfl ?_
      refine wpAnyX_take [0, 1, 2] 5 rfl (by kernel_rfl) (by intro c a d v w h; cases d <;> exact h) (by kernel_rfl) (by kernel_rfl) (by kernel_rfl) (by simp; rfl) rfl (laterX_drew _ _) ?_
      repeat (go_big_quiet_step (fail))
      refine wpQuiet_nil ?_
      have HG : Hid (w4.grownBy w4.drew (some d.g)) := hide (grown_of_below (Below.refl _ _).drew _)
      replace HT := hide HT.out.drew
      clear t0 t1 tz tg
      generalize w4.drew = V0 at *
      refine wpAnyX_only 3 (by kernel_rfl) (by simp; rfl) rfl rfl (fun K hK => ?_)
      have HB := hide (Row.new V0 #[.int .i64 (0), .int .i64 (-2)] 3)
      have HBG : Hid (V0.heap.size ≠ d.g) := hide (by have := HT.out.st.lt; omega)
      replace HT := hide (HT.out.alloc (.cells #[.int .i64 (0), .int .i64 (-2)] 3))
      replace HG := hide (grown_new HG.out (.cells #[.int .i64 (0), .int .i64 (-2)] 3))
      refine wp_ints2 (0) (-2) (.const (.int .i64 (0))) (.const (.int .i64 (-2))) rfl rfl rfl (hK _ _ ⟨laterX_of HG.out, ?_⟩)
      simp only [Act.put, List.setIfInBounds_toArray, List.set_cons_succ, List.set_cons_zero]
      generalize V0.alloc (.cells #[.int .i64 (0), .int .i64 (-2)] 3) = V1 at *
      generalize V0.heap.size = lb at *
      refine wpAnyX_only 4 (by kernel_rfl) (by simp; rfl) rfl rfl (fun K hK => ?_)
      go_wp2_with fail
      refine (among_any d (N + 402) (some ⟨lb, 0, none⟩) 2 2 [0, -2] _ hd HT.out.st (by omega) rfl (by omega) (by omega) (by exact HB.out.rd) (fun b o sp e => by injection e with e; injection e with e; have := HBG.out; omega)).mono ?_
      rintro e V4 ⟨⟨z, rfl, hz⟩, hs, hg⟩
      have HZ : Hid (-10 ≤ z ∧ z ≤ 100000) := hide (by simp at hz; omega)
      clear HB HBG hz
      replace HT : Hid (NwAt d w rb tb (some ⟨g, 0, none⟩) c M B e0 H (N + 404) V4) := hide (HT.out.draw hs hg)
      replace HG := hide (grown_trans HG.out hg)
      clear hs hg
      go_wp2_with fail
      refine ⟨laterX_of HG.out, ?_⟩
      refine wpAnyX_take [5, 6] 1 rfl (by kernel_rfl) (by intro c a d v w h; cases d <;> exact h) (by kernel_rfl) (by kernel_rfl) (by kernel_rfl) (by simp; rfl) rfl (laterX_of HG.out) ?_
      repeat (go_big_quiet_step (fail))
      refine wpQuiet_nil ?_
      refine wpAnyX_last 7 (by kernel_rfl) (by simp; rfl) rfl rfl (by kernel_rfl) (fun K hK => ?_)
      obtain ⟨⟨m0, m1⟩, hx⟩ : ∃ x, M[0]? = some x := ⟨_, List.getElem?_eq_getElem (by omega)⟩
      have hfl := flat_set mcells 2 (fun _ => rfl) 0 (by omega) (.int .i64 z) (z, m1) M (0) _ hx rfl
      have hcl : (M.flatMap mcells)[(0) * 2 + 0]? = some (.int .i64 m0) := by rw [Nat.mul_comm]; exact flat_get mcells 2 (fun _ => rfl) M (0) 0 _ hx (by omega)
      have HN0 := HL.out.2.1 _ (List.mem_of_getElem? hx)
      have HNL : Hid (AnyNet (M.set (0) (z, m1)) H) := hide ⟨⟨by rw [List.length_set]; omega, by have := HL.out.1.2.2; omega⟩, fun y hy => by
        rcases List.mem_or_eq_of_mem_set hy with hy | hy
        · exact HL.out.2.1 y hy
        · have hz := HZ.out
          rw [hy]
          unfold NS at HN0 ⊢
          dsimp only at HN0 ⊢
          omega, HL.out.2.2⟩
      have HT9 := hide (HT.out.elemM (k := (0) * 2 + 0) (u := .int .i64 z) (L := M.set (0) (z, m1)) (by simp) hfl.symm)
      have cc := (HT.out.ownM.cellAt ((0) * 2 + 0) (by omega)).trans hcl
      have ff := HT.out.ownM.frozenAt ((0) * 2 + 0)
      clear hfl hcl HN0 hx
      go_wp2_with fail
      refine wpAnyX_done (by kernel_rfl) ?_ _
      clear cc ff HT HG
      go_wp2_with fail
      go_meet
      exact ⟨some ⟨g, 0, none⟩, c, M.set (0) (z, m1), B, e0, H, HNL, hide (HT9.out.more (by omega))⟩
    have hp0 : (p == 0) = false := by simpa using h0
    by_cases h1 : p = 1
    · as_aux_lemma =>
      have hp : (p == 1) = true := by simpa using h1
      clear h1
      obtain ⟨g, rfl, hgd⟩ := HT.out.first HL.out.1.1
      have hm1 := HL.out.1.1
      have hm10 := HL.out.1.2.1
      have t0 := HT.out.box.2.1 0 _ rfl
      have t1 := HT.out.box.2.1 1 _ rfl
      have tz := HT.out.box.1
      have tg : tb ≠ d.g := by have := HT.out.ord; omega
      have hi0 : (0 : Int) < (M.length : Int) := by omega
      have hi1 : (0 : Int) ≤ (M.length : Int) - 1 := by omega
      have hi2 : (M.length : Int) - 1 < (M.length : Int) := by omega
      have hi3 : ((M.length : Int) - 1).toNat = M.length - 1 := by omega
      have hi4 : IntKind.i64.wrap ((M.length : Int) - 1) = (M.length : Int) - 1 := IntWalk.i64_in _ (by omega)
      go_wp2_with fail
      refine wpAnyX_start (fun w' => ∃ n : LaterX w4 d.g, w' = n.w) [11] (n := 12) (by kernel_rfl) rfl rfl ?_
      refine wpAnyX_take [0, 1, 2, 3, 4, 5, 6] 5 rfl (by kernel_rfl) (by intro c a d v w h; cases d <;> exact h) (by kernel_rfl) (by kernel_rfl) (by kernel_rfl) (by simp; rfl) rfl (laterX_drew _ _) ?_
      repeat (go_big_quiet_step (fail))
      refine wpQuiet_nil ?_
      have HG : Hid (w4.grownBy w4.drew (some d.g)) := hide (grown_of_below (Below.refl _ _).drew _)
      replace HT := hide HT.out.drew
      clear t0 t1 tz tg
      generalize w4.drew = V0 at *
      refine wpAnyX_only 7 (by kernel_rfl) (by simp; rfl) rfl rfl (fun K hK => ?_)
      have HB := hide (Row.new V0 #[.int .i64 (-1), .int .i64 (5001)] 3)
      have HBG : Hid (V0.heap.size ≠ d.g) := hide (by have := HT.out.st.lt; omega)
      replace HT := hide (HT.out.alloc (.cells #[.int .i64 (-1), .int .i64 (5001)] 3))
      replace HG := hide (grown_new HG.out (.cells #[.int .i64 (-1), .int .i64 (5001)] 3))
      refine wp_ints2 (-1) (5001) (.const (.int .i64 (-1))) (.const (.int .i64 (5001))) rfl rfl rfl (hK _ _ ⟨laterX_of HG.out, ?_⟩)
      simp only [Act.put, List.setIfInBounds_toArray, List.set_cons_succ, List.set_cons_zero]
      generalize V0.alloc (.cells #[.int .i64 (-1), .int .i64 (5001)] 3) = V1 at *
      generalize V0.heap.size = lb at *
      refine wpAnyX_only 8 (by kernel_rfl) (by simp; rfl) rfl rfl (fun K hK => ?_)
      go_wp2_with fail
      refine (among_any d (N + 402) (some ⟨lb, 0, none⟩) 2 2 [-1, 5001] _ hd HT.out.st (by omega) rfl (by omega) (by omega) (by exact HB.out.rd) (fun b o sp e => by injection e with e; injection e with e; have := HBG.out; omega)).mono ?_
      rintro e V4 ⟨⟨z, rfl, hz⟩, hs, hg⟩
      have HZ : Hid (-10 ≤ z ∧ z ≤ 100000) := hide (by simp at hz; omega)
      clear HB HBG hz
      replace HT : Hid (NwAt d w rb tb (some ⟨g, 0, none⟩) c M B e0 H (N + 404) V4) := hide (HT.out.draw hs hg)
      replace HG := hide (grown_trans HG.out hg)
      clear hs hg
      go_wp2_with fail
      refine ⟨laterX_of HG.out, ?_⟩
      refine wpAnyX_take [9, 10] 1 rfl (by kernel_rfl) (by intro c a d v w h; cases d <;> exact h) (by kernel_rfl) (by kernel_rfl) (by kernel_rfl) (by simp; rfl) rfl (laterX_of HG.out) ?_
      repeat (go_big_quiet_step (fail))
      refine wpQuiet_nil ?_
      refine wpAnyX_last 11 (by kernel_rfl) (by simp; rfl) rfl rfl (by kernel_rfl) (fun K hK => ?_)
      obtain ⟨⟨m0, m1⟩, hx⟩ : ∃ x, M[M.length - 1]? = some x := ⟨_, List.getElem?_eq_getElem (by omega)⟩
      have hfl := flat_set mcells 2 (fun _ => rfl) 1 (by omega) (.int .i64 z) (m0, z) M (M.length - 1) _ hx rfl
      have hcl : (M.flatMap mcells)[(M.length - 1) * 2 + 1]? = some (.int .i64 m1) := by rw [Nat.mul_comm]; exact flat_get mcells 2 (fun _ => rfl) M (M.length - 1) 1 _ hx (by omega)
      have HN0 := HL.out.2.1 _ (List.mem_of_getElem? hx)
      have HNL : Hid (AnyNet (M.set (M.length - 1) (m0, z)) H) := hide ⟨⟨by rw [List.length_set]; omega, by have := HL.out.1.2.2; omega⟩, fun y hy => by
        rcases List.mem_or_eq_of_mem_set hy with hy | hy
        · exact HL.out.2.1 y hy
        · have hz := HZ.out
          rw [hy]
          unfold NS at HN0 ⊢
          dsimp only at HN0 ⊢
          omega, HL.out.2.2⟩
      have HT9 := hide (HT.out.elemM (k := (M.length - 1) * 2 + 1) (u := .int .i64 z) (L := M.set (M.length - 1) (m0, z)) (by simp) hfl.symm)
      have cc := (HT.out.ownM.cellAt ((M.length - 1) * 2 + 1) (by omega)).trans hcl
      have ff := HT.out.ownM.frozenAt ((M.length - 1) * 2 + 1)
      clear hfl hcl HN0 hx
      go_wp2_with fail
      refine wpAnyX_done (by kernel_rfl) ?_ _
      clear cc ff HT HG
      go_wp2_with fail
      go_meet
      exact ⟨some ⟨g, 0, none⟩, c, M.set (M.length - 1) (m0, z), B, e0, H, HNL, hide (HT9.out.more (by omega))⟩
    have hp1 : (p == 1) = false := by simpa using h1
    by_cases h2 : p = 2
    · as_aux_lemma =>
      have hp : (p == 2) = true := by simpa using h2
      clear h2
      have hm10 := HL.out.1.2.1
      have hh10 := HL.out.1.2.2
      have t0 := HT.out.box.2.1 0 _ rfl
      have t1 := HT.out.box.2.1 1 _ rfl
      have tz := HT.out.box.1
      have tg : tb ≠ d.g := by have := HT.out.ord; omega
      go_wp2_with fail
      refine wpAnyX_start (fun w' => ∃ n : LaterX w4 d.g, w' = n.w) [10, 12] (n := 13) (by kernel_rfl) rfl rfl ?_
      refine wpAnyX_take [0, 1, 2, 5] 9 rfl (by kernel_rfl) (by intro c a d v w h; cases d <;> exact h) (by kernel_rfl) (by kernel_rfl) (by kernel_rfl) (by simp; rfl) rfl (laterX_drew _ _) ?_
      repeat (go_big_quiet_step (fail))
      refine wpQuiet_nil ?_
      have HG : Hid (w4.grownBy w4.drew (some d.g)) := hide (grown_of_below (Below.refl _ _).drew _)
      replace HT := hide HT.out.drew
      clear t0 t1 tz tg
      generalize w4.drew = V0 at *
      refine wpAnyX_two 3 6 (by kernel_rfl) (by simp; rfl) (by simp; rfl) rfl rfl rfl rfl (fun K hK => ?_) (fun K hK => ?_)
      · have HA := hide (Row.new V0 #[.int .i64 (0), .int .i64 (-1), .int .i64 (10)] 3)
        have HAG : Hid (V0.heap.size ≠ d.g) := hide (by have := HT.out.st.lt; omega)
        replace HT := hide (HT.out.alloc (.cells #[.int .i64 (0), .int .i64 (-1), .int .i64 (10)] 3))
        replace HG := hide (grown_new HG.out (.cells #[.int .i64 (0), .int .i64 (-1), .int .i64 (10)] 3))
        refine wp_ints3 (0) (-1) (10) (.const (.int .i64 (0))) (.const (.int .i64 (-1))) (.const (.int .i64 (10))) rfl rfl rfl rfl (hK _ _ ⟨laterX_of HG.out, ?_⟩)
        simp only [Act.put, List.setIfInBounds_toArray, List.set_cons_succ, List.set_cons_zero]
        generalize V0.alloc (.cells #[.int .i64 (0), .int .i64 (-1), .int .i64 (10)] 3) = V1 at *
        generalize V0.heap.size = lA at *
        refine wpAnyX_two 4 6 (by kernel_rfl) (by simp; rfl) (by simp; rfl) rfl rfl rfl rfl (fun K hK => ?_) (fun K hK => ?_)
        · go_wp2_with fail
          refine (among_any d (N + 402) (some ⟨lA, 0, none⟩) 3 3 [0, -1, 10] _ hd HT.out.st (by omega) rfl (by omega) (by omega) (by exact HA.out.rd) (fun b o sp e => by injection e with e; injection e with e; have := HAG.out; omega)).mono ?_
          rintro e V2 ⟨⟨za, rfl, hz⟩, hs, hg⟩
          have HZza : Hid (-10 ≤ za ∧ za ≤ 100000) := hide (by simp at hz; omega)
          clear HA HAG hz
          replace HT : Hid (NwAt d w rb tb A c M B e0 H (N + 404) V2) := hide (HT.out.draw hs hg)
          replace HG := hide (grown_trans HG.out hg)
          clear hs hg
          go_wp2_with fail
          refine ⟨laterX_of HG.out, ?_⟩
          refine wpAnyX_only 6 (by kernel_rfl) (by simp; rfl) rfl rfl (fun K hK => ?_)
          have HB := hide (Row.new V2 #[.int .i64 (0), .int .i64 (5001), .int .i64 (5)] 3)
          have HBG : Hid (V2.heap.size ≠ d.g) := hide (by have := HT.out.st.lt; omega)
          replace HT := hide (HT.out.alloc (.cells #[.int .i64 (0), .int .i64 (5001), .int .i64 (5)] 3))
          replace HG := hide (grown_new HG.out (.cells #[.int .i64 (0), .int .i64 (5001), .int .i64 (5)] 3))
          refine wp_ints3 (0) (5001) (5) (.const (.int .i64 (0))) (.const (.int .i64 (5001))) (.const (.int .i64 (5))) rfl rfl rfl rfl (hK _ _ ⟨laterX_of HG.out, ?_⟩)
          simp only [Act.put, List.setIfInBounds_toArray, List.set_cons_succ, List.set_cons_zero]
          generalize V2.alloc (.cells #[.int .i64 (0), .int .i64 (5001), .int .i64 (5)] 3) = V3 at *
          generalize V2.heap.size = lB at *
          refine wpAnyX_only 7 (by kernel_rfl) (by simp; rfl) rfl rfl (fun K hK => ?_)
          go_wp2_with fail
          refine (among_any d (N + 404) (some ⟨lB, 0, none⟩) 3 3 [0, 5001, 5] _ hd HT.out.st (by omega) rfl (by omega) (by omega) (by exact HB.out.rd) (fun b o sp e => by injection e with e; injection e with e; have := HBG.out; omega)).mono ?_
          rintro e V5 ⟨⟨zb, rfl, hz⟩, hs, hg⟩
          have HZzb : Hid (-10 ≤ zb ∧ zb ≤ 100000) := hide (by simp at hz; omega)
          clear HB HBG hz
          replace HT : Hid (NwAt d w rb tb A c M B e0 H (N + 406) V5) := hide (HT.out.draw hs hg)
          replace HG := hide (grown_trans HG.out hg)
          clear hs hg
          go_wp2_with fail
          refine ⟨laterX_of HG.out, ?_⟩
          refine wpAnyX_take [8] 4 rfl (by kernel_rfl) (by intro c a d v w h; cases d <;> exact h) (by kernel_rfl) (by kernel_rfl) (by kernel_rfl) (by simp; rfl) rfl (laterX_of HG.out) ?_
          repeat (go_big_quiet_step (fail))
          refine wpQuiet_nil ?_
          refine wpAnyX_only 9 (by kernel_rfl) (by simp; rfl) rfl rfl (fun K hK => ?_)
          go_wp2_with fail
          have HS := hide (Row.new V5 #[.int .i64 za, .int .i64 zb] 73)
          replace HT := hide (HT.out.alloc (.cells #[.int .i64 za, .int .i64 zb] 73))
          replace HG := hide (grown_new HG.out (.cells #[.int .i64 za, .int .i64 zb] 73))
          refine ⟨laterX_of HG.out, ?_⟩
          generalize V5.alloc (.cells #[.int .i64 za, .int .i64 zb] 73) = V6 at *
          generalize V5.heap.size = sb at *
          refine wpAnyX_last 10 (by kernel_rfl) (by simp; rfl) rfl rfl (by kernel_rfl) (fun K hK => ?_)
          have hml : maxLen = 9223372036854775807 := rfl
          refine wp_append_lies _ (.tmp 33) (.tmp 41) 25 rfl w.heap.size 73 j0 _ 2 16 Tryz.underlying25 Hj.out Hy.out.1 Hy.out.2.1 Hy.out.2.2 rfl (by decide) (.slice B H.length e0) H.length (H.flatMap mcells) rfl HT.out.ownH ⟨sb, 0, none⟩ 1 1 (mcells (za, zb)) rfl rfl (fun j u hu => by rw [Addr.add_lit, Nat.zero_add]; exact HS.out.2.1 j u hu) (fun u hu => mcells_ones [(za, zb)] u (by simpa using hu)) (by omega) (by omega) (by omega) HT.out.gr.size V6.heap.size rfl (fun g' cap' V9 ho' hg' hw' hlt' => ?_)
          have HF := hide (HT.out.farH hg')
          have HT9 := hide (HT.out.appendH hg' hw' ho')
          clear HS hml hg' hw' ho' hlt' HG
          refine hK _ _ ?_
          simp only [Act.put, List.setIfInBounds_toArray, List.set_cons_succ, List.set_cons_zero]
          refine wpAnyX_last 11 (by kernel_rfl) (by simp; rfl) rfl rfl (by kernel_rfl) (fun K hK => ?_)
          go_wp2_with fail
          refine wpAnyX_last 12 (by kernel_rfl) (by simp; rfl) rfl rfl (by kernel_rfl) (fun K hK => ?_)
          have t0 := HF.out.2.1.2.1 0 _ rfl
          have t1 := HF.out.2.1.2.1 1 _ rfl
          have f1 := HF.out.2.1.free 1
          have tz := HF.out.2.1.1
          go_wp2_with fail
          refine wpAnyX_done (by kernel_rfl) ?_ _
          clear t0 t1 f1 tz HF
          have HLN : Hid (AnyNet M (H ++ [(za, zb)])) := hide ⟨⟨by omega, by simp; omega⟩, HL.out.2.1, NS.snoc HL.out.2.2 ⟨HZza.out, HZzb.out⟩⟩
          go_wp2_with fail
          go_meet
          exact ⟨A, c, M, some ⟨g', 0, none⟩, cap', H ++ [(za, zb)], HLN, hide (HT9.out.more (by omega))⟩
        · have HB := hide (Row.new V1 #[.int .i64 (0), .int .i64 (5001), .int .i64 (5)] 3)
          have HBG : Hid (V1.heap.size ≠ d.g) := hide (by have := HT.out.st.lt; omega)
          replace HA := hide (HA.out.alloc (.cells #[.int .i64 (0), .int .i64 (5001), .int .i64 (5)] 3))
          replace HT := hide (HT.out.alloc (.cells #[.int .i64 (0), .int .i64 (5001), .int .i64 (5)] 3))
          replace HG := hide (grown_new HG.out (.cells #[.int .i64 (0), .int .i64 (5001), .int .i64 (5)] 3))
          refine wp_ints3 (0) (5001) (5) (.const (.int .i64 (0))) (.const (.int .i64 (5001))) (.const (.int .i64 (5))) rfl rfl rfl rfl (hK _ _ ⟨laterX_of HG.out, ?_⟩)
          simp only [Act.put, List.setIfInBounds_toArray, List.set_cons_succ, List.set_cons_zero]
          generalize V1.alloc (.cells #[.int .i64 (0), .int .i64 (5001), .int .i64 (5)] 3) = V2 at *
          generalize V1.heap.size = lB at *
          refine wpAnyX_only 4 (by kernel_rfl) (by simp; rfl) rfl rfl (fun K hK => ?_)
          go_wp2_with fail
          refine (among_any d (N + 402) (some ⟨lA, 0, none⟩) 3 3 [0, -1, 10] _ hd HT.out.st (by omega) rfl (by omega) (by omega) (by exact HA.out.rd) (fun b o sp e => by injection e with e; injection e with e; have := HAG.out; omega)).mono ?_
          rintro e V3 ⟨⟨za, rfl, hz⟩, hs, hg⟩
          have HZza : Hid (-10 ≤ za ∧ za ≤ 100000) := hide (by simp at hz; omega)
          clear HA HAG hz
          replace HB := hide (HB.out.grown hg (fun e => by injection e with e; have := HBG.out; omega))
          replace HT : Hid (NwAt d w rb tb A c M B e0 H (N + 404) V3) := hide (HT.out.draw hs hg)
          replace HG := hide (grown_trans HG.out hg)
          clear hs hg
          go_wp2_with fail
          refine ⟨laterX_of HG.out, ?_⟩
          refine wpAnyX_only 7 (by kernel_rfl) (by simp; rfl) rfl rfl (fun K hK => ?_)
          go_wp2_with fail
          refine (among_any d (N + 404) (some ⟨lB, 0, none⟩) 3 3 [0, 5001, 5] _ hd HT.out.st (by omega) rfl (by omega) (by omega) (by exact HB.out.rd) (fun b o sp e => by injection e with e; injection e with e; have := HBG.out; omega)).mono ?_
          rintro e V5 ⟨⟨zb, rfl, hz⟩, hs, hg⟩
          have HZzb : Hid (-10 ≤ zb ∧ zb ≤ 100000) := hide (by simp at hz; omega)
          clear HB HBG hz
          replace HT : Hid (NwAt d w rb tb A c M B e0 H (N + 406) V5) := hide (HT.out.draw hs hg)
          replace HG := hide (grown_trans HG.out hg)
          clear hs hg
          go_wp2_with fail
          refine ⟨laterX_of HG.out, ?_⟩
          refine wpAnyX_take [8] 4 rfl (by kernel_rfl) (by intro c a d v w h; cases d <;> exact h) (by kernel_rfl) (by kernel_rfl) (by kernel_rfl) (by simp; rfl) rfl (laterX_of HG.out) ?_
          repeat (go_big_quiet_step (fail))
          refine wpQuiet_nil ?_
          refine wpAnyX_only 9 (by kernel_rfl) (by simp; rfl) rfl rfl (fun K hK => ?_)
          go_wp2_with fail
          have HS := hide (Row.new V5 #[.int .i64 za, .int .i64 zb] 73)
          replace HT := hide (HT.out.alloc (.cells #[.int .i64 za, .int .i64 zb] 73))
          replace HG := hide (grown_new HG.out (.cells #[.int .i64 za, .int .i64 zb] 73))
          refine ⟨laterX_of HG.out, ?_⟩
          generalize V5.alloc (.cells #[.int .i64 za, .int .i64 zb] 73) = V6 at *
          generalize V5.heap.size = sb at *
          refine wpAnyX_last 10 (by kernel_rfl) (by simp; rfl) rfl rfl (by kernel_rfl) (fun K hK => ?_)
          have hml : maxLen = 9223372036854775807 := rfl
          refine wp_append_lies _ (.tmp 33) (.tmp 41) 25 rfl w.heap.size 73 j0 _ 2 16 Tryz.underlying25 Hj.out Hy.out.1 Hy.out.2.1 Hy.out.2.2 rfl (by decide) (.slice B H.length e0) H.length (H.flatMap mcells) rfl HT.out.ownH ⟨sb, 0, none⟩ 1 1 (mcells (za, zb)) rfl rfl (fun j u hu => by rw [Addr.add_lit, Nat.zero_add]; exact HS.out.2.1 j u hu) (fun u hu => mcells_ones [(za, zb)] u (by simpa using hu)) (by omega) (by omega) (by omega) HT.out.gr.size V6.heap.size rfl (fun g' cap' V9 ho' hg' hw' hlt' => ?_)
          have HF := hide (HT.out.farH hg')
          have HT9 := hide (HT.out.appendH hg' hw' ho')
          clear HS hml hg' hw' ho' hlt' HG
          refine hK _ _ ?_
          simp only [Act.put, List.setIfInBounds_toArray, List.set_cons_succ, List.set_cons_zero]
          refine wpAnyX_last 11 (by kernel_rfl) (by simp; rfl) rfl rfl (by kernel_rfl) (fun K hK => ?_)
          go_wp2_with fail
          refine wpAnyX_last 12 (by kernel_rfl) (by simp; rfl) rfl rfl (by kernel_rfl) (fun K hK => ?_)
          have t0 := HF.out.2.1.2.1 0 _ rfl
          have t1 := HF.out.2.1.2.1 1 _ rfl
          have f1 := HF.out.2.1.free 1
          have tz := HF.out.2.1.1
          go_wp2_with fail
          refine wpAnyX_done (by kernel_rfl) ?_ _
          clear t0 t1 f1 tz HF
          have HLN : Hid (AnyNet M (H ++ [(za, zb)])) := hide ⟨⟨by omega, by simp; omega⟩, HL.out.2.1, NS.snoc HL.out.2.2 ⟨HZza.out, HZzb.out⟩⟩
          go_wp2_with fail
          go_meet
          exact ⟨A, c, M, some ⟨g', 0, none⟩, cap', H ++ [(za, zb)], HLN, hide (HT9.out.more (by omega))⟩
      · have HB := hide (Row.new V0 #[.int .i64 (0), .int .i64 (5001), .int .i64 (5)] 3)
        have HBG : Hid (V0.heap.size ≠ d.g) := hide (by have := HT.out.st.lt; omega)
        replace HT := hide (HT.out.alloc (.cells #[.int .i64 (0), .int .i64 (5001), .int .i64 (5)] 3))
        replace HG := hide (grown_new HG.out (.cells #[.int .i64 (0), .int .i64 (5001), .int .i64 (5)] 3))
        refine wp_ints3 (0) (5001) (5) (.const (.int .i64 (0))) (.const (.int .i64 (5001))) (.const (.int .i64 (5))) rfl rfl rfl rfl (hK _ _ ⟨laterX_of HG.out, ?_⟩)
        simp only [Act.put, List.setIfInBounds_toArray, List.set_cons_succ, List.set_cons_zero]
        generalize V0.alloc (.cells #[.int .i64 (0), .int .i64 (5001), .int .i64 (5)] 3) = V1 at *
        generalize V0.heap.size = lB at *
        refine wpAnyX_only 3 (by kernel_rfl) (by simp; rfl) rfl rfl (fun K hK => ?_)
        have HA := hide (Row.new V1 #[.int .i64 (0), .int .i64 (-1), .int .i64 (10)] 3)
        have HAG : Hid (V1.heap.size ≠ d.g) := hide (by have := HT.out.st.lt; omega)
        replace HB := hide (HB.out.alloc (.cells #[.int .i64 (0), .int .i64 (-1), .int .i64 (10)] 3))
        replace HT := hide (HT.out.alloc (.cells #[.int .i64 (0), .int .i64 (-1), .int .i64 (10)] 3))
        replace HG := hide (grown_new HG.out (.cells #[.int .i64 (0), .int .i64 (-1), .int .i64 (10)] 3))
        refine wp_ints3 (0) (-1) (10) (.const (.int .i64 (0))) (.const (.int .i64 (-1))) (.const (.int .i64 (10))) rfl rfl rfl rfl (hK _ _ ⟨laterX_of HG.out, ?_⟩)
        simp only [Act.put, List.setIfInBounds_toArray, List.set_cons_succ, List.set_cons_zero]
        generalize V1.alloc (.cells #[.int .i64 (0), .int .i64 (-1), .int .i64 (10)] 3) = V2 at *
        generalize V1.heap.size = lA at *
        refine wpAnyX_only 4 (by kernel_rfl) (by simp; rfl) rfl rfl (fun K hK => ?_)
        go_wp2_with fail
        refine (among_any d (N + 402) (some ⟨lA, 0, none⟩) 3 3 [0, -1, 10] _ hd HT.out.st (by omega) rfl (by omega) (by omega) (by exact HA.out.rd) (fun b o sp e => by injection e with e; injection e with e; have := HAG.out; omega)).mono ?_
        rintro e V3 ⟨⟨za, rfl, hz⟩, hs, hg⟩
        have HZza : Hid (-10 ≤ za ∧ za ≤ 100000) := hide (by simp at hz; omega)
        clear HA HAG hz
        replace HB := hide (HB.out.grown hg (fun e => by injection e with e; have := HBG.out; omega))
        replace HT : Hid (NwAt d w rb tb A c M B e0 H (N + 404) V3) := hide (HT.out.draw hs hg)
        replace HG := hide (grown_trans HG.out hg)
        clear hs hg
        go_wp2_with fail
        refine ⟨laterX_of HG.out, ?_⟩
        refine wpAnyX_only 7 (by kernel_rfl) (by simp; rfl) rfl rfl (fun K hK => ?_)
        go_wp2_with fail
        refine (among_any d (N + 404) (some ⟨lB, 0, none⟩) 3 3 [0, 5001, 5] _ hd HT.out.st (by omega) rfl (by omega) (by omega) (by exact HB.out.rd) (fun b o sp e => by injection e with e; injection e with e; have := HBG.out; omega)).mono ?_
        rintro e V5 ⟨⟨zb, rfl, hz⟩, hs, hg⟩
        have HZzb : Hid (-10 ≤ zb ∧ zb ≤ 100000) := hide (by simp at hz; omega)
        clear HB HBG hz
        replace HT : Hid (NwAt d w rb tb A c M B e0 H (N + 406) V5) := hide (HT.out.draw hs hg)
        replace HG := hide (grown_trans HG.out hg)
        clear hs hg
        go_wp2_with fail
        refine ⟨laterX_of HG.out, ?_⟩
        refine wpAnyX_take [8] 4 rfl (by kernel_rfl) (by intro c a d v w h; cases d <;> exact h) (by kernel_rfl) (by kernel_rfl) (by kernel_rfl) (by simp; rfl) rfl (laterX_of HG.out) ?_
        repeat (go_big_quiet_step (fail))
        refine wpQuiet_nil ?_
        refine wpAnyX_only 9 (by kernel_rfl) (by simp; rfl) rfl rfl (fun K hK => ?_)
        go_wp2_with fail
        have HS := hide (Row.new V5 #[.int .i64 za, .int .i64 zb] 73)
        replace HT := hide (HT.out.alloc (.cells #[.int .i64 za, .int .i64 zb] 73))
        replace HG := hide (grown_new HG.out (.cells #[.int .i64 za, .int .i64 zb] 73))
        refine ⟨laterX_of HG.out, ?_⟩
        generalize V5.alloc (.cells #[.int .i64 za, .int .i64 zb] 73) = V6 at *
        generalize V5.heap.size = sb at *
        refine wpAnyX_last 10 (by kernel_rfl) (by simp; rfl) rfl rfl (by kernel_rfl) (fun K hK => ?_)
        have hml : maxLen = 9223372036854775807 := rfl
        refine wp_append_lies _ (.tmp 33) (.tmp 41) 25 rfl w.heap.size 73 j0 _ 2 16 Tryz.underlying25 Hj.out Hy.out.1 Hy.out.2.1 Hy.out.2.2 rfl (by decide) (.slice B H.length e0) H.length (H.flatMap mcells) rfl HT.out.ownH ⟨sb, 0, none⟩ 1 1 (mcells (za, zb)) rfl rfl (fun j u hu => by rw [Addr.add_lit, Nat.zero_add]; exact HS.out.2.1 j u hu) (fun u hu => mcells_ones [(za, zb)] u (by simpa using hu)) (by omega) (by omega) (by omega) HT.out.gr.size V6.heap.size rfl (fun g' cap' V9 ho' hg' hw' hlt' => ?_)
        have HF := hide (HT.out.farH hg')
        have HT9 := hide (HT.out.appendH hg' hw' ho')
        clear HS hml hg' hw' ho' hlt' HG
        refine hK _ _ ?_
        simp only [Act.put, List.setIfInBounds_toArray, List.set_cons_succ, List.set_cons_zero]
        refine wpAnyX_last 11 (by kernel_rfl) (by simp; rfl) rfl rfl (by kernel_rfl) (fun K hK => ?_)
        go_wp2_with fail
        refine wpAnyX_last 12 (by kernel_rfl) (by simp; rfl) rfl rfl (by kernel_rfl) (fun K hK => ?_)
        have t0 := HF.out.2.1.2.1 0 _ rfl
        have t1 := HF.out.2.1.2.1 1 _ rfl
        have f1 := HF.out.2.1.free 1
        have tz := HF.out.2.1.1
        go_wp2_with fail
        refine wpAnyX_done (by kernel_rfl) ?_ _
        clear t0 t1 f1 tz HF
        have HLN : Hid (AnyNet M (H ++ [(za, zb)])) := hide ⟨⟨by omega, by simp; omega⟩, HL.out.2.1, NS.snoc HL.out.2.2 ⟨HZza.out, HZzb.out⟩⟩
        go_wp2_with fail
        go_meet
        exact ⟨A, c, M, some ⟨g', 0, none⟩, cap', H ++ [(za, zb)], HLN, hide (HT9.out.more (by omega))⟩
    have hp2 : (p == 2) = false := by simpa using h2
    by_cases h3 : p = 3
    · as_aux_lemma =>
      have hp : (p == 3) = true := by simpa using h3
      clear h3
      have hm10 := HL.out.1.2.1
      have t0 := HT.out.box.2.1 0 _ rfl
      have t1 := HT.out.box.2.1 1 _ rfl
      have tz := HT.out.box.1
      have HTA := hide (HT.out.alloc (.cells #[.int .i64 (M.length : Int), .int .i64 5] 36))
      have HSB := hide (Row.new w4 #[.int .i64 (M.length : Int), .int .i64 5] 36)
      have hml : maxLen = 9223372036854775807 := rfl
      go_wp2_with (at_builtin; refine wpList_append_lies _ rfl (.tmp 47) (.tmp 52) 24 rfl w.heap.size 36 i0 _ 2 16 Tryz.underlying24 Hi.out Hz.out.1 Hz.out.2.1 Hz.out.2.2 rfl (by decide) (.slice A M.length c) M.length (M.flatMap mcells) rfl HTA.out.ownM ⟨w4.heap.size, 0, none⟩ 1 1 (mcells ((M.length : Int), 5)) rfl rfl (fun j u hu => by rw [Addr.add_lit, Nat.zero_add]; exact HSB.out.2.1 j u hu) (fun u hu => mcells_ones [((M.length : Int), 5)] u (by simpa using hu)) (by omega) (by omega) (by omega) HTA.out.gr.size _ rfl ?_)
      intro g' cap' V9 ho' hg' hw' hlt'
      have HF := hide (HTA.out.farM hg')
      have HT9 := hide (HTA.out.appendM hg' (hw'.imp id (fun e => by rw [e]; simp)) ho')
      have HLN : Hid (AnyNet (M ++ [((M.length : Int), 5)]) H) := hide ⟨⟨by simp; omega, by have := HL.out.1.2.2; omega⟩, NS.snoc HL.out.2.1 (by unfold NS; dsimp only; omega), HL.out.2.2⟩
      clear t0 t1 tz hml hg' hw' ho' hlt' HSB HTA
      have t0 := HF.out.2.1.2.1 0 _ rfl
      have t1 := HF.out.2.1.2.1 1 _ rfl
      have f0 := HF.out.2.1.free 0
      have tz := HF.out.2.1.1
      go_wp2_with fail
      go_meet
      exact ⟨some ⟨g', 0, none⟩, cap', M ++ [((M.length : Int), 5)], B, e0, H, HLN, hide (HT9.out.more (by omega))⟩
    have hp3 : (p == 3) = false := by simpa using h3
    by_cases h4 : p = 4
    · as_aux_lemma =>
      have hp : (p == 4) = true := by simpa using h4
      clear h4
      have t0 := HT.out.box.2.1 0 _ rfl
      have f0 := HT.out.box.free 0
      have tz := HT.out.box.1
      have HT9 := hide (HT.out.setM (X := none) (x := 0) (L := []) (World.ownsRow_nil _ _ _ _) (fun q hq => (by cases hq)) (fun q hq => (by cases hq)))
      have HLN : Hid (AnyNet [] H) := hide ⟨⟨by simp, by have := HL.out.1.2.2; omega⟩, by simp, HL.out.2.2⟩
      go_wp2_with fail
      go_meet
      exact ⟨none, 0, [], B, e0, H, HLN, hide (HT9.out.more (by omega))⟩
    have hp4 : (p == 4) = false := by simpa using h4
    by_cases h5 : p = 5
    · as_aux_lemma =>
      have hp : (p == 5) = true := by simpa using h5
      clear h5
      have HLO : Hid (H.length ≤ 11 ∧ ∀ x ∈ H, NS x) := hide ⟨by have := HL.out.1.2.2; omega, HL.out.2.2⟩
      go_upto_region 14 with fail
      go_loopg [] 12 (fun g wr => ∃ (A : Option Addr) (c : Nat) (M : List (Int × Int)), Hid (M.length ≤ 11 ∧ ∀ x ∈ M, NS x) ∧ Hid (11 ≤ g + M.length) ∧ Hid (NwAt d w rb tb A c M B e0 H (N + 402) wr))
      case atStart => exact ⟨A, c, M, hide ⟨by have := HL.out.1.2.1; omega, HL.out.2.1⟩, hide (by omega), HT⟩
      case round =>
        clear HT HL
        obtain ⟨A, c, M, HLM, HGK, HT⟩ := hrel
        have hl11 := HLM.out.1
        have t0 := HT.out.box.2.1 0 _ rfl
        have t1 := HT.out.box.2.1 1 _ rfl
        have tz := HT.out.box.1
        by_cases hlt : M.length < 11
        · have hlt' : decide ((M.length : Int) < 11) = true := by simp; omega
          have HTA := hide (HT.out.alloc (.cells #[.int .i64 0, .int .i64 7] 36))
          have HSB := hide (Row.new wr #[.int .i64 0, .int .i64 7] 36)
          have hml : maxLen = 9223372036854775807 := rfl
          go_wp2_with (at_builtin; refine wpList_append_lies _ rfl (.tmp 65) (.tmp 67) 24 rfl w.heap.size 36 i0 _ 2 16 Tryz.underlying24 Hi.out Hz.out.1 Hz.out.2.1 Hz.out.2.2 rfl (by decide) (.slice A M.length c) M.length (M.flatMap mcells) rfl HTA.out.ownM ⟨wr.heap.size, 0, none⟩ 1 1 (mcells (0, 7)) rfl rfl (fun j u hu => by rw [Addr.add_lit, Nat.zero_add]; exact HSB.out.2.1 j u hu) (fun u hu => mcells_ones [(0, 7)] u (by simpa using hu)) (by omega) (by omega) (by omega) HTA.out.gr.size _ rfl ?_)
          intro g' cap' V9 ho' hg' hw' hlt9
          have HF := hide (HTA.out.farM hg')
          have HT9 := hide (HTA.out.appendM hg' (hw'.imp id (fun e => by rw [e]; simp)) ho')
          have HLN : Hid ((M ++ [((0 : Int), (7 : Int))]).length ≤ 11 ∧ ∀ x ∈ M ++ [((0 : Int), (7 : Int))], NS x) := hide ⟨by simp; omega, NS.snoc HLM.out.2 (by unfold NS; dsimp only; omega)⟩
          have HLL := hide (show (M ++ [((0 : Int), (7 : Int))]).length = M.length + 1 by simp)
          clear t0 t1 tz hml hg' hw' ho' hlt9 HSB HTA hlt'
          have t0 := HF.out.2.1.2.1 0 _ rfl
          have t1 := HF.out.2.1.2.1 1 _ rfl
          have ff := HF.out.2.1.free 0
          have tz := HF.out.2.1.1
          go_wp2
          go_roundg (gk - 1)
          case rel => exact ⟨_, cap', _, HLN, hide (by have := HGK.out; have := HLL.out; omega), HT9⟩
          case measure => have := HGK.out; omega
        · have hlt' : decide ((M.length : Int) < 11) = false := by simp; omega
          go_wp2_with fail
          go_meet
          exact ⟨A, c, M, B, e0, H, hide ⟨⟨HLM.out.1, HLO.out.1⟩, HLM.out.2, HLO.out.2⟩, hide (HT.out.more (by omega))⟩
    have hp5 : (p == 5) = false := by simpa using h5
    by_cases h6 : p = 6
    · as_aux_lemma =>
      have hp : (p == 6) = true := by simpa using h6
      clear h6
      have HLO : Hid (M.length ≤ 11 ∧ ∀ x ∈ M, NS x) := hide ⟨by have := HL.out.1.2.1; omega, HL.out.2.1⟩
      go_upto_region 17 with fail
      go_loopg [] 12 (fun g wr => ∃ (B : Option Addr) (e0 : Nat) (H : List (Int × Int)), Hid (H.length ≤ 11 ∧ ∀ x ∈ H, NS x) ∧ Hid (11 ≤ g + H.length) ∧ Hid (NwAt d w rb tb A c M B e0 H (N + 402) wr))
      case atStart => exact ⟨B, e0, H, hide ⟨by have := HL.out.1.2.2; omega, HL.out.2.2⟩, hide (by omega), HT⟩
      case round =>
        clear HT HL
        obtain ⟨B, e0, H, HLM, HGK, HT⟩ := hrel
        have hl11 := HLM.out.1
        have t0 := HT.out.box.2.1 0 _ rfl
        have t1 := HT.out.box.2.1 1 _ rfl
        have tz := HT.out.box.1
        by_cases hlt : H.length < 11
        · have hlt' : decide ((H.length : Int) < 11) = true := by simp; omega
          have HTA := hide (HT.out.alloc (.cells #[.int .i64 0, .int .i64 7] 73))
          have HSB := hide (Row.new wr #[.int .i64 0, .int .i64 7] 73)
          have hml : maxLen = 9223372036854775807 := rfl
          go_wp2_with (at_builtin; refine wpList_append_lies _ rfl (.tmp 77) (.tmp 79) 25 rfl w.heap.size 73 j0 _ 2 16 Tryz.underlying25 Hj.out Hy.out.1 Hy.out.2.1 Hy.out.2.2 rfl (by decide) (.slice B H.length e0) H.length (H.flatMap mcells) rfl HTA.out.ownH ⟨wr.heap.size, 0, none⟩ 1 1 (mcells (0, 7)) rfl rfl (fun j u hu => by rw [Addr.add_lit, Nat.zero_add]; exact HSB.out.2.1 j u hu) (fun u hu => mcells_ones [(0, 7)] u (by simpa using hu)) (by omega) (by omega) (by omega) HTA.out.gr.size _ rfl ?_)
          intro g' cap' V9 ho' hg' hw' hlt9
          have HF := hide (HTA.out.farH hg')
          have HT9 := hide (HTA.out.appendH hg' (hw'.imp id (fun e => by rw [e]; simp)) ho')
          have HLN : Hid ((H ++ [((0 : Int), (7 : Int))]).length ≤ 11 ∧ ∀ x ∈ H ++ [((0 : Int), (7 : Int))], NS x) := hide ⟨by simp; omega, NS.snoc HLM.out.2 (by unfold NS; dsimp only; omega)⟩
          have HLL := hide (show (H ++ [((0 : Int), (7 : Int))]).length = H.length + 1 by simp)
          clear t0 t1 tz hml hg' hw' ho' hlt9 HSB HTA hlt'
          have t0 := HF.out.2.1.2.1 0 _ rfl
          have t1 := HF.out.2.1.2.1 1 _ rfl
          have ff := HF.out.2.1.free 1
          have tz := HF.out.2.1.1
          go_wp2
          go_roundg (gk - 1)
          case rel => exact ⟨_, cap', _, HLN, hide (by have := HGK.out; have := HLL.out; omega), HT9⟩
          case measure => have := HGK.out; omega
        · have hlt' : decide ((H.length : Int) < 11) = false := by simp; omega
          go_wp2_with fail
          go_meet
          exact ⟨A, c, M, B, e0, H, hide ⟨⟨HLO.out.1, HLM.out.1⟩, HLO.out.2, HLM.out.2⟩, hide (HT.out.more (by omega))⟩
    have hp6 : (p == 6) = false := by simpa using h6
    clear h0 h1 h2 h3 h4 h5 h6
    go_wp2_with fail
    go_meet
    exact ⟨A, c, M, B, e0, H, hide ⟨⟨by have := HL.out.1.2.1; omega, by have := HL.out.1.2.2; omega⟩, HL.out.2⟩, hide (HT.out.more (by omega))⟩
  clear HT HL
  obtain ⟨A, c, M, B, e0, H, HL, HT⟩ := hcut
  have b0 := HT.out.box.2.1 0 _ rfl
  have b1 := HT.out.box.2.1 1 _ rfl
  have g0 := HT.out.box.free 0
  have g1 := HT.out.box.free 1
  have r0 := HT.out.res.2.1 0 _ rfl
  have r1 := HT.out.res.2.1 1 _ rfl
  have q0 := HT.out.res.free 0
  have q1 := HT.out.res.free 1
  have bz := HT.out.box.1
  have rz := HT.out.res.1
  have n1 : tb ≠ rb := by have := HT.out.ord; omega
  have n2 : rb ≠ tb := Ne.symm n1
  go_wp2
  exact bodyPost_ret (v := .agg #[.slice A M.length c, .slice B H.length e0]) (by simp [results, Tryz.results26, go_sem, *]) rfl (HT.out.done HL.out (by omega) _ _)
end Go.Proofs.YtfcpgpmhjadanaaGreatDoor
namespace Go.Proofs.YtfcpgpmhjadanaaGreatDoor
open Go.RowKit
set_option linter.unusedVariables false

/-- While a list of integers is made: a box tb that is kept, the drawer behind N steps. -/
structure OuAt (d : Drw) (w : World) (tb : Nat) (xs : List Value) (A : Option Addr) (c : Nat) (l : List Int) (N : Nat) (wr : World) : Prop where
  st : d.st N wr
  gr : w.grownBy wr (some d.g)
  box : Row wr tb xs
  own : wr.ownsRow w.heap.size 3 1 (.slice A l.length c) l.length (l.map (Value.int .i64))
  ord : d.g < w.heap.size ∧ w.heap.size ≤ tb ∧ d.W0.heap.size ≤ d.g
  ap : ∀ q, (Value.slice A l.length c).ownBlock = some q → q ≠ tb
section
variable {d : Drw} {w wr w' : World} {tb c N K : Nat} {xs : List Value} {A : Option Addr} {l : List Int}
theorem OuAt.draw (h : OuAt d w tb xs A c l N wr) (hs : d.st K w') (hg : wr.grownBy w' (some d.g)) : OuAt d w tb xs A c l K w' :=
  ⟨hs, grown_trans h.gr hg, h.box.grown hg (fun e => by injection e with e; have := h.ord; omega), own_far h.own hg h.ord.1, h.ord, h.ap⟩
theorem OuAt.below (h : OuAt d w tb xs A c l N wr) (hb : Below wr.heap.size wr w') : OuAt d w tb xs A c l N w' :=
  ⟨h.st.below hb, grown_trans h.gr (grown_of_below hb _), h.box.below hb, own_below h.own hb, h.ord, h.ap⟩
theorem OuAt.alloc (h : OuAt d w tb xs A c l N wr) (o : Obj) : OuAt d w tb xs A c l N (wr.alloc o) := h.below ((Below.refl _ _).alloc (Nat.le_refl _) o)
theorem OuAt.drew (h : OuAt d w tb xs A c l N wr) : OuAt d w tb xs A c l N wr.drew := h.below (Below.refl _ _).drew
theorem OuAt.more (h : OuAt d w tb xs A c l N wr) (hM : N ≤ K) : OuAt d w tb xs A c l K wr := { h with st := h.st.more hM }
/-- An append. -/
theorem OuAt.append (h : OuAt d w tb xs A c l N wr) {g c' : Nat} {z : Int} (hg : wr.grownBy w' (Value.slice A l.length c).ownBlock) (hw : (Value.slice A l.length c).ownBlock = some g ∨ g = wr.heap.size)
    (ho : w'.ownsRow w.heap.size 3 1 (.slice (some ⟨g, 0, none⟩) (l.length + 1) c') (l.length + 1) (l.map (Value.int .i64) ++ [.int .i64 z])) :
    OuAt d w tb xs (some ⟨g, 0, none⟩) c' (l ++ [z]) N w' := by
  have hl : (l ++ [z]).length = l.length + 1 := by simp
  have hc : (l ++ [z]).map (Value.int .i64) = l.map (Value.int .i64) ++ [.int .i64 z] := by simp
  have hlt : ∀ k, (Value.slice A l.length c).ownBlock = some k → w.heap.size ≤ k ∧ k < wr.heap.size := fun k hk => h.own.lt k hk
  refine ⟨h.st.grown hg (fun k hk => by have := hlt k hk; have := h.ord; omega), grown_under h.gr hg (fun j hj => (hlt j hj).1), h.box.grown hg (fun e => h.ap tb e.symm rfl), by rw [hl, hc]; exact ho, h.ord, fun q hq => ?_⟩
  simp [Value.ownBlock] at hq
  subst hq
  rcases hw with hw | hw
  · exact h.ap g hw
  · have := h.box.1
    omega
/-- An element stored. -/
theorem OuAt.stored {g : Nat} (h : OuAt d w tb xs (some ⟨g, 0, none⟩) c l N wr) (k : Nat) (z : Int) : OuAt d w tb xs (some ⟨g, 0, none⟩) c (l.set k z) N (wr.setCell ⟨g, k, none⟩ (.int .i64 z)) := by
  have hlt := h.own.lt g rfl
  have ha := h.ap g rfl
  have ho := (World.ownsRow.stored h.own k (.int .i64 z)).1
  refine ⟨h.st.put (p := ⟨g, k, none⟩) (by have := h.ord; have := hlt; simp; omega) (by have := h.ord; simp; omega) _, grown_put h.gr (p := ⟨g, k, none⟩) hlt.1 _, h.box.far (p := ⟨g, k, none⟩) ha _, by rw [List.length_set, List.map_set]; exact ho, h.ord, by rw [List.length_set]; exact h.ap⟩
end
/-- A drawn list of integers. -/
def DrwInts (d : Drw) (K m : Nat) (w : World) (e : Ending) (w' : World) : Prop :=
  (∃ (A : Option Addr) (c : Nat) (l : List Int), e = .returned (.slice A l.length c) ∧ l.length ≤ m ∧ w'.ownsRow w.heap.size 3 1 (.slice A l.length c) l.length (l.map (Value.int .i64))) ∧ d.st K w' ∧ w.grownBy w' (some d.g)
theorem OuAt.done {d : Drw} {w wr : World} {tb c N K m : Nat} {xs : List Value} {A : Option Addr} {l : List Int} (h : OuAt d w tb xs A c l N wr) (hl : l.length ≤ m) (hM : N ≤ K) : DrwInts d K m w (.returned (.slice A l.length c)) wr :=
  ⟨⟨A, c, l, rfl, hl, h.own⟩, h.st.more hM, h.gr⟩
theorem infoIntD : (Tryz.prog.info? 3).map (fun i => (i.zero, i.size, i.bytes)) = some (some (.int .i64 0), 1, 8) := by kernel_rfl

set_option maxRecDepth 100000 in
set_option maxHeartbeats 8000000 in
theorem openOf_any (d : Drw) (N : Nat) (n m c e0 : Nat) (A B : Option Addr) (w : World) (hd : d.ok) (h : d.st N w) (hN : N ≤ 10000000000) (hm : m ≤ 11) :
    Calls Tryz.prog 28 #[.pointer (some ⟨d.g, 0, none⟩), .agg #[.slice A n c, .slice B m e0]] w (DrwInts d (N + 100) 12 w) := by
  have HT : Hid (OuAt d w w.heap.size [.slice A n c, .slice B m e0] none 0 [] N (w.alloc (.cells #[.slice A n c, .slice B m e0] 27))) := hide ⟨h.alloc _, grown_of_below ((Below.refl _ _).alloc (Nat.le_refl _) _) _, Row.new _ _ _, World.ownsRow_nil _ _ _ _, ⟨h.lt, Nat.le_refl _, hd.2.2.2.2⟩, fun q hq => (by cases hq)⟩
  obtain ⟨i0, hi0, hz0, hz1, hz2⟩ := info_parts infoIntD
  have Hi := hide hi0
  have Hz := hide (And.intro hz0 (And.intro hz1 hz2))
  clear h hi0 hz0 hz1 hz2
  go_enter Tryz.func28, Tryz.ntmps28
  go_upto_region 2 with fail
  generalize w.alloc (.cells #[.slice A n c, .slice B m e0] 27) = w1 at *
  obtain ⟨tb, htb⟩ : ∃ tb, tb = w.heap.size := ⟨_, rfl⟩
  rw [← htb] at HT ⊢
  clear htb
  have b0 := HT.out.box.2.1 0 _ rfl
  have b1 := HT.out.box.2.1 1 _ rfl
  have bz := HT.out.box.1
  go_upto_region 3 with fail
  clear b0 b1 bz
  go_loopg [5, 10] 12 (fun g sl ti wr => ∃ (j : Nat) (X : Option Addr) (k : Nat) (l : List Int), sl = .slice X l.length k ∧ ti = .int .i64 (j : Int) ∧ j ≤ m ∧ Hid (m ≤ g + j) ∧ Hid (l.length ≤ j) ∧ Hid (OuAt d w tb [.slice A n c, .slice B m e0] X k l (N + 2 * j) wr))
  case atStart => exact ⟨0, none, 0, [], rfl, rfl, by omega, hide (by omega), hide (by simp), hide (HT.out.more (by omega))⟩
  case round =>
    clear HT
    obtain ⟨j, X, k, l, rfl, rfl, hj, HGK, HLJ, HT⟩ := hrel
    by_cases hlt : j < m
    · have hlt' : (j : Int) < (m : Int) := by omega
      go_wp2_with fail
      refine (one_any d (N + 2 * j) 3 _ hd HT.out.st (by omega) (by omega)).mono ?_
      rintro e w2 ⟨⟨b, rfl⟩, hs, hg⟩
      replace HT : Hid (OuAt d w tb [.slice A n c, .slice B m e0] X k l (N + 2 * (j + 1)) w2) := hide (HT.out.draw hs hg)
      clear hs hg
      cases b with
      | true =>
        go_wp2_with fail
        go_roundg (gk - 1)
        case measure => have := HGK.out; omega
        case rel => exact ⟨j + 1, X, k, l, rfl, by go_num, by omega, hide (by have := HGK.out; omega), hide (by have := HLJ.out; omega), HT⟩
      | false =>
        have HTA := hide (HT.out.alloc (.cells #[.int .i64 (j : Int)] 3))
        have HSB := hide (Row.new w2 #[.int .i64 (j : Int)] 3)
        have hml : maxLen = 9223372036854775807 := rfl
        have hlj := HLJ.out
        go_wp2_with (at_builtin; refine wpList_append_lies _ rfl (.tmp 16) (.tmp 18) 28 rfl w.heap.size 3 i0 _ 1 8 Tryz.underlying28 Hi.out Hz.out.1 Hz.out.2.1 Hz.out.2.2 rfl (by decide) (.slice X l.length k) l.length (l.map (Value.int .i64)) rfl HTA.out.own ⟨w2.heap.size, 0, none⟩ 1 1 [.int .i64 (j : Int)] rfl rfl (fun j u hu => by rw [Addr.add_lit, Nat.zero_add]; exact HSB.out.2.1 j u hu) (fun u hu => by simp at hu; subst hu; rfl) (by omega) (by omega) (by omega) HTA.out.gr.size _ rfl ?_)
        intro g' cap' V9 ho' hg' hw' hlt9
        have HT9 := hide (HTA.out.append hg' (hw'.imp id (fun e => by rw [e]; simp)) ho')
        have hlen : l.length + 1 = (l ++ [(j : Int)]).length := by simp
        rw [hlen]
        have HLL := hide (show (l ++ [(j : Int)]).length ≤ j + 1 by simp; omega)
        clear hml hg' hw' ho' hlt9 HSB HTA HT hlen hlj
        generalize l ++ [(j : Int)] = LL at *
        go_wp2_with fail
        go_roundg (gk - 1)
        case measure => have := HGK.out; omega
        case rel => exact ⟨j + 1, some ⟨g', 0, none⟩, cap', LL, rfl, by go_num, by omega, hide (by have := HGK.out; omega), HLL, HT9⟩
    · have hjf : ((j : Int) < (m : Int)) = False := by simp; omega
      replace HT : Hid (OuAt d w tb [.slice A n c, .slice B m e0] X k l (N + 30) wr) := hide (HT.out.more (by omega))
      have hlj : l.length ≤ 11 := by have := HLJ.out; omega
      clear HGK HLJ
      go_wp2_with fail
      refine (pick_any d (N + 30) 24 _ hd HT.out.st (by omega) (by omega)).mono ?_
      rintro e w2 ⟨⟨p, rfl, hp0, hp1, hp2⟩, hs, hg⟩
      replace HT : Hid (OuAt d w tb [.slice A n c, .slice B m e0] X k l (N + 32) w2) := hide (HT.out.draw hs hg)
      clear hs hg hp0 hp1 hp2
      by_cases h0 : p = 0
      · have hp : (p == 0) = true := by simpa using h0
        clear h0
        have b0 := HT.out.box.2.1 0 _ rfl
        have b1 := HT.out.box.2.1 1 _ rfl
        have bz := HT.out.box.1
        go_wp2_with fail
        refine (among_lit d (N + 32) [(m : Int), -1, 0] _ _ rfl hd HT.out.st (by omega) (by simp) (by simp)).mono ?_
        rintro e w3 ⟨⟨z, rfl, -⟩, hs, hg⟩
        replace HT : Hid (OuAt d w tb [.slice A n c, .slice B m e0] X k l (N + 34) w3) := hide (HT.out.draw hs hg)
        clear hs hg b0 b1 bz
        have HTA := hide (HT.out.alloc (.cells #[.int .i64 z] 3))
        have HSB := hide (Row.new w3 #[.int .i64 z] 3)
        have hml : maxLen = 9223372036854775807 := rfl
        go_wp2_with (at_builtin; refine wpList_append_lies _ rfl (.tmp 25) (.tmp 32) 28 rfl w.heap.size 3 i0 _ 1 8 Tryz.underlying28 Hi.out Hz.out.1 Hz.out.2.1 Hz.out.2.2 rfl (by decide) (.slice X l.length k) l.length (l.map (Value.int .i64)) rfl HTA.out.own ⟨w3.heap.size, 0, none⟩ 1 1 [.int .i64 z] rfl rfl (fun j u hu => by rw [Addr.add_lit, Nat.zero_add]; exact HSB.out.2.1 j u hu) (fun u hu => by simp at hu; subst hu; rfl) (by omega) (by omega) (by omega) HTA.out.gr.size _ rfl ?_)
        intro g' cap' V9 ho' hg' hw' hlt9
        have HT9 := hide (HTA.out.append hg' (hw'.imp id (fun e => by rw [e]; simp)) ho')
        have hlen : l.length + 1 = (l ++ [z]).length := by simp
        rw [hlen]
        have HLL := hide (show (l ++ [z]).length ≤ 12 by simp; omega)
        clear hml hg' hw' ho' hlt9 HSB HTA HT hlen
        generalize l ++ [z] = LL at *
        go_wp2_with fail
        go_ret
        exact HT9.out.done HLL.out (by omega)
      · have hp0 : (p == 0) = false := by simpa using h0
        by_cases h1 : p = 1
        · have hp : (p == 1) = true := by simpa using h1
          clear h0 h1
          go_wp2_with fail
          go_ret
          exact ⟨⟨none, 0, [], rfl, by simp, World.ownsRow_nil _ _ _ _⟩, HT.out.st.more (by omega), HT.out.gr⟩
        · have hp1 : (p == 1) = false := by simpa using h1
          clear h0 h1
          go_wp2_with fail
          go_ret
          exact HT.out.done (by omega) (by omega)
end Go.Proofs.YtfcpgpmhjadanaaGreatDoor
namespace Go.Proofs.YtfcpgpmhjadanaaGreatDoor
open Go.RowKit
set_option linter.unusedVariables false

theorem run_ints4 (a b c d : Int) (w : World) : (Instr.buildSlice 28 4 #[(0, .int .i64 a), (1, .int .i64 b), (2, .int .i64 c), (3, .int .i64 d)]).run Tryz.prog w = .ok (.slice (some ⟨w.heap.size, 0, none⟩) 4 4) (w.alloc (.cells #[.int .i64 a, .int .i64 b, .int .i64 c, .int .i64 d] 3)) := by kernel_rfl
theorem wp_ints4 {Q : Exit → Act → World → Prop} {o : Oper} {ac : Act} {w : World} {K : Act → World → Prop} (a b c d : Int) (x0 x1 x2 x3 : Operand) (ho : o.op = .buildSlice 28 4 #[(0, x0), (1, x1), (2, x2), (3, x3)]) (e0 : ac.eval x0 = .int .i64 a) (e1 : ac.eval x1 = .int .i64 b) (e2 : ac.eval x2 = .int .i64 c) (e3 : ac.eval x3 = .int .i64 d) (h : K (ac.put o.dst (.slice (some ⟨w.heap.size, 0, none⟩) 4 4)) (w.alloc (.cells #[.int .i64 a, .int .i64 b, .int .i64 c, .int .i64 d] 3))) : Oper.wp Tryz.prog o ac w K Q := by
  refine wp_of_run ?_ h
  have := run_ints4 a b c d w
  unfold execOp
  simp only [ho, List.map_toArray, List.map_cons, List.map_nil, e0, e1, e2, e3, Sem.run_bind, this, Result.andThen_ok, Sem.run_pure]
/-- A net that lies between B0 and N0. -/
structure NtAt (B0 N0 : Nat) (A : Option Addr) (n c : Nat) (M : List (Int × Int)) (B : Option Addr) (m e : Nat) (H : List (Int × Int)) (wr : World) : Prop where
  ownM : wr.ownsRow B0 36 2 (.slice A n c) n (M.flatMap mcells)
  ownH : wr.ownsRow B0 73 2 (.slice B m e) m (H.flatMap mcells)
  ltM : ∀ q, (Value.slice A n c).ownBlock = some q → q < N0
  ltH : ∀ q, (Value.slice B m e).ownBlock = some q → q < N0
section
variable {B0 N0 n c m e : Nat} {A B : Option Addr} {M H : List (Int × Int)} {wr w' : World}
theorem NtAt.grown (h : NtAt B0 N0 A n c M B m e H wr) {row : Option Nat} (hg : wr.grownBy w' row) (hr : ∀ k, row = some k → k < B0 ∨ N0 ≤ k) : NtAt B0 N0 A n c M B m e H w' :=
  ⟨own_keep h.ownM hg (fun q hq e => by have := (h.ownM.lt q hq).1; have := h.ltM q hq; have := hr q e; omega), own_keep h.ownH hg (fun q hq e => by have := (h.ownH.lt q hq).1; have := h.ltH q hq; have := hr q e; omega), h.ltM, h.ltH⟩
theorem NtAt.below (h : NtAt B0 N0 A n c M B m e H wr) (hb : Below wr.heap.size wr w') : NtAt B0 N0 A n c M B m e H w' := h.grown (grown_of_below hb none) (fun k hk => by cases hk)
theorem NtAt.alloc (h : NtAt B0 N0 A n c M B m e H wr) (o : Obj) : NtAt B0 N0 A n c M B m e H (wr.alloc o) := h.below ((Below.refl _ _).alloc (Nat.le_refl _) o)
theorem NtAt.drew (h : NtAt B0 N0 A n c M B m e H wr) : NtAt B0 N0 A n c M B m e H wr.drew := h.below (Below.refl _ _).drew
theorem NtAt.draw (h : NtAt B0 N0 A n c M B m e H wr) {g : Nat} (hg : wr.grownBy w' (some g)) (h0 : g < B0) : NtAt B0 N0 A n c M B m e H w' := h.grown hg (fun k hk => .inl (by injection hk with hk; omega))
theorem NtAt.rd (h : NtAt B0 N0 A n c M B m e H wr) : NetRd wr A B M H := ⟨own_rd h.ownM, own_rd h.ownH⟩
end
theorem OuAt.first {d : Drw} {w wr : World} {tb c N : Nat} {xs : List Value} {A : Option Addr} {l : List Int} (h : OuAt d w tb xs A c l N wr) (hm : 0 < l.length) : ∃ g, A = some ⟨g, 0, none⟩ := by
  obtain ⟨A', cap, hv, hr, hn, hc, h0, h1⟩ := own_open h.own
  simp only [Value.slice.injEq, true_and] at hv
  obtain ⟨rfl, rfl⟩ := hv
  cases A with
  | none => have := (h0 rfl).1; omega
  | some ad =>
    obtain ⟨b, off, sp⟩ := ad
    obtain ⟨rfl, rfl, -⟩ := h1 b off sp rfl
    exact ⟨b, rfl⟩

set_option maxRecDepth 100000 in
set_option maxHeartbeats 16000000 in
theorem flowsOf_any (d : Drw) (N : Nat) (B0 n m c e0 ko kc : Nat) (A B C : Option Addr) (M H : List (Int × Int)) (O : List Int) (w : World) (hd : d.ok) (h : d.st N w) (hN : N ≤ 10000000000) (hB : d.g < B0) (hBw : B0 ≤ w.heap.size) (hn : n = M.length) (hm : m = H.length) (hn11 : n ≤ 11) (hm11 : m ≤ 11) (hk : ko = O.length) (hko : ko ≤ 20)
    (hoM : w.ownsRow B0 36 2 (.slice A n c) n (M.flatMap mcells)) (hoH : w.ownsRow B0 73 2 (.slice B m e0) m (H.flatMap mcells)) (hoC : w.ownsRow B0 3 1 (.slice C ko kc) ko (O.map (Value.int .i64))) (hns : ∀ x ∈ H, NS x) :
    Calls Tryz.prog 27 #[.pointer (some ⟨d.g, 0, none⟩), .agg #[.slice A n c, .slice B m e0], .slice C ko kc] w (DrwInts d (N + 100) 12 w) := by
  have HT : Hid (OuAt d w w.heap.size [.slice A n c, .slice B m e0] none 0 [] N (w.alloc (.cells #[.slice A n c, .slice B m e0] 27))) := hide ⟨h.alloc _, grown_of_below ((Below.refl _ _).alloc (Nat.le_refl _) _) _, Row.new _ _ _, World.ownsRow_nil _ _ _ _, ⟨h.lt, Nat.le_refl _, hd.2.2.2.2⟩, fun q hq => (by cases hq)⟩
  have HN : Hid (NtAt B0 w.heap.size A n c M B m e0 H (w.alloc (.cells #[.slice A n c, .slice B m e0] 27))) := hide (NtAt.alloc ⟨hoM, hoH, fun q hq => (hoM.lt q hq).2, fun q hq => (hoH.lt q hq).2⟩ _)
  have HC : Hid ((w.alloc (.cells #[.slice A n c, .slice B m e0] 27)).ownsRow B0 3 1 (.slice C ko kc) ko (O.map (Value.int .i64))) := hide (World.ownsRow.alloc hoC _)
  have HKO := hide hk
  have HMN := hide (And.intro hn hm)
  have HNS := hide hns
  have HBB := hide (And.intro hB hBw)
  have HML : Hid (20 ≤ maxLen) := hide (by unfold maxLen; omega)
  obtain ⟨i0, hi0, hz0, hz1, hz2⟩ := info_parts infoIntD
  have Hi := hide hi0
  have Hz := hide (And.intro hz0 (And.intro hz1 hz2))
  clear h hi0 hz0 hz1 hz2 hoM hoH hoC hns hn hm hk hB hBw
  go_enter Tryz.func27, Tryz.ntmps27
  go_upto_region 2 with fail
  generalize w.alloc (.cells #[.slice A n c, .slice B m e0] 27) = w1 at *
  obtain ⟨tb, htb⟩ : ∃ tb, tb = w.heap.size := ⟨_, rfl⟩
  rw [← htb] at HT ⊢
  clear htb
  go_cut [17] (fun s wx => ∃ b : Bool, s = .bool b ∧ Hid (b = true → openB M H O = true) ∧ Hid (OuAt d w tb [.slice A n c, .slice B m e0] none 0 [] (N + 2) wx) ∧ Hid (NtAt B0 w.heap.size A n c M B m e0 H wx) ∧ Hid (wx.ownsRow B0 3 1 (.slice C ko kc) ko (O.map (Value.int .i64))))
  case first =>
    have b0 := HT.out.box.2.1 0 _ rfl
    have b1 := HT.out.box.2.1 1 _ rfl
    have bz := HT.out.box.1
    go_wp2_with fail
    refine (hyOpen_any A B C n c m e0 ko kc M H O _ HMN.out.1 HMN.out.2 (by have := HML.out; omega) (by have := HML.out; omega) HKO.out (by have := HML.out; omega) HN.out.rd (own_rd HC.out)).mono ?_
    rintro e w2 ⟨rfl, hb⟩
    replace HT : Hid (OuAt d w tb [.slice A n c, .slice B m e0] none 0 [] N w2) := hide (HT.out.below hb)
    replace HN : Hid (NtAt B0 w.heap.size A n c M B m e0 H w2) := hide (HN.out.below hb)
    replace HC := hide (own_below HC.out hb)
    clear hb b0 b1 bz
    obtain ⟨ob, hob⟩ : ∃ ob, ob = openB M H O := ⟨_, rfl⟩
    rw [← hob]
    have HOB := hide hob
    clear hob
    cases ob with
    | false =>
      go_wp2_with fail
      go_meet
      exact ⟨false, rfl, hide (fun h => (by cases h)), hide (HT.out.more (by omega)), HN, HC⟩
    | true =>
      go_wp2_with fail
      refine (one_any d N 2 _ hd HT.out.st (by omega) (by omega)).mono ?_
      rintro e w3 ⟨⟨b, rfl⟩, hs, hg⟩
      replace HT : Hid (OuAt d w tb [.slice A n c, .slice B m e0] none 0 [] (N + 2) w3) := hide (HT.out.draw hs hg)
      replace HN : Hid (NtAt B0 w.heap.size A n c M B m e0 H w3) := hide (HN.out.draw hg HBB.out.1)
      replace HC := hide (own_far HC.out hg HBB.out.1)
      clear hs hg
      cases b with
      | false =>
        go_wp2_with fail
        go_meet
        exact ⟨false, rfl, hide (fun h => (by cases h)), HT, HN, HC⟩
      | true =>
        go_wp2_with fail
        go_meet
        exact ⟨true, rfl, hide (fun _ => HOB.out.symm), HT, HN, HC⟩
  clear HT HN HC
  obtain ⟨b, rfl, HOB, HT, HN, HC⟩ := hcut
  cases b with
  | true => as_aux_lemma =>
    have hop := HOB.out rfl
    have hnb : netB M H = true := by
      cases h : netB M H with
      | true => rfl
      | false => rw [openB_no h] at hop; cases hop
    have HR : Hid (risB 0 ((m : Int) - 1) O = true) := hide (by rw [openB_eq hnb] at hop; rw [HMN.out.2]; exact hop)
    have HK : Hid (NetOk M H) := hide (netB_ok hnb)
    have b0 := HT.out.box.2.1 0 _ rfl
    have b1 := HT.out.box.2.1 1 _ rfl
    have bz := HT.out.box.1
    rename World => wc
    clear hop hnb
    go_wp2_with fail
    refine (hyFill_any A B C n c m e0 ko kc M H O _ HMN.out.1 HMN.out.2 HK.out HKO.out HR.out HN.out.rd (own_rd HC.out)).mono ?_
    rintro e w2 ⟨⟨g, rfl, ho⟩, hb⟩
    obtain ⟨L, hL⟩ : ∃ L : List Int, L = (List.range m).map (fillD M H O O.length) := ⟨_, rfl⟩
    have hLm : L.length = m := by rw [hL]; simp
    have HL := hide hLm
    have HT2 : Hid (OuAt d w tb [.slice A n c, .slice B m e0] (some ⟨g, 0, none⟩) m L (N + 2) w2) := hide ⟨HT.out.st.below hb, grown_trans HT.out.gr (grown_of_below hb _), HT.out.box.below hb, by
      have := own_le (ownD_list ho) HT.out.gr.size
      rw [← hL] at this
      rw [hLm] at this ⊢
      exact this, HT.out.ord, fun q hq => by
      have h1 := ho.lt.1
      have h2 := HT.out.box.1
      simp [Value.ownBlock] at hq
      omega⟩
    clear hb b0 b1 bz ho hL hLm HT HN HC HR HK
    by_cases h0 : 0 < m
    · have h0' : (0 : Int) < (m : Int) := by omega
      go_wp2_with fail
      refine (one_any d (N + 2) 2 _ hd HT2.out.st (by omega) (by omega)).mono ?_
      rintro e w3 ⟨⟨b, rfl⟩, hs, hg⟩
      replace HT2 : Hid (OuAt d w tb [.slice A n c, .slice B m e0] (some ⟨g, 0, none⟩) m L (N + 4) w3) := hide (HT2.out.draw hs hg)
      clear hs hg
      cases b with
      | false =>
        go_wp2_with fail
        go_ret
        have hfin := HT2.out.done (m := 12) (K := N + 100) (by rw [HL.out]; omega) (by omega)
        rw [HL.out] at hfin
        exact hfin
      | true =>
        go_wp2_with fail
        refine (pick_any d (N + 4) (m : Int) _ hd HT2.out.st (by omega) (by omega)).mono ?_
        rintro e w4 ⟨⟨x, rfl, hx0, hx1, hx2⟩, hs, hg⟩
        replace HT2 : Hid (OuAt d w tb [.slice A n c, .slice B m e0] (some ⟨g, 0, none⟩) m L (N + 6) w4) := hide (HT2.out.draw hs hg)
        obtain ⟨q, rfl⟩ := Int.eq_ofNat_of_zero_le hx0
        have hqm : q < m := by omega
        clear hs hg hx0 hx1 hx2
        obtain ⟨y, hy⟩ : ∃ y, L[q]? = some y := ⟨_, List.getElem?_eq_getElem (by rw [HL.out]; exact hqm)⟩
        have hym : (L.map (Value.int .i64))[q]? = some (.int .i64 y) := by rw [List.getElem?_map, hy]; rfl
        have HCA : Hid (∀ (W : World) (N' : Nat), OuAt d w tb [.slice A n c, .slice B m e0] (some ⟨g, 0, none⟩) m L N' W → W.cell? ⟨g, q, none⟩ = some (.int .i64 y) ∧ W.frozen? ⟨g, q, none⟩ = false ∧ g < W.heap.size) := hide (fun W N' h => ⟨(h.own.cellAt q (by rw [HL.out]; omega)).trans hym, h.own.frozenAt q, (h.own.lt g rfl).2⟩)
        clear hy hym
        obtain ⟨ca, fa, ga⟩ := HCA.out _ _ HT2.out
        have hi0 : (0 : Int) ≤ (q : Int) := by omega
        have hi1 : (q : Int) < (m : Int) := by omega
        have tg : g ≠ d.g := by have := (HT2.out.own.lt g rfl).1; have := HT2.out.ord.1; omega
        go_wp2_with fail
        refine wpAnyX_start (fun w' => ∃ n : LaterX w4 d.g, w' = n.w) [11] (n := 12) (by kernel_rfl) rfl rfl ?_
        refine wpAnyX_take [0, 1, 2, 3, 4, 5, 6] 5 rfl (by kernel_rfl) (by intro c a d v w h; cases d <;> exact h) (by kernel_rfl) (by kernel_rfl) (by kernel_rfl) (by simp; rfl) rfl (laterX_drew _ _) ?_
        repeat (go_big_quiet_step (fail))
        refine wpQuiet_nil ?_
        have HG : Hid (w4.grownBy w4.drew (some d.g)) := hide (grown_of_below (Below.refl _ _).drew _)
        replace HT2 := hide HT2.out.drew
        clear ca fa ga tg
        generalize w4.drew = V0 at *
        refine wpAnyX_only 7 (by kernel_rfl) (by simp; rfl) rfl rfl (fun K hK => ?_)
        go_wp2_with fail
        refine (pick_any d (N + 6) 3 _ hd HT2.out.st (by omega) (by omega)).mono ?_
        rintro e V1 ⟨⟨x2, rfl, y0, y1, y2⟩, hs, hg⟩
        replace HT2 : Hid (OuAt d w tb [.slice A n c, .slice B m e0] (some ⟨g, 0, none⟩) m L (N + 8) V1) := hide (HT2.out.draw hs hg)
        replace HG := hide (grown_trans HG.out hg)
        clear hs hg y0 y1 y2
        obtain ⟨sv, hsv⟩ : ∃ sv, IntKind.i64.wrap (y - x2) = sv := ⟨_, rfl⟩
        go_wp2_with fail
        refine ⟨laterX_of HG.out, ?_⟩
        refine wpAnyX_take [8] 3 rfl (by kernel_rfl) (by intro c a d v w h; cases d <;> exact h) (by kernel_rfl) (by kernel_rfl) (by kernel_rfl) (by simp; rfl) rfl (laterX_of HG.out) ?_
        repeat (go_big_quiet_step (fail))
        refine wpQuiet_nil ?_
        clear hsv
        refine wpAnyX_only 9 (by kernel_rfl) (by simp; rfl) rfl rfl (fun K hK => ?_)
        go_wp2_with fail
        refine (l1Most_any 0 sv _).mono ?_
        rintro e V2 ⟨rfl, rfl⟩
        generalize max 0 sv = mv
        go_wp2_with fail
        refine ⟨laterX_of HG.out, ?_⟩
        refine wpAnyX_take [10] 1 rfl (by kernel_rfl) (by intro c a d v w h; cases d <;> exact h) (by kernel_rfl) (by kernel_rfl) (by kernel_rfl) (by simp; rfl) rfl (laterX_of HG.out) ?_
        repeat (go_big_quiet_step (fail))
        refine wpQuiet_nil ?_
        refine wpAnyX_last 11 (by kernel_rfl) (by simp; rfl) rfl rfl (by kernel_rfl) (fun K hK => ?_)
        obtain ⟨ca, fa, ga⟩ := HCA.out _ _ HT2.out
        have HT9 := hide (HT2.out.stored q mv)
        go_wp2_with fail
        refine wpAnyX_done (by kernel_rfl) ?_ _
        clear ca fa ga HT2 HG
        go_wp2_with fail
        go_ret
        have hfin := HT9.out.done (m := 12) (K := N + 100) (by rw [List.length_set, HL.out]; omega) (by omega)
        rw [List.length_set, HL.out] at hfin
        exact hfin
    · have h0' : ((0 : Int) < (m : Int)) = False := by simp; omega
      go_wp2_with fail
      go_ret
      have hfin := HT2.out.done (m := 12) (K := N + 100) (by rw [HL.out]; omega) (by omega)
      rw [HL.out] at hfin
      exact hfin
  | false =>
    clear HOB HC HKO
    have b0 := HT.out.box.2.1 0 _ rfl
    have b1 := HT.out.box.2.1 1 _ rfl
    have bz := HT.out.box.1
    go_upto_region 9 with fail
    clear b0 b1 bz
    go_loopg [7, 47] 12 (fun g sl ti wr => ∃ (j : Nat) (X : Option Addr) (k : Nat) (l : List Int), sl = .slice X l.length k ∧ ti = .int .i64 (j : Int) ∧ j ≤ m ∧ Hid (m ≤ g + j) ∧ Hid (l.length = j) ∧ Hid (OuAt d w tb [.slice A n c, .slice B m e0] X k l (N + 2 + 2 * j) wr) ∧ Hid (NtAt B0 w.heap.size A n c M B m e0 H wr))
    case atStart => exact ⟨0, none, 0, [], rfl, rfl, by omega, hide (by omega), hide (by simp), HT, HN⟩
    case round =>
      clear HT HN
      obtain ⟨j, X, k, l, rfl, rfl, hj, HGK, HLJ, HT, HN⟩ := hrel
      by_cases hlt : j < m
      · obtain ⟨⟨x0, x1⟩, hx⟩ : ∃ x, H[j]? = some x := ⟨_, List.getElem?_eq_getElem (by rw [← HMN.out.2]; exact hlt)⟩
        have HX := hide (HNS.out _ (List.mem_of_getElem? hx))
        obtain ⟨b, off, rfl, hbs, c0, c1⟩ := HN.out.rd.2.get2 (fun _ => rfl) hx rfl
        dsimp only at c0 c1
        have hj0 : (0 : Int) ≤ (j : Int) := by omega
        have hj1 : (j : Int) < (m : Int) := by omega
        clear hx
        go_upto_region 11 with fail
        have HBX := hide (Row.new wr #[.int .i64 x0, .int .i64 x1] 73)
        have tg : wr.heap.size ≠ d.g := by have := HT.out.st.lt; omega
        replace HT := hide (HT.out.alloc (.cells #[.int .i64 x0, .int .i64 x1] 73))
        replace HN := hide (HN.out.alloc (.cells #[.int .i64 x0, .int .i64 x1] 73))
        clear c0 c1 hbs
        generalize wr.alloc (.cells #[.int .i64 x0, .int .i64 x1] 73) = w5 at *
        generalize wr.heap.size = hb at *
        have r0 := HBX.out.2.1 0 _ rfl
        have r1 := HBX.out.2.1 1 _ rfl
        have rz := HBX.out.1
        go_wp2_with fail
        obtain ⟨hf, hhf⟩ : ∃ hf, IntKind.i64.wrap (Int.tdiv x1 2) = hf := ⟨_, rfl⟩
        refine wpAnyX_start (fun w' => ∃ n : LaterX w5 d.g, w' = n.w) [13] (n := 15) (by kernel_rfl) rfl rfl ?_
        refine wpAnyX_take [0, 1, 2, 3, 4, 5, 6, 7, 8] 6 rfl (by kernel_rfl) (by intro c a d v w h; cases d <;> exact h) (by kernel_rfl) (by kernel_rfl) (by kernel_rfl) (by simp; rfl) rfl (laterX_drew _ _) ?_
        repeat (go_big_quiet_step (fail))
        refine wpQuiet_nil ?_
        have HG : Hid (w5.grownBy w5.drew (some d.g)) := hide (grown_of_below (Below.refl _ _).drew _)
        replace HT := hide HT.out.drew
        replace HN := hide HN.out.drew
        clear r0 r1 rz tg hhf HBX
        generalize w5.drew = V0 at *
        refine wpAnyX_only 9 (by kernel_rfl) (by simp; rfl) rfl rfl (fun K hK => ?_)
        go_wp2_with fail
        refine (l1Least_any x1 300 _).mono ?_
        rintro e V1 ⟨rfl, rfl⟩
        generalize min x1 300 = mv
        go_wp2_with fail
        refine ⟨laterX_of HG.out, ?_⟩
        refine wpAnyX_only 10 (by kernel_rfl) (by simp; rfl) rfl rfl (fun K hK => ?_)
        have HB := hide (Row.new V0 #[.int .i64 0, .int .i64 x1, .int .i64 hf, .int .i64 mv] 3)
        have HBG : Hid (V0.heap.size ≠ d.g) := hide (by have := HT.out.st.lt; omega)
        replace HT := hide (HT.out.alloc (.cells #[.int .i64 0, .int .i64 x1, .int .i64 hf, .int .i64 mv] 3))
        replace HN := hide (HN.out.alloc (.cells #[.int .i64 0, .int .i64 x1, .int .i64 hf, .int .i64 mv] 3))
        replace HG := hide (grown_new HG.out (.cells #[.int .i64 0, .int .i64 x1, .int .i64 hf, .int .i64 mv] 3))
        refine wp_ints4 0 x1 hf mv (.const (.int .i64 0)) (.tmp 54) (.tmp 57) (.tmp 60) rfl rfl rfl rfl rfl (hK _ _ ⟨laterX_of HG.out, ?_⟩)
        simp only [Act.put, List.setIfInBounds_toArray, List.set_cons_succ, List.set_cons_zero]
        generalize V0.alloc (.cells #[.int .i64 0, .int .i64 x1, .int .i64 hf, .int .i64 mv] 3) = V2 at *
        generalize V0.heap.size = lb at *
        refine wpAnyX_only 11 (by kernel_rfl) (by simp; rfl) rfl rfl (fun K hK => ?_)
        go_wp2_with fail
        refine (among_any d (N + 2 + 2 * j) (some ⟨lb, 0, none⟩) 4 4 [0, x1, hf, mv] _ hd HT.out.st (by omega) rfl (by omega) (by omega) (by exact HB.out.rd) (fun b o sp e => by injection e with e; injection e with e; have := HBG.out; omega)).mono ?_
        rintro e V4 ⟨⟨z, rfl, -⟩, hs, hg⟩
        clear HB HBG
        replace HT := hide (HT.out.draw hs hg)
        replace HN := hide (HN.out.draw hg HBB.out.1)
        replace HG := hide (grown_trans HG.out hg)
        clear hs hg
        go_wp2_with fail
        refine ⟨laterX_of HG.out, ?_⟩
        refine wpAnyX_only 12 (by kernel_rfl) (by simp; rfl) rfl rfl (fun K hK => ?_)
        go_wp2_with fail
        have HS := hide (Row.new V4 #[.int .i64 z] 3)
        replace HT := hide (HT.out.alloc (.cells #[.int .i64 z] 3))
        replace HN := hide (HN.out.alloc (.cells #[.int .i64 z] 3))
        replace HG := hide (grown_new HG.out (.cells #[.int .i64 z] 3))
        refine ⟨laterX_of HG.out, ?_⟩
        generalize V4.alloc (.cells #[.int .i64 z] 3) = V5 at *
        generalize V4.heap.size = sb at *
        refine wpAnyX_last 13 (by kernel_rfl) (by simp; rfl) rfl rfl (by kernel_rfl) (fun K hK => ?_)
        have hml : maxLen = 9223372036854775807 := rfl
        have hlj := HLJ.out
        refine wp_append_lies _ (.tmp 51) (.tmp 63) 28 rfl w.heap.size 3 i0 _ 1 8 Tryz.underlying28 Hi.out Hz.out.1 Hz.out.2.1 Hz.out.2.2 rfl (by decide) (.slice X l.length k) l.length (l.map (Value.int .i64)) rfl HT.out.own ⟨sb, 0, none⟩ 1 1 [.int .i64 z] rfl rfl (fun j u hu => by rw [Addr.add_lit, Nat.zero_add]; exact HS.out.2.1 j u hu) (fun u hu => by simp at hu; subst hu; rfl) (by omega) (by omega) (by omega) HT.out.gr.size V5.heap.size rfl (fun g' cap' V9 ho' hg' hw' hlt' => ?_)
        have HT9 := hide (HT.out.append hg' hw' ho')
        have HN9 := hide (HN.out.grown hg' (fun k hk => .inr (HT.out.own.lt k hk).1))
        have hlen : l.length + 1 = (l ++ [z]).length := by simp
        rw [hlen]
        have HLL := hide (show (l ++ [z]).length = j + 1 by simp; omega)
        clear HS hml hg' hw' ho' hlt' HG HT HN hlen hlj
        generalize l ++ [z] = LL at *
        refine hK _ _ ?_
        simp only [Act.put, List.setIfInBounds_toArray, List.set_cons_succ, List.set_cons_zero]
        refine wpAnyX_last 14 (by kernel_rfl) (by simp; rfl) rfl rfl (by kernel_rfl) (fun K hK => ?_)
        go_wp2_with fail
        refine wpAnyX_done (by kernel_rfl) ?_ _
        go_wp2_with fail
        go_roundg (gk - 1)
        case measure => have := HGK.out; omega
        case rel => exact ⟨j + 1, some ⟨g', 0, none⟩, cap', LL, rfl, by go_num, by omega, hide (by have := HGK.out; omega), HLL, hide (HT9.out.more (by omega)), HN9⟩
      · obtain rfl : m = j := by omega
        have hjf : ((m : Int) < (m : Int)) = False := by simp
        replace HT : Hid (OuAt d w tb [.slice A n c, .slice B m e0] X k l (N + 40) wr) := hide (HT.out.more (by omega))
        have hlj : l.length ≤ 11 := by have := HLJ.out; omega
        clear HGK
        go_wp2_with fail
        refine (pick_any d (N + 40) 16 _ hd HT.out.st (by omega) (by omega)).mono ?_
        rintro e w5 ⟨⟨p, rfl, hp0, hp1, hp2⟩, hs, hg⟩
        replace HT : Hid (OuAt d w tb [.slice A n c, .slice B m e0] X k l (N + 42) w5) := hide (HT.out.draw hs hg)
        replace HN : Hid (NtAt B0 w.heap.size A n c M B m e0 H w5) := hide (HN.out.draw hg HBB.out.1)
        clear hs hg hp0 hp1 hp2
        by_cases h0 : p = 0
        · have hp : (p == 0) = true := by simpa using h0
          clear h0
          have HTA := hide (HT.out.alloc (.cells #[.int .i64 0] 3))
          have HNA := hide (HN.out.alloc (.cells #[.int .i64 0] 3))
          have HSB := hide (Row.new w5 #[.int .i64 0] 3)
          have hml : maxLen = 9223372036854775807 := rfl
          go_wp2_with (at_builtin; refine wpList_append_lies _ rfl (.tmp 70) (.tmp 71) 28 rfl w.heap.size 3 i0 _ 1 8 Tryz.underlying28 Hi.out Hz.out.1 Hz.out.2.1 Hz.out.2.2 rfl (by decide) (.slice X l.length k) l.length (l.map (Value.int .i64)) rfl HTA.out.own ⟨w5.heap.size, 0, none⟩ 1 1 [.int .i64 0] rfl rfl (fun j u hu => by rw [Addr.add_lit, Nat.zero_add]; exact HSB.out.2.1 j u hu) (fun u hu => by simp at hu; subst hu; rfl) (by omega) (by omega) (by omega) HTA.out.gr.size _ rfl ?_)
          intro g' cap' V9 ho' hg' hw' hlt9
          have HT9 := hide (HTA.out.append hg' (hw'.imp id (fun e => by rw [e]; simp)) ho')
          have HN9 := hide (HNA.out.grown hg' (fun k hk => .inr (HTA.out.own.lt k hk).1))
          have hlen : l.length + 1 = (l ++ [0]).length := by simp
          rw [hlen]
          have HLL := hide (show (l ++ [0]).length ≤ 12 by simp; omega)
          clear hml hg' hw' ho' hlt9 HSB HTA HNA HT HN hlen
          generalize l ++ [0] = LL at *
          go_wp2_with fail
          go_ret
          exact HT9.out.done HLL.out (by omega)
        · have hp0 : (p == 0) = false := by simpa using h0
          by_cases h1 : p = 1
          · have hp : (p == 1) = true := by simpa using h1
            clear h0 h1
            by_cases hz : 0 < l.length
            · have hz' : (0 : Int) < (l.length : Int) := by omega
              obtain ⟨⟨x0, x1⟩, hx⟩ : ∃ x, H[0]? = some x := ⟨_, List.getElem?_eq_getElem (by rw [← HMN.out.2]; have := HLJ.out; omega)⟩
              have hj1 : (0 : Int) < (m : Int) := by have := HLJ.out; omega
              obtain ⟨b, off, hC, hbs, c0, c1⟩ := HN.out.rd.2.get2 (fun _ => rfl) hx rfl
              subst hC
              dsimp only at c0 c1
              simp only [Nat.zero_mul, Nat.add_zero] at c0 c1
              have b0 := HT.out.box.2.1 0 _ rfl
              have b1 := HT.out.box.2.1 1 _ rfl
              have bz := HT.out.box.1
              obtain ⟨sv, hsv⟩ : ∃ sv, IntKind.i64.wrap (x1 + 1) = sv := ⟨_, rfl⟩
              clear hx
              obtain ⟨g, rfl⟩ := HT.out.first hz
              obtain ⟨y, hy⟩ : ∃ y, l[0]? = some y := ⟨_, List.getElem?_eq_getElem hz⟩
              have hym : (l.map (Value.int .i64))[0]? = some (.int .i64 y) := by rw [List.getElem?_map, hy]; rfl
              have HCA : Hid (∀ (W : World) (N' : Nat), OuAt d w tb [.slice A n c, .slice (some ⟨b, off, none⟩) m e0] (some ⟨g, 0, none⟩) k l N' W → W.cell? ⟨g, 0, none⟩ = some (.int .i64 y) ∧ W.frozen? ⟨g, 0, none⟩ = false ∧ g < W.heap.size) := hide (fun W N' h => ⟨(h.own.cellAt 0 (by omega)).trans hym, h.own.frozenAt 0, (h.own.lt g rfl).2⟩)
              clear hy hym
              go_wp2_with fail
              refine (among_lit d (N + 42) [-1, sv] _ _ rfl hd HT.out.st (by omega) (by simp) (by simp)).mono ?_
              rintro e w6 ⟨⟨z, rfl, -⟩, hs, hg⟩
              replace HT := hide (HT.out.draw hs hg)
              clear hs hg c0 c1 hbs b0 b1 bz hsv
              obtain ⟨ca, fa, ga⟩ := HCA.out _ _ HT.out
              have HT9 := hide (HT.out.stored 0 z)
              go_wp2_with fail
              go_ret
              have hfin := HT9.out.done (m := 12) (K := N + 100) (by rw [List.length_set]; omega) (by omega)
              rw [List.length_set] at hfin
              exact hfin
            · have hz' : ((0 : Int) < (l.length : Int)) = False := eq_false (by omega)
              go_wp2_with fail
              go_ret
              exact HT.out.done (by omega) (by omega)
          · have hp1 : (p == 1) = false := by simpa using h1
            clear h0 h1
            go_wp2_with fail
            go_ret
            exact HT.out.done (by omega) (by omega)
end Go.Proofs.YtfcpgpmhjadanaaGreatDoor
namespace Go.Proofs.YtfcpgpmhjadanaaGreatDoor
open Go.RowKit
set_option linter.unusedVariables false
set_option linter.unusedSimpArgs false

section
variable {P : Program} {ops : Array Oper} {Q : Exit → Act → World → Prop} {md : Region.Mode} {S : World → Prop} {X : List Nat}
/-- Two are ready; the second is one of X. -/
theorem wpAnyX_twoX (i j : Nat) {oi oj : Oper} {fuel : Nat} {listed li lj : Array Bool} {a : Act} {w : World} (hr : Region.ready md ops listed = [i, j]) (hoi : ops[i]? = some oi) (hoj : ops[j]? = some oj) (hLi : listed.setIfInBounds i true = li) (hLj : listed.setIfInBounds j true = lj) (hgi : oi.guard = none) (hgj : oj.guard = none) (hx : X.any (fun x => lj.getD x false) = true)
    (h1 : ∀ K : Act → World → Prop, (∀ a w', (S w' ∧ wpAnyX P md ops Q S X fuel li a w') → K a w') → Oper.wp P oi a w K Q)
    (h2 : ∀ K : Act → World → Prop, (∀ a w', wpAnyX P md ops Q S X fuel lj a w' → K a w') → Oper.wp P oj a w K Q) :
    wpAnyX P md ops Q S X (fuel + 1) listed a w := by
  refine wpAnyX_all hr (by simp) fun k hk => ?_
  simp only [List.mem_cons, List.not_mem_nil, or_false] at hk
  rcases hk with rfl | rfl
  · refine wpOp_step hoi (fun K' hK => ?_)
    rw [if_pos (by simp [Region.wanted, hgi])]
    refine h1 K' (fun a' w' ⟨hS, hW⟩ => hK _ _ ⟨.inl hS, ?_⟩)
    rw [hLi]
    exact hW
  · refine wpOp_step hoj (fun K' hK => ?_)
    rw [if_pos (by simp [Region.wanted, hgj])]
    refine h2 K' (fun a' w' hW => hK _ _ ⟨.inr ?_, ?_⟩)
    · obtain ⟨x, hx1, hx2⟩ := List.any_eq_true.1 hx
      rw [hLj]
      exact ⟨x, hx1, hx2⟩
    · rw [hLj]
      exact hW
end
/-- A drawn net, as it is handed on. -/
def Nets (w w' : World) (A : Option Addr) (c : Nat) (M : List (Int × Int)) (B : Option Addr) (k : Nat) (H : List (Int × Int)) : Prop :=
  AnyNet M H ∧ w'.ownsRow w.heap.size 36 2 (.slice A M.length c) M.length (M.flatMap mcells) ∧ w'.ownsRow w.heap.size 73 2 (.slice B H.length k) H.length (H.flatMap mcells)
/-- A drawn list of integers, as it is handed on. -/
def Nums (w w' : World) (C : Option Addr) (e : Nat) (O : List Int) : Prop := O.length ≤ 12 ∧ w'.ownsRow w.heap.size 3 1 (.slice C O.length e) O.length (O.map (Value.int .i64))
def NetOne (w : World) (e : Ending) (w' : World) : Prop :=
  (∃ (A : Option Addr) (c : Nat) (M : List (Int × Int)) (B : Option Addr) (k : Nat) (H : List (Int × Int)) (C : Option Addr) (q : Nat) (O : List Int), e = .returned (.tuple #[.agg #[.slice A M.length c, .slice B H.length k], .slice C O.length q]) ∧ Nets w w' A c M B k H ∧ Nums w w' C q O) ∧ Below w.heap.size w w'
def NetTwo (w : World) (e : Ending) (w' : World) : Prop :=
  (∃ (A : Option Addr) (c : Nat) (M : List (Int × Int)) (B : Option Addr) (k : Nat) (H : List (Int × Int)) (C : Option Addr) (q : Nat) (O : List Int) (E : Option Addr) (r : Nat) (F : List Int), e = .returned (.tuple #[.agg #[.slice A M.length c, .slice B H.length k], .slice C O.length q, .slice E F.length r]) ∧ Nets w w' A c M B k H ∧ Nums w w' C q O ∧ Nums w w' E r F) ∧ Below w.heap.size w w'
/-- A drawer that begins behind the result's cell. -/
theorem drw_net (w : World) (A : Option Addr) (n c : Nat) (code : List Int) (hn : n = code.length) (hm : n ≤ maxLen) (hb : ∀ x ∈ code, 0 ≤ x ∧ x ≤ 255) (hr : Rd w A (code.map (Value.int .u8))) :
    ∃ d : Drw, d.W0 = w.alloc (.cells #[.slice none 0 0, .slice none 0 0] 27) ∧ d.g = w.heap.size + 1 ∧ d.ok ∧ d.st 0 ((w.alloc (.cells #[.slice none 0 0, .slice none 0 0] 27)).alloc (.cells #[.slice A n c, .int .i64 0, .int .u64 0] 52)) ∧
      Row ((w.alloc (.cells #[.slice none 0 0, .slice none 0 0] 27)).alloc (.cells #[.slice A n c, .int .i64 0, .int .u64 0] 52)) w.heap.size [.slice none 0 0, .slice none 0 0] := by
  have hr2 := hr.alloc (.cells #[.slice none 0 0, .slice none 0 0] 27)
  exact ⟨⟨_, _, A, n, c, code⟩, rfl, by simp, ⟨hn, hm, hb, hr2, Nat.le_refl _⟩, ⟨(Below.refl _ _).alloc (Nat.le_refl _) _, 0, 0, Nat.le_refl _, ⟨by omega, by omega⟩, Row.new _ _ _⟩, (Row.new w _ _).alloc _⟩
/-- What is known while the arguments are drawn: the result's cell, the net's box, the net. -/
structure NrAt (d : Drw) (w : World) (tb : Nat) (A : Option Addr) (c : Nat) (M : List (Int × Int)) (B : Option Addr) (k : Nat) (H : List (Int × Int)) (N : Nat) (wr : World) : Prop where
  base : d.W0 = w.alloc (.cells #[.slice none 0 0, .slice none 0 0] 27)
  dg : d.g = w.heap.size + 1
  st : d.st N wr
  res : Row wr w.heap.size [.slice none 0 0, .slice none 0 0]
  box : Row wr tb [.slice A M.length c, .slice B H.length k]
  ownM : wr.ownsRow (w.heap.size + 1 + 1) 36 2 (.slice A M.length c) M.length (M.flatMap mcells)
  ownH : wr.ownsRow (w.heap.size + 1 + 1) 73 2 (.slice B H.length k) H.length (H.flatMap mcells)
  ord : d.g < tb
section
variable {d : Drw} {w wr w' : World} {tb c k N K : Nat} {A B : Option Addr} {M H : List (Int × Int)}
theorem NrAt.draw (h : NrAt d w tb A c M B k H N wr) (hs : d.st K w') (hg : wr.grownBy w' (some d.g)) : NrAt d w tb A c M B k H K w' :=
  ⟨h.base, h.dg, hs, h.res.grown hg (fun e => by injection e with e; have := h.dg; omega), h.box.grown hg (fun e => by injection e with e; have := h.ord; omega), own_far h.ownM hg (by have := h.dg; omega), own_far h.ownH hg (by have := h.dg; omega), h.ord⟩
theorem NrAt.drew (h : NrAt d w tb A c M B k H N wr) : NrAt d w tb A c M B k H N wr.drew := h.draw (K := N) h.st.drew (grown_of_below (Below.refl _ _).drew _)
theorem NrAt.below (h : NrAt d w tb A c M B k H N wr) : Below w.heap.size w wr := by
  have h0 := h.st.1
  rw [h.base] at h0
  exact below_step (below_alloc (Below.refl _ _) _) h0
end
/-- The result's cell stored. -/
def setN2 (w : World) (g : Nat) (u0 u1 : Value) : World := (w.setCell ⟨g, 0, none⟩ u0).setCell ⟨g, 1, none⟩ u1
theorem own_set2 {w : World} {B n sz g : Nat} {e : TypeId} {v : Value} {xs : List Value} (h : w.ownsRow B e sz v n xs) (hg : g < B) (u0 u1 : Value) : (setN2 w g u0 u1).ownsRow B e sz v n xs :=
  own_far (own_far h (grown_set (p := ⟨g, 0, none⟩) u0 rfl) hg) (grown_set (p := ⟨g, 1, none⟩) u1 rfl) hg
theorem below_set2 {w W : World} (h : Below w.heap.size w W) (u0 u1 : Value) : Below w.heap.size w (setN2 W w.heap.size u0 u1) := (h.setCell (Nat.le_refl _) _).setCell (Nat.le_refl _) _
theorem row_set2 {w : World} {g : Nat} {y0 y1 : Value} (h : Row w g [y0, y1]) (u0 u1 : Value) : Row (setN2 w g u0 u1) g [u0, u1] := Row.set (Row.set h (k := 0) (by simp) u0) (k := 1) (by simp) u1

end Go.Proofs.YtfcpgpmhjadanaaGreatDoor
namespace Go.Proofs.YtfcpgpmhjadanaaGreatDoor
open Go.RowKit
set_option linter.unusedVariables false
set_option linter.unusedSimpArgs false

def NetOnly (w : World) (e : Ending) (w' : World) : Prop :=
  (∃ (A : Option Addr) (c : Nat) (M : List (Int × Int)) (B : Option Addr) (k : Nat) (H : List (Int × Int)), e = .returned (.agg #[.slice A M.length c, .slice B H.length k]) ∧ Nets w w' A c M B k H) ∧ Below w.heap.size w w'
def NetInt (w : World) (e : Ending) (w' : World) : Prop :=
  (∃ (A : Option Addr) (c : Nat) (M : List (Int × Int)) (B : Option Addr) (k : Nat) (H : List (Int × Int)) (i : Int), e = .returned (.tuple #[.agg #[.slice A M.length c, .slice B H.length k], .int .i64 i]) ∧ Nets w w' A c M B k H) ∧ Below w.heap.size w w'

set_option maxRecDepth 100000 in
set_option maxHeartbeats 8000000 in
theorem DrawIsNet_any (A : Option Addr) (n c : Nat) (code : List Int) (w : World) (hn : n = code.length) (hm : n ≤ maxLen) (hb : ∀ x ∈ code, 0 ≤ x ∧ x ≤ 255) (hr : Rd w A (code.map (Value.int .u8))) :
    Calls Tryz.prog 39 #[.slice A n c] w (NetOnly w) := by
  obtain ⟨d, hW, hg, hok, hst, hres⟩ := drw_net w A n c code hn hm hb hr
  have HW := hide hW
  have HGE := hide hg.symm
  have HOK := hide hok
  have HS := hide hst
  have HR := hide hres
  clear hn hm hb hr hW hg hok hst hres
  go_enter Tryz.func39, Tryz.ntmps39
  go_wp2_with fail
  rw [HGE.out]
  refine (anyNet_any d 0 _ HOK.out HS.out (by omega)).mono ?_
  rintro e w1 ⟨⟨A1, c1, M, B1, k1, H, rfl, hl, hoM, hoH, -⟩, hs, hg⟩
  have HL := hide hl
  have HT : Hid (NrAt d w w1.heap.size A1 c1 M B1 k1 H 500 (w1.alloc (.cells #[.slice A1 M.length c1, .slice B1 H.length k1] 27))) := hide ⟨HW.out, HGE.out.symm, hs.alloc _ |>.more (by omega), (HR.out.grown hg (fun e => by injection e with e; have := HGE.out; omega)).alloc _, Row.new _ _ _, World.ownsRow.alloc (own_le hoM (by simp)) _, World.ownsRow.alloc (own_le hoH (by simp)) _, hs.lt⟩
  have HRR := hide (HR.out.grown hg (fun e => by injection e with e; have := HGE.out; omega))
  have HM9 := hide (own_set2 (own_le (B' := w.heap.size + 1 + 1) hoM (by simp)) (g := w.heap.size) (by omega) (.slice A1 M.length c1) (.slice B1 H.length k1))
  have HH9 := hide (own_set2 (own_le (B' := w.heap.size + 1 + 1) hoH (by simp)) (g := w.heap.size) (by omega) (.slice A1 M.length c1) (.slice B1 H.length k1))
  have hbw : Below w.heap.size w w1 := by
    have h0 := hs.1
    rw [HW.out] at h0
    exact below_step (below_alloc (Below.refl _ _) _) h0
  have HB9 := hide (below_set2 hbw (.slice A1 M.length c1) (.slice B1 H.length k1))
  clear hl hoM hoH hs hg HR HS HT hbw
  have r0 := HRR.out.2.1 0 _ rfl
  have r1 := HRR.out.2.1 1 _ rfl
  have f0 := HRR.out.free 0
  have f1 := HRR.out.free 1
  have rz := HRR.out.1
  go_wp2
  exact bodyPost_ret (v := .agg #[.slice A1 M.length c1, .slice B1 H.length k1]) (by simp [results, Tryz.results39, go_sem, *]) rfl ⟨⟨A1, c1, M, B1, k1, H, rfl, ⟨HL.out, own_le HM9.out (by omega), own_le HH9.out (by omega)⟩⟩, HB9.out⟩

set_option maxHeartbeats 4000000 in
theorem DrawNetText_any (A : Option Addr) (n c : Nat) (code : List Int) (w : World) (hn : n = code.length) (hm : n ≤ maxLen) (hb : ∀ x ∈ code, 0 ≤ x ∧ x ≤ 255) (hr : Rd w A (code.map (Value.int .u8))) :
    Calls Tryz.prog 15 #[.slice A n c] w (NetOnly w) := by
  have Q := hide (DrawIsNet_any A n c code (w.alloc (.cells #[.slice none 0 0, .slice none 0 0] 27)) hn hm hb (hr.alloc _))
  have HR := hide (Row.new w #[.slice none 0 0, .slice none 0 0] 27)
  clear hn hm hb hr
  go_enter Tryz.func15, Tryz.ntmps15
  go_wp2_with fail
  refine Q.out.mono ?_
  rintro e w1 ⟨⟨A1, c1, M, B1, k1, H, rfl, ⟨hl, hoM, hoH⟩⟩, hb⟩
  have HL := hide hl
  replace HR := hide (HR.out.below hb)
  have HE := hide (show (w.alloc (.cells #[.slice none 0 0, .slice none 0 0] 27)).heap.size = w.heap.size + 1 by simp)
  rw [HE.out] at hoM hoH
  have HB := hide (below_step (below_alloc (Below.refl w.heap.size w) (.cells #[.slice none 0 0, .slice none 0 0] 27)) hb)
  have r0 := HR.out.2.1 0 _ rfl
  have r1 := HR.out.2.1 1 _ rfl
  have f0 := HR.out.free 0
  have f1 := HR.out.free 1
  have rz := HR.out.1
  have HM9 := hide (own_set2 hoM (g := w.heap.size) (by omega) (.slice A1 M.length c1) (.slice B1 H.length k1))
  have HH9 := hide (own_set2 hoH (g := w.heap.size) (by omega) (.slice A1 M.length c1) (.slice B1 H.length k1))
  have HB9 := hide (below_set2 HB.out (.slice A1 M.length c1) (.slice B1 H.length k1))
  clear hl hoM hoH hb Q HB HE
  go_wp2
  exact bodyPost_ret (v := .agg #[.slice A1 M.length c1, .slice B1 H.length k1]) (by simp [results, Tryz.results15, go_sem, *]) rfl ⟨⟨A1, c1, M, B1, k1, H, rfl, ⟨HL.out, own_le HM9.out (by omega), own_le HH9.out (by omega)⟩⟩, HB9.out⟩

set_option maxRecDepth 100000 in
set_option maxHeartbeats 8000000 in
theorem DrawLoadsOf_any (A : Option Addr) (n c : Nat) (code : List Int) (w : World) (hn : n = code.length) (hm : n ≤ maxLen) (hb : ∀ x ∈ code, 0 ≤ x ∧ x ≤ 255) (hr : Rd w A (code.map (Value.int .u8))) :
    Calls Tryz.prog 5 #[.slice A n c] w (NetOne w) := by
  obtain ⟨d, hW, hg, hok, hst, hres⟩ := drw_net w A n c code hn hm hb hr
  have HW := hide hW
  have HGE := hide hg.symm
  have HOK := hide hok
  have HS := hide hst
  have HR := hide hres
  clear hn hm hb hr hW hg hok hst hres
  go_enter Tryz.func5, Tryz.ntmps5
  go_wp2_with fail
  rw [HGE.out]
  refine (anyNet_any d 0 _ HOK.out HS.out (by omega)).mono ?_
  rintro e w1 ⟨⟨A1, c1, M, B1, k1, H, rfl, hl, hoM, hoH, -⟩, hs, hg⟩
  have HL := hide hl
  go_upto_region 3 with fail
  have HT : Hid (NrAt d w w1.heap.size A1 c1 M B1 k1 H 500 (w1.alloc (.cells #[.slice A1 M.length c1, .slice B1 H.length k1] 27))) := hide ⟨HW.out, HGE.out.symm, hs.alloc _ |>.more (by omega), (HR.out.grown hg (fun e => by injection e with e; have := HGE.out; omega)).alloc _, Row.new _ _ _, World.ownsRow.alloc (own_le hoM (by simp)) _, World.ownsRow.alloc (own_le hoH (by simp)) _, hs.lt⟩
  clear hl hoM hoH hs hg HR HS
  generalize w1.alloc (.cells #[.slice A1 M.length c1, .slice B1 H.length k1] 27) = w2 at *
  generalize w1.heap.size = tb at *
  have t0 := HT.out.box.2.1 0 _ rfl
  have t1 := HT.out.box.2.1 1 _ rfl
  have tz := HT.out.box.1
  have tg : tb ≠ d.g := by have := HT.out.ord; omega
  go_wp2_with fail
  refine wpAnyX_start (fun w' => ∃ n : LaterX w2 d.g, w' = n.w) [7] (n := 9) (by kernel_rfl) rfl rfl ?_
  refine wpAnyX_take [0, 1, 2, 3, 4] 4 rfl (by kernel_rfl) (by intro c a d v w h; cases d <;> exact h) (by kernel_rfl) (by kernel_rfl) (by kernel_rfl) (by simp; rfl) rfl (laterX_drew _ _) ?_
  repeat (go_big_quiet_step (fail))
  refine wpQuiet_nil ?_
  have HG : Hid (w2.grownBy w2.drew (some d.g)) := hide (grown_of_below (Below.refl _ _).drew _)
  replace HT := hide HT.out.drew
  clear t0 t1 tz tg 
  generalize w2.drew = V0 at *
  refine wpAnyX_only 5 (by kernel_rfl) (by simp; rfl) rfl rfl (fun K hK => ?_)
  go_wp2_with fail
  refine (openOf_any d 500 M.length H.length c1 k1 A1 B1 _ HOK.out HT.out.st (by omega) HL.out.1.2).mono ?_
  rintro e V1 ⟨⟨C, q, O, rfl, hO, hoC⟩, hs, hg⟩
  have HN : Hid (O.length ≤ 12 ∧ w.heap.size + 1 + 1 ≤ V0.heap.size) := hide ⟨hO, by have := HT.out.st.lt; have := HGE.out; omega⟩
  have HC : Hid (V1.ownsRow (w.heap.size + 1 + 1) 3 1 (.slice C O.length q) O.length (O.map (Value.int .i64))) := hide (own_le hoC HN.out.2)
  have HV : Hid (w.heap.size + 1 + 1 ≤ V1.heap.size) := hide (by have := hg.size; have := HN.out; omega)
  replace HT := hide (HT.out.draw hs hg)
  replace HG := hide (grown_trans HG.out hg)
  clear hs hg hO hoC
  go_wp2_with fail
  refine ⟨laterX_of HG.out, ?_⟩
  refine wpAnyX_only 6 (by kernel_rfl) (by simp; rfl) rfl rfl (fun K hK => ?_)
  go_wp2_with fail
  refine (flowsOf_any d (500 + 100) (w.heap.size + 1 + 1) M.length H.length c1 k1 O.length q A1 B1 C M H O _ HOK.out HT.out.st (by omega) (by have := HGE.out; omega) HV.out rfl rfl HL.out.1.1 HL.out.1.2 rfl (by have := HN.out; omega) HT.out.ownM HT.out.ownH HC.out HL.out.2.2).mono ?_
  rintro e V2 ⟨⟨E, r, F, rfl, hF, hoE⟩, hs, hg⟩
  have HFL := hide hF
  have HE2 : Hid (V2.ownsRow (w.heap.size + 1 + 1) 3 1 (.slice E F.length r) F.length (F.map (Value.int .i64))) := hide (own_le hoE HV.out)
  replace HT := hide (HT.out.draw hs hg)
  replace HG := hide (grown_trans HG.out hg)
  clear hs hg hF hoE HC
  go_wp2_with fail
  refine ⟨laterX_of HG.out, ?_⟩
  refine wpAnyX_last 7 (by kernel_rfl) (by simp; rfl) rfl rfl (by kernel_rfl) (fun K hK => ?_)
  have r0 := HT.out.res.2.1 0 _ rfl
  have r1 := HT.out.res.2.1 1 _ rfl
  have f0 := HT.out.res.free 0
  have f1 := HT.out.res.free 1
  have rz := HT.out.res.1
  have HR9 := hide (row_set2 HT.out.res (.slice A1 M.length c1) (.slice B1 H.length k1))
  have HM9 := hide (own_set2 HT.out.ownM (g := w.heap.size) (by omega) (.slice A1 M.length c1) (.slice B1 H.length k1))
  have HH9 := hide (own_set2 HT.out.ownH (g := w.heap.size) (by omega) (.slice A1 M.length c1) (.slice B1 H.length k1))
  have HE9 := hide (own_set2 HE2.out (g := w.heap.size) (by omega) (.slice A1 M.length c1) (.slice B1 H.length k1))
  have HB9 := hide (below_set2 HT.out.below (.slice A1 M.length c1) (.slice B1 H.length k1))
  go_wp2_with fail
  clear r0 r1 f0 f1 rz HT HG HE2
  unfold setN2 at HR9 HM9 HH9 HB9 HE9
  generalize (V2.setCell ⟨w.heap.size, 0, none⟩ (.slice A1 M.length c1)).setCell ⟨w.heap.size, 1, none⟩ (.slice B1 H.length k1) = V9 at *
  refine wpAnyX_last 8 (by kernel_rfl) (by simp; rfl) rfl rfl (by kernel_rfl) (fun K hK => ?_)
  go_wp2_with fail
  refine wpAnyX_done (by kernel_rfl) ?_ _
  have r0 := HR9.out.2.1 0 _ rfl
  have r1 := HR9.out.2.1 1 _ rfl
  have rz := HR9.out.1
  go_wp2
  exact bodyPost_ret (v := .tuple #[.agg #[.slice A1 M.length c1, .slice B1 H.length k1], .slice E F.length r]) (by simp [results, Tryz.results5, go_sem, *]) rfl ⟨⟨A1, c1, M, B1, k1, H, E, r, F, rfl, ⟨HL.out, own_le HM9.out (by omega), own_le HH9.out (by omega)⟩, ⟨HFL.out, own_le HE9.out (by omega)⟩⟩, HB9.out⟩

set_option maxRecDepth 100000 in
set_option maxHeartbeats 8000000 in
theorem DrawWithoutMain_any (A : Option Addr) (n c : Nat) (code : List Int) (w : World) (hn : n = code.length) (hm : n ≤ maxLen) (hb : ∀ x ∈ code, 0 ≤ x ∧ x ≤ 255) (hr : Rd w A (code.map (Value.int .u8))) :
    Calls Tryz.prog 21 #[.slice A n c] w (NetInt w) := by
  obtain ⟨d, hW, hg, hok, hst, hres⟩ := drw_net w A n c code hn hm hb hr
  have HW := hide hW
  have HGE := hide hg.symm
  have HOK := hide hok
  have HS := hide hst
  have HR := hide hres
  clear hn hm hb hr hW hg hok hst hres
  go_enter Tryz.func21, Tryz.ntmps21
  go_wp2_with fail
  rw [HGE.out]
  refine (anyNet_any d 0 _ HOK.out HS.out (by omega)).mono ?_
  rintro e w1 ⟨⟨A1, c1, M, B1, k1, H, rfl, hl, hoM, hoH, -⟩, hs, hg⟩
  have HL := hide hl
  go_upto_region 3 with fail
  have HT : Hid (NrAt d w w1.heap.size A1 c1 M B1 k1 H 500 (w1.alloc (.cells #[.slice A1 M.length c1, .slice B1 H.length k1] 27))) := hide ⟨HW.out, HGE.out.symm, hs.alloc _ |>.more (by omega), (HR.out.grown hg (fun e => by injection e with e; have := HGE.out; omega)).alloc _, Row.new _ _ _, World.ownsRow.alloc (own_le hoM (by simp)) _, World.ownsRow.alloc (own_le hoH (by simp)) _, hs.lt⟩
  clear hl hoM hoH hs hg HR HS
  generalize w1.alloc (.cells #[.slice A1 M.length c1, .slice B1 H.length k1] 27) = w2 at *
  generalize w1.heap.size = tb at *
  have t0 := HT.out.box.2.1 0 _ rfl
  have t1 := HT.out.box.2.1 1 _ rfl
  have tz := HT.out.box.1
  have tg : tb ≠ d.g := by have := HT.out.ord; omega
  have hm11 : M.length ≤ 11 := HL.out.1.1
  have hw1 : IntKind.i64.wrap ((M.length : Int) + 1) = (M.length : Int) + 1 := IntWalk.i64_in _ (by omega)
  have hw2 : IntKind.i64.wrap ((M.length : Int) - 1) = (M.length : Int) - 1 := IntWalk.i64_in _ (by omega)
  go_wp2_with fail
  refine wpAnyX_start (fun w' => ∃ n : LaterX w2 d.g, w' = n.w) [17] (n := 19) (by kernel_rfl) rfl rfl ?_
  refine wpAnyX_take [0, 1, 2, 3, 4, 5, 6, 8, 9, 10, 11, 12, 13, 14] 5 rfl (by kernel_rfl) (by intro c a d v w h; cases d <;> exact h) (by kernel_rfl) (by kernel_rfl) (by kernel_rfl) (by simp; rfl) rfl (laterX_drew _ _) ?_
  repeat (go_big_quiet_step (fail))
  refine wpQuiet_nil ?_
  have HG : Hid (w2.grownBy w2.drew (some d.g)) := hide (grown_of_below (Below.refl _ _).drew _)
  replace HT := hide HT.out.drew
  clear t0 t1 tz tg hw1 hw2
  generalize w2.drew = V0 at *
  refine wpAnyX_only 7 (by kernel_rfl) (by simp; rfl) rfl rfl (fun K hK => ?_)
  go_wp2_with fail
  refine (pick_any d 500 ((M.length : Int) + 1) _ HOK.out HT.out.st (by omega) (by omega)).mono ?_
  rintro e V1 ⟨⟨x, rfl, -⟩, hs, hg⟩
  replace HT := hide (HT.out.draw hs hg)
  replace HG := hide (grown_trans HG.out hg)
  clear hs hg
  go_wp2_with fail
  refine ⟨laterX_of HG.out, ?_⟩
  refine wpAnyX_only 15 (by kernel_rfl) (by simp; rfl) rfl rfl (fun K hK => ?_)
  have HB := hide (Row.new V1 #[.int .i64 0, .int .i64 x, .int .i64 ((M.length : Int) - 1), .int .i64 (M.length : Int), .int .i64 (-1)] 3)
  have HBG : Hid (V1.heap.size ≠ d.g) := hide (by have := HT.out.st.lt; omega)
  replace HT := hide (HT.out.draw (HT.out.st.alloc (.cells #[.int .i64 0, .int .i64 x, .int .i64 ((M.length : Int) - 1), .int .i64 (M.length : Int), .int .i64 (-1)] 3)) (grown_of_below ((Below.refl _ _).alloc (Nat.le_refl _) _) _))
  replace HG := hide (grown_new HG.out (.cells #[.int .i64 0, .int .i64 x, .int .i64 ((M.length : Int) - 1), .int .i64 (M.length : Int), .int .i64 (-1)] 3))
  refine wp_ints5 0 x ((M.length : Int) - 1) (M.length : Int) (-1) (.const (.int .i64 0)) (.tmp 18) (.tmp 22) (.tmp 25) (.const (.int .i64 (-1))) rfl rfl rfl rfl rfl rfl (hK _ _ ⟨laterX_of HG.out, ?_⟩)
  simp only [Act.put, List.setIfInBounds_toArray, List.set_cons_succ, List.set_cons_zero]
  generalize V1.alloc (.cells #[.int .i64 0, .int .i64 x, .int .i64 ((M.length : Int) - 1), .int .i64 (M.length : Int), .int .i64 (-1)] 3) = V2 at *
  generalize V1.heap.size = lb at *
  refine wpAnyX_only 16 (by kernel_rfl) (by simp; rfl) rfl rfl (fun K hK => ?_)
  go_wp2_with fail
  refine (among_any d (500 + 2) (some ⟨lb, 0, none⟩) 5 5 [0, x, (M.length : Int) - 1, (M.length : Int), -1] _ HOK.out HT.out.st (by omega) rfl (by omega) (by omega) (by exact HB.out.rd) (fun b o sp e => by injection e with e; injection e with e; have := HBG.out; omega)).mono ?_
  rintro e V3 ⟨⟨z, rfl, -⟩, hs, hg⟩
  replace HT := hide (HT.out.draw hs hg)
  replace HG := hide (grown_trans HG.out hg)
  clear hs hg HB HBG
  go_wp2_with fail
  refine ⟨laterX_of HG.out, ?_⟩
  refine wpAnyX_last 17 (by kernel_rfl) (by simp; rfl) rfl rfl (by kernel_rfl) (fun K hK => ?_)
  have r0 := HT.out.res.2.1 0 _ rfl
  have r1 := HT.out.res.2.1 1 _ rfl
  have f0 := HT.out.res.free 0
  have f1 := HT.out.res.free 1
  have rz := HT.out.res.1
  have HR9 := hide (row_set2 HT.out.res (.slice A1 M.length c1) (.slice B1 H.length k1))
  have HM9 := hide (own_set2 HT.out.ownM (g := w.heap.size) (by omega) (.slice A1 M.length c1) (.slice B1 H.length k1))
  have HH9 := hide (own_set2 HT.out.ownH (g := w.heap.size) (by omega) (.slice A1 M.length c1) (.slice B1 H.length k1))
  have HB9 := hide (below_set2 HT.out.below (.slice A1 M.length c1) (.slice B1 H.length k1))
  go_wp2_with fail
  clear r0 r1 f0 f1 rz HT HG
  unfold setN2 at HR9 HM9 HH9 HB9 
  generalize (V3.setCell ⟨w.heap.size, 0, none⟩ (.slice A1 M.length c1)).setCell ⟨w.heap.size, 1, none⟩ (.slice B1 H.length k1) = V9 at *
  refine wpAnyX_last 18 (by kernel_rfl) (by simp; rfl) rfl rfl (by kernel_rfl) (fun K hK => ?_)
  go_wp2_with fail
  refine wpAnyX_done (by kernel_rfl) ?_ _
  have r0 := HR9.out.2.1 0 _ rfl
  have r1 := HR9.out.2.1 1 _ rfl
  have rz := HR9.out.1
  go_wp2
  exact bodyPost_ret (v := .tuple #[.agg #[.slice A1 M.length c1, .slice B1 H.length k1], .int .i64 z]) (by simp [results, Tryz.results21, go_sem, *]) rfl ⟨⟨A1, c1, M, B1, k1, H, z, rfl, ⟨HL.out, own_le HM9.out (by omega), own_le HH9.out (by omega)⟩⟩, HB9.out⟩

end Go.Proofs.YtfcpgpmhjadanaaGreatDoor

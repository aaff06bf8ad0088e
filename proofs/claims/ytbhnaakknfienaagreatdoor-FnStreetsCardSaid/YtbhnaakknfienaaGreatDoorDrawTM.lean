/- Draws of towns: what is known while one is made. -/
import Derived.Test.YtbhnaakknfienaaGreatDoorDrawA
import Derived.Test.YtbhnaakknfienaaGreatDoorAstN
import Derived.Test.YtbhnaakknfienaaGreatDoorRegX
import Derived.Test.YtbhnaakknfienaaGreatDoorFnStM
namespace Go.Proofs.YtbhnaakknfienaaGreatDoor
open Go.RowKit
set_option linter.unusedVariables false

theorem ads_ok {nd : Int} {l : List StT} {s : StT} (h : adsOk nd l s = true) : adsN nd l s = nd ∧ (adsL nd l s).length ≤ 40 := by
  refine ⟨by rw [adsN, if_pos h], ?_⟩
  rw [adsL, if_pos h]
  simp only [adsOk, Bool.and_eq_true, decide_eq_true_eq] at h
  have h1 := congrArg List.length (List.takeWhile_append_dropWhile (p := fun x => befB x (turnT s)) (l := l))
  rw [List.length_append] at h1
  simp [putT]
  omega

theorem ads_town {nd : Int} {l : List StT} {s : StT} (h : adsOk nd l s = true) : adsN nd l s = nd ∧ townB nd (adsL nd l s) = true := by
  obtain ⟨h1, h2, -⟩ := ad_yes h
  rw [closeOk, Bool.and_eq_true] at h2
  exact ⟨h1, bothB_town h2.1⟩
theorem townB_nil {k : Nat} (h1 : 1 ≤ k) (h2 : k ≤ 14) : townB (k : Int) [] = true :=
  TownOk.town ⟨h1, h2, by simp, chainB_of fun i hi => by simp at hi⟩

/-- While a town is made: the result's box rb, the town's box tb, the drawer behind N steps. -/
structure TwAt (d : Drw) (w : World) (rb tb : Nat) (nd : Int) (A : Option Addr) (c : Nat) (l : List StT) (N : Nat) (wr : World) : Prop where
  gle : d.W0.heap.size ≤ d.g
  st : d.st N wr
  gr : w.grownBy wr (some d.g)
  res : Row wr rb [.int .i64 0, .slice none 0 0]
  box : Row wr tb [.int .i64 nd, .slice A l.length c]
  own : wr.ownsRow w.heap.size 39 3 (.slice A l.length c) l.length (l.flatMap tcells)
  ord : d.g < w.heap.size ∧ w.heap.size ≤ rb ∧ rb < tb
  apart : ∀ q, (Value.slice A l.length c).ownBlock = some q → q ≠ rb ∧ q ≠ tb
section
variable {d : Drw} {w wr w' : World} {rb tb c N M : Nat} {nd : Int} {A : Option Addr} {l : List StT}
theorem TwAt.draw (h : TwAt d w rb tb nd A c l N wr) (hs : d.st M w') (hg : wr.grownBy w' (some d.g)) : TwAt d w rb tb nd A c l M w' :=
  ⟨h.gle, hs, grown_trans h.gr hg, h.res.grown hg (fun e => by injection e with e; have := h.ord; omega), h.box.grown hg (fun e => by injection e with e; have := h.ord; omega), own_far h.own hg h.ord.1, h.ord, h.apart⟩
theorem TwAt.below (h : TwAt d w rb tb nd A c l N wr) (hb : Below wr.heap.size wr w') : TwAt d w rb tb nd A c l N w' :=
  ⟨h.gle, h.st.below hb, grown_trans h.gr (grown_of_below hb _), h.res.below hb, h.box.below hb, own_below h.own hb, h.ord, h.apart⟩
theorem TwAt.alloc (h : TwAt d w rb tb nd A c l N wr) (o : Obj) : TwAt d w rb tb nd A c l N (wr.alloc o) := h.below ((Below.refl _ _).alloc (Nat.le_refl _) o)
theorem TwAt.drew (h : TwAt d w rb tb nd A c l N wr) : TwAt d w rb tb nd A c l N wr.drew := h.below (Below.refl _ _).drew
theorem TwAt.more (h : TwAt d w rb tb nd A c l N wr) (hM : N ≤ M) : TwAt d w rb tb nd A c l M wr := { h with st := h.st.more hM }
theorem own_put {w : World} {B n sz : Nat} {e : TypeId} {v : Value} {xs : List Value} (h : w.ownsRow B e sz v n xs) {p : Addr} (hp : ∀ q, v.ownBlock = some q → q ≠ p.block) (u : Value) : (w.setCell p u).ownsRow B e sz v n xs :=
  h.kept (grown_set (g := p.block) u rfl) (by
    cases hv : v.ownBlock with
    | none => exact .inl rfl
    | some g => exact .inr (fun e => by injection e with e; exact hp g hv e))
theorem TwAt.base (h : TwAt d w rb tb nd A c l N wr) : d.W0.heap.size ≤ w.heap.size := Nat.le_of_lt (Nat.lt_of_le_of_lt h.gle h.ord.1)
theorem TwAt.put (h : TwAt d w rb tb nd A c l N wr) {p : Addr} (h0 : w.heap.size ≤ p.block) (h1 : p.block ≠ rb) (h2 : p.block ≠ tb) (h3 : ∀ q, (Value.slice A l.length c).ownBlock = some q → q ≠ p.block) (u : Value) : TwAt d w rb tb nd A c l N (wr.setCell p u) :=
  ⟨h.gle, h.st.put (Nat.le_trans h.base h0) (by have := h.ord; omega) u, grown_put h.gr h0 u, h.res.far h1 u, h.box.far h2 u, own_put h.own h3 u, h.ord, h.apart⟩
/-- The number of nodes stored. -/
theorem TwAt.setN (h : TwAt d w rb tb nd A c l N wr) (x : Int) : TwAt d w rb tb x A c l N (wr.setCell ⟨tb, 0, none⟩ (.int .i64 x)) := by
  have h0 : w.heap.size ≤ tb := by have := h.ord; omega
  have h1 : tb ≠ d.g := by have := h.ord; omega
  exact ⟨h.gle, h.st.put (p := ⟨tb, 0, none⟩) (Nat.le_trans h.base h0) h1 _, grown_put h.gr (p := ⟨tb, 0, none⟩) h0 _, h.res.far (p := ⟨tb, 0, none⟩) (by have := h.ord; simp; omega) _, (h.box.set (k := 0) (by simp) _).cast rfl,
    own_put (p := ⟨tb, 0, none⟩) h.own (fun q hq => (h.apart q hq).2) _, h.ord, h.apart⟩
/-- The streets stored. -/
theorem TwAt.setL (h : TwAt d w rb tb nd A c l N wr) {A' : Option Addr} {c' : Nat} {l' : List StT} (ho : wr.ownsRow w.heap.size 39 3 (.slice A' l'.length c') l'.length (l'.flatMap tcells)) (ha : ∀ q, (Value.slice A' l'.length c').ownBlock = some q → q ≠ rb ∧ q ≠ tb) :
    TwAt d w rb tb nd A' c' l' N (wr.setCell ⟨tb, 1, none⟩ (.slice A' l'.length c')) := by
  have h0 : w.heap.size ≤ tb := by have := h.ord; omega
  have h1 : tb ≠ d.g := by have := h.ord; omega
  exact ⟨h.gle, h.st.put (p := ⟨tb, 1, none⟩) (Nat.le_trans h.base h0) h1 _, grown_put h.gr (p := ⟨tb, 1, none⟩) h0 _, h.res.far (p := ⟨tb, 1, none⟩) (by have := h.ord; simp; omega) _, (h.box.set (k := 1) (by simp) _).cast rfl,
    own_put (p := ⟨tb, 1, none⟩) ho (fun q hq => (ha q hq).2) _, h.ord, ha⟩
theorem TwAt.set (h : TwAt d w rb tb nd A c l N wr) (x : Int) {A' : Option Addr} {c' : Nat} {l' : List StT} (ho : wr.ownsRow w.heap.size 39 3 (.slice A' l'.length c') l'.length (l'.flatMap tcells)) (ha : ∀ q, (Value.slice A' l'.length c').ownBlock = some q → q ≠ rb ∧ q ≠ tb) :
    TwAt d w rb tb x A' c' l' N ((wr.setCell ⟨tb, 0, none⟩ (.int .i64 x)).setCell ⟨tb, 1, none⟩ (.slice A' l'.length c')) :=
  (h.setN x).setL (own_put (p := ⟨tb, 0, none⟩) ho (fun q hq => (ha q hq).2) _) ha
/-- What AddStreet asks of the streets. -/
theorem own_pre {w : World} {B c : Nat} {A : Option Addr} {l : List StT} (h : w.ownsRow B 39 3 (.slice A l.length c) l.length (l.flatMap tcells)) :
    l.length ≤ c ∧ c ≤ maxLen ∧ Rd w A (l.flatMap tcells) ∧ ((A = none ∧ l.length = 0 ∧ c = 0) ∨ ∃ b off, A = some ⟨b, off, none⟩) := by
  obtain ⟨A', cap, hv, hr, hn, hc, h0, h1⟩ := own_open h
  simp only [Value.slice.injEq, true_and] at hv
  obtain ⟨rfl, rfl⟩ := hv
  refine ⟨hn, hc, hr, ?_⟩
  cases A with
  | none => obtain ⟨a, b, -⟩ := h0 rfl; exact .inl ⟨rfl, a, b⟩
  | some ad =>
    obtain ⟨b, off, sp⟩ := ad
    obtain ⟨rfl, rfl, -⟩ := h1 b off sp rfl
    exact .inr ⟨b, 0, rfl⟩
/-- What the draw of a town leaves: m: at most so many streets. -/
def DrwTown (d : Drw) (M m : Nat) (Pn : Int → List StT → Prop) (w : World) (e : Ending) (w' : World) : Prop :=
  (∃ (nd : Int) (A : Option Addr) (c : Nat) (l : List StT), e = .returned (.agg #[.int .i64 nd, .slice A l.length c]) ∧ Pn nd l ∧ l.length ≤ m ∧ w'.ownsRow w.heap.size 39 3 (.slice A l.length c) l.length (l.flatMap tcells)) ∧ d.st M w' ∧ w.grownBy w' (some d.g)
theorem TwAt.done (h : TwAt d w rb tb nd A c l N wr) {m : Nat} {Pn : Int → List StT → Prop} (hn : Pn nd l) (hl : l.length ≤ m) (hM : N ≤ M) (u0 u1 : Value) : DrwTown d M m Pn w (.returned (.agg #[.int .i64 nd, .slice A l.length c])) ((wr.setCell ⟨rb, 0, none⟩ u0).setCell ⟨rb, 1, none⟩ u1) := by
  have h0 : w.heap.size ≤ rb := h.ord.2.1
  have h1 : rb ≠ d.g := by have := h.ord; omega
  have hg := Nat.le_trans h.base h0
  exact ⟨⟨nd, A, c, l, rfl, hn, hl, own_put (p := ⟨rb, 1, none⟩) (own_put (p := ⟨rb, 0, none⟩) h.own (fun q hq => (h.apart q hq).1) _) (fun q hq => (h.apart q hq).1) _⟩,
    ((h.st.more hM).put (p := ⟨rb, 0, none⟩) hg h1 _).put (p := ⟨rb, 1, none⟩) hg h1 _, grown_put (grown_put h.gr (p := ⟨rb, 0, none⟩) h0 _) (p := ⟨rb, 1, none⟩) h0 _⟩
/-- Behind an append to the streets: both boxes. -/
theorem TwAt.far (h : TwAt d w rb tb nd A c l N wr) (hg : wr.grownBy w' (Value.slice A l.length c).ownBlock) : Row w' rb [.int .i64 0, .slice none 0 0] ∧ Row w' tb [.int .i64 nd, .slice A l.length c] :=
  ⟨h.res.grown hg (fun e => (h.apart rb e.symm).1 rfl), h.box.grown hg (fun e => (h.apart tb e.symm).2 rfl)⟩
/-- An append to the streets, stored. -/
theorem TwAt.append (h : TwAt d w rb tb nd A c l N wr) {g c' : Nat} {s : StT} (hg : wr.grownBy w' (Value.slice A l.length c).ownBlock) (hw : (Value.slice A l.length c).ownBlock = some g ∨ g = wr.heap.size)
    (ho : w'.ownsRow w.heap.size 39 3 (.slice (some ⟨g, 0, none⟩) (l.length + 1) c') (l.length + 1) (l.flatMap tcells ++ tcells s)) :
    TwAt d w rb tb nd (some ⟨g, 0, none⟩) c' (l ++ [s]) N (w'.setCell ⟨tb, 1, none⟩ (.slice (some ⟨g, 0, none⟩) (l.length + 1) c')) := by
  have hl : (l ++ [s]).length = l.length + 1 := by simp
  have hc : (l ++ [s]).flatMap tcells = l.flatMap tcells ++ tcells s := by simp
  have hlt : ∀ k, (Value.slice A l.length c).ownBlock = some k → w.heap.size ≤ k ∧ k < wr.heap.size := fun k hk => h.own.lt k hk
  obtain ⟨r1, r2⟩ := h.far hg
  have hgr : g ≠ rb ∧ g ≠ tb := by
    rcases hw with hw | hw
    · exact h.apart g hw
    · have := h.res.1
      have := h.box.1
      omega
  have hbase := h.base
  have hS : w'.setCell ⟨tb, 1, none⟩ (.slice (some ⟨g, 0, none⟩) (l.length + 1) c') = w'.setCell ⟨tb, 1, none⟩ (.slice (some ⟨g, 0, none⟩) (l ++ [s]).length c') := by rw [hl]
  rw [hS]
  refine ⟨h.gle, (h.st.grown hg (fun k hk => by have := hlt k hk; have := h.ord; omega)).put (p := ⟨tb, 1, none⟩) (by have := h.ord; simp; omega) (by have := h.ord; simp; omega) _, grown_put (grown_own h.gr hg (fun j hj => (hlt j hj).1)) (p := ⟨tb, 1, none⟩) (by have := h.ord; simp; omega) _, r1.far (p := ⟨tb, 1, none⟩) (by have := h.ord; simp; omega) _, (r2.set (k := 1) (by simp) _).cast rfl, ?_, h.ord, fun q hq => by
    simp [Value.ownBlock] at hq
    subst hq
    exact hgr⟩
  rw [hl, hc]
  exact own_put (p := ⟨tb, 1, none⟩) ho (fun q hq => by
    simp [Value.ownBlock] at hq
    subst hq
    exact hgr.2) _
end
end Go.Proofs.YtbhnaakknfienaaGreatDoor

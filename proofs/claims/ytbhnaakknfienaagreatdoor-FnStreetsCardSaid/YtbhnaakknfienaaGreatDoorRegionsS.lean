/- Regions that draw their order, over any word S on worlds: readers first, then what comes up alone. -/
import Derived.Test.YtbhnaakknfienaaGreatDoorRegions
import Derived.Test.YtbhnaakknfienaaGreatDoorOwn
import Derived.Laws.CopyOwn
import Derived.Laws.OwnMore
import Derived.OwnWalk
import Derived.Lib.SliceRun
import Derived.Laws.AppendOwnNone
namespace Go.Proofs.YtbhnaakknfienaaGreatDoor
open Go.RowKit

section
variable {P : Program} {ops : Array Oper} {Q : Exit → Act → World → Prop} {md : Region.Mode} {S : World → Prop}

theorem wpAnyS_phase (hs : Region.noSelect ops = true) (hQ : ∀ c a d v w, Q (.panic c) (Act.put a d v) w → Q (.panic c) a w) : ∀ (is : List Nat) (l : List Oper) (fuel : Nat) (listed listed' : Array Bool) (a : Act) (w : World),
    phaseB md ops is listed = true → is.filterMap (fun i => ops[i]?) = l → listAll is listed = listed' → S w →
    wpQuiet P ops S (fun a' => wpAnyH P md ops Q S fuel listed' a' w) l a →
    wpAnyH P md ops Q S (is.length + fuel) listed a w
  | [], l, fuel, listed, listed', a, w, _, hl, hL, _, h => by
    simp at hl
    subst hl
    simp only [listAll] at hL
    subst hL
    simpa [wpQuiet] using h
  | i :: is, l, fuel, listed, listed', a, w, hB, hl, hL, hw, h => by
    simp only [phaseB, Bool.and_eq_true] at hB
    obtain ⟨⟨⟨hr, hf⟩, hm⟩, hB'⟩ := hB
    cases ho : ops[i]? with
    | none => simp [ho] at hm
    | some o =>
      simp only [ho, Option.map_some, Option.getD_some] at hm
      simp only [List.filterMap_cons, ho] at hl
      subst hl
      have hst : qOp P ops S i (wpQuiet P ops S (fun a' => wpAnyH P md ops Q S fuel listed' a' w) (is.filterMap (fun i => ops[i]?))) a := by
        unfold qOp; simp only [ho]; exact h
      obtain ⟨v, hy, hK⟩ := yieldsIn_of_qOp ho hst
      have hy' : YieldsIf P ops S o v a := by
        rcases hy with ⟨h1, h2⟩ | h1
        · refine .inl ⟨h1, fun w1 hw1 => ?_⟩
          have h3 := h2 w1 hw1
          unfold Oper.quietAt at h3
          cases hrun : (execOp a.eval o).run P w1 with
          | halt x w2 => rw [hrun] at h3; exact h3.elim
          | ok n w2 =>
            obtain ⟨u, rfl⟩ := mild_value hm a.eval hrun
            rw [hrun] at h3
            obtain ⟨e1, e2⟩ := h3
            rw [e1, e2]
        · exact .inr h1
      have := wpAnyH_take (fuel := is.length + fuel) ho hs hf hr (fun c a w => hQ c a _ _ w) hy' hw
        (wpAnyS_phase hs hQ is _ fuel _ _ _ w hB' rfl hL hw hK)
      rw [show (i :: is).length + fuel = is.length + fuel + 1 from by simp; omega]
      exact this

theorem wpAnyS_take_all (is : List Nat) (fuel : Nat) {n : Nat} {l : List Oper} {listed listed' : Array Bool} {a : Act} {w : World} (hn : is.length + fuel = n) (hs : Region.noSelect ops = true) (hQ : ∀ c a d v w, Q (.panic c) (Act.put a d v) w → Q (.panic c) a w)
    (hB : phaseB md ops is listed = true) (hl : is.filterMap (fun i => ops[i]?) = l) (hL : listAll is listed = listed') (hw : S w)
    (h : wpQuiet P ops S (fun a' => wpAnyH P md ops Q S fuel listed' a' w) l a) :
    wpAnyH P md ops Q S n listed a w := by
  subst hn
  exact wpAnyS_phase hs hQ is l fuel listed listed' a w hB hl hL hw h

theorem wpAnyS_only (i : Nat) {o : Oper} {fuel : Nat} {listed listed' : Array Bool} {a : Act} {w : World} (hr : Region.ready md ops listed = [i]) (ho : ops[i]? = some o) (hL : listed.setIfInBounds i true = listed') (hg : o.guard = none)
    (h : ∀ K : Act → World → Prop, (∀ a w', (S w' ∧ wpAnyH P md ops Q S fuel listed' a w') → K a w') → Oper.wp P o a w K Q) :
    wpAnyH P md ops Q S (fuel + 1) listed a w := by
  refine wpAnyH_all hr (by simp) fun j hj => ?_
  simp only [List.mem_singleton] at hj
  subst hj
  refine wpOp_step ho (fun K' hK => ?_)
  rw [if_pos (by simp [Region.wanted, hg])]
  refine h K' (fun a' w' ⟨hS, hW⟩ => hK _ _ ⟨hS, ?_⟩)
  rw [hL]
  exact hW

theorem wpAnyS_start (S : World → Prop) {id : Nat} {a : Act} {w : World} {l : List Oper} {n : Nat} {listed : Array Bool} (hm : P.follows .mixedOrders = true) (hn : l.length = n) (hL : Array.replicate n false = listed)
    (h : wpAnyH P .any l.toArray Q S n listed a w.drew) : (Code.region id l.toArray true).wp P Q a w := by
  refine wp_region_held (S := S) hm ?_
  subst hL hn
  simpa using h

theorem wp_copy_splice {o : Oper} {a : Act} {w : World} {K : Act → World → Prop} (hgd : o.guard = none) (d s : Operand) (dT sT : TypeId)
    (ho : o.op = .call { callee := .builtin .copy, args := #[d, s], argTypes := #[dT, sT] }) (elem : TypeId) (hu : P.underlying dT = some (.slice elem)) (hsz : (P.info? elem).map (·.size) = some 1)
    (dp sp : Option Addr) (dLen dCap sLen sCap : Nat) (hd : a.eval d = .slice dp dLen dCap) (hs : a.eval s = .slice sp sLen sCap)
    (g off : Nat) (cur : List Value) (t : TypeId) (hg : w.heap[g]? = some (.cells cur.toArray t (0, 0))) (cs : List Value) (hn : cs.length = Nat.min sLen dLen)
    (hpos : 0 < cs.length → dp = some ⟨g, off, none⟩ ∧ ∃ ad, sp = some ad ∧ ∀ j v, cs[j]? = some v → w.cell? (ad.add j) = some v)
    (hfit : off + cs.length ≤ cur.length) (h1 : ∀ v ∈ cs, v.oneCell' = true) (B : Nat) (w0 : World) (hb : Below B w0 w) (hBg : B ≤ g)
    (h : ∀ w', Hid (w'.heap[g]? = some (.cells (splice cur off cs).toArray t (0, 0))) → Below B w0 w' → K (a.put o.dst (goInt cs.length)) w') : Oper.wp P o a w K Q := by
  have := step_copy_splice (P := P) (ops := #[]) (o := o) (a := a) (w := w) (K := K) (Q := Q) (E := True) hgd d s dT sT ho elem hu hsz dp sp dLen dCap sLen sCap hd hs g off cur t hg cs hn hpos hfit h1 B w0 hb hBg h
  rwa [if_pos (by simp [Region.wanted, hgd])] at this

theorem wp_append_fits {o : Oper} {a : Act} {w : World} {K : Act → World → Prop} (s x : Operand) (t : TypeId) (hop : o.op = Op.call { callee := Callee.builtin Builtin.append, args := #[s, x], argTypes := #[t, t] })
    (base : Nat) (e : TypeId) (i : TypeInfo) (size : Nat) (h1 : P.underlying t = some (.slice e)) (h2 : P.info? e = some i) (h4 : i.size = size)
    (g k cap : Nat) (xs : List Value) (hs : a.eval s = .slice (some ⟨g, 0, none⟩) k cap) (hown : w.ownsRow base e size (.slice (some ⟨g, 0, none⟩) k cap) k xs) (ad : Addr) (m c : Nat) (news : List Value) (hx : a.eval x = .slice (some ad) m c) (hn : news.length = m * size)
    (hc : ∀ j u, news[j]? = some u → w.cell? (ad.add j) = some u) (h1c : ∀ u ∈ news, u.oneCell' = true) (b1 : k + m ≤ cap)
    (hK : ∀ w', w'.ownsRow base e size (.slice (some ⟨g, 0, none⟩) (k + m) cap) (k + m) (xs ++ news) → w.grownBy w' (some g) → K (a.put o.dst (.slice (some ⟨g, 0, none⟩) (k + m) cap)) w') : Oper.wp P o a w K Q := by
  obtain ⟨w', hrun, r1, r2⟩ := run_append_fits (P := P) w base t o.type e i size h1 h2 h4 g k cap xs hown ad m c news hn hc h1c b1
  unfold Oper.wp
  simp [execOp, hop, resolve, invoke, builtin, hs, hx, hrun, Result.andThen]
  exact hK w' r1 r2
end

/-- A world in which all that was there is as it was, but for block g. -/
def LaterX (w0 : World) (g : Nat) : Type := { w' : World // w0.grownBy w' (some g) }
def LaterX.w {w0 : World} {g : Nat} (n : LaterX w0 g) : World := n.1
instance (w0 : World) (g : Nat) : Nonempty (LaterX w0 g) := ⟨⟨w0, grown_refl _ _⟩⟩
theorem LaterX.cell {w0 : World} {g : Nat} (n : LaterX w0 g) (b o : Nat) (h : b < w0.heap.size) (hg : b ≠ g) : n.w.cell? ⟨b, o, none⟩ = w0.cell? ⟨b, o, none⟩ :=
  World.cell?_of_block (w := w0) (n.2.block b h (fun e => hg (by injection e)))
theorem ne_succ1 (n : Nat) : (n = n + 1) = False := by simp
attribute [go_sem] LaterX.cell ne_succ1
theorem laterX_of {w w1 : World} {g : Nat} (h : w.grownBy w1 (some g)) : ∃ n : LaterX w g, w1 = n.w := ⟨⟨w1, h⟩, rfl⟩
theorem laterX_drew (w : World) (g : Nat) : ∃ n : LaterX w g, w.drew = n.w := laterX_of (grown_of_below (Below.refl _ _).drew _)

/-- 'clear(s)', s a slice of elements of any size. -/
theorem run_clear_rows {P : Program} (w : World) (t e ty : TypeId) (z : Value) (cs : List Value) (ht : P.underlying t = some (.slice e)) (hv : ∀ w, (zeroValue e).run P w = .ok z w) (n : Nat) (hz : (Builtin.zeroCells z.cells n).toList = cs) (h1 : ∀ v ∈ cs, v.oneCell' = true) (b o c : Nat) (hn : 0 < n)
    (hc : ∀ j, j < cs.length → (w.cell? ⟨b, o + j, none⟩).isSome = true) (hf : ∀ j, j < cs.length → w.frozen? ⟨b, o + j, none⟩ = false) :
    (Builtin.clear_ #[t] ty #[.slice (some ⟨b, o, none⟩) n c]).run P w = .ok (.tuple #[]) (w.setCells b o cs) := by
  have hst := run_storeCells_cells (P := P) b o cs 0 w (by simpa using hc) (by simpa using hf) h1
  simp only [Nat.add_zero] at hst
  obtain ⟨m, rfl⟩ : ∃ m, n = m + 1 := ⟨n - 1, by omega⟩
  simp [Builtin.clear_, run_underlying ht, hv, hz, hst]
end Go.Proofs.YtbhnaakknfienaaGreatDoor

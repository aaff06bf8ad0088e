/- 'copy' between rows of elements of whatever size; slices.Insert of one element into a row of the call's own. -/
import Derived.Test.YtbhnaakknfienaaGreatDoorRowsT
import Derived.Lib.Overlaps
import Derived.Lib.AppendZerosOnto
import Derived.Laws.Externs
import Derived.Laws.CopyOwn
namespace Go.Proofs.YtbhnaakknfienaaGreatDoor
open Go.RowKit
set_option linter.unusedVariables false

theorem heap_new' (w : World) (c : Array Value) (t : TypeId) : (w.alloc (.cells c t)).heap[w.heap.size]? = some (.cells c t (0, 0)) := by
  unfold World.alloc
  exact Array.getElem?_push_size
section
variable {P : Program}
theorem run_copy_rowN (w : World) (dT sT ty elem : TypeId) (g o dLen dCap : Nat) (a : Addr) (sLen sCap sz k : Nat) (cur : Array Value) (t : TypeId) (cs : List Value)
    (hu : P.underlying dT = some (.slice elem)) (hs : (P.info? elem).map (·.size) = some sz)
    (hg : w.heap[g]? = some (.cells cur t (0, 0))) (hk : Nat.min sLen dLen = k) (hn : cs.length = k * sz)
    (hsrc : ∀ j v, cs[j]? = some v → w.cell? (a.add j) = some v) (hfit : o + cs.length ≤ cur.size) (h1 : ∀ v ∈ cs, v.oneCell' = true) :
    (Builtin.copy_ #[dT, sT] ty #[.slice (some ⟨g, o, none⟩) dLen dCap, .slice (some a) sLen sCap]).run P w =
      .ok (goInt k) (w.setRow g (cur.toList.take o ++ cs ++ cur.toList.drop (o + cs.length)).toArray) := by
  have hl := run_loadCells_list (P := P) w a cs hsrc
  have hst := run_storeCells_at P g o t cs 0 cur w hg (by simpa using hfit) h1
  cases hq : P.info? elem with
  | none => simp [hq] at hs
  | some i =>
    have hi : i.size = sz := by simpa [hq] using hs
    simp [Builtin.copy_, run_underlying hu, Builtin.lenOf, Builtin.firstCells, sizeOf, typeInfo, hq, hi, hk, ← hn, hl, hst]
theorem grown_setRow (w : World) (g : Nat) (cs : Array Value) : w.grownBy (w.setRow g cs) (some g) :=
  ⟨rfl, rfl, rfl, by simp, fun k hk hne => setRow_other w g k cs (fun e => hne (by rw [e]))⟩
theorem wp_copy_rows {o : Oper} {a : Act} {w : World} {K : Act → World → Prop} {Q : Exit → Act → World → Prop} (d s : Operand) (dT sT : TypeId)
    (ho : o.op = .call { callee := .builtin .copy, args := #[d, s], argTypes := #[dT, sT] }) (elem : TypeId) (hu : P.underlying dT = some (.slice elem)) (sz : Nat) (hsz : (P.info? elem).map (·.size) = some sz)
    (dLen dCap sLen sCap : Nat) (g off : Nat) (ad : Addr) (hd : a.eval d = .slice (some ⟨g, off, none⟩) dLen dCap) (hs : a.eval s = .slice (some ad) sLen sCap)
    (cur : List Value) (t : TypeId) (hg : w.heap[g]? = some (.cells cur.toArray t (0, 0))) (k : Nat) (hk : Nat.min sLen dLen = k) (cs : List Value) (hn : cs.length = k * sz)
    (hsrc : ∀ j v, cs[j]? = some v → w.cell? (ad.add j) = some v) (hfit : off + cs.length ≤ cur.length) (h1 : ∀ v ∈ cs, v.oneCell' = true)
    (h : ∀ w', Hid (w'.heap[g]? = some (.cells (splice cur off cs).toArray t (0, 0))) → w.grownBy w' (some g) → K (a.put o.dst (goInt k)) w') : Oper.wp P o a w K Q := by
  have hrun := run_copy_rowN (P := P) w dT sT o.type elem g off dLen dCap ad sLen sCap sz k cur.toArray t cs hu hsz hg hk hn hsrc (by simpa using hfit) h1
  unfold Oper.wp
  simp [execOp, ho, resolve, invoke, builtin, hd, hs, hrun, Result.andThen]
  exact h _ (show _ = _ by simpa [splice] using setRow_heap w g _ _ t _ hg) (grown_setRow w g _)
theorem wpList_copy_rows {ops : Array Oper} {rest : List Oper} {o : Oper} {a : Act} {w : World} {Q : Exit → Act → World → Prop} (hgd : o.guard = none) (d s : Operand) (dT sT : TypeId)
    (ho : o.op = .call { callee := .builtin .copy, args := #[d, s], argTypes := #[dT, sT] }) (elem : TypeId) (hu : P.underlying dT = some (.slice elem)) (sz : Nat) (hsz : (P.info? elem).map (·.size) = some sz)
    (dLen dCap sLen sCap : Nat) (g off : Nat) (ad : Addr) (hd : a.eval d = .slice (some ⟨g, off, none⟩) dLen dCap) (hs : a.eval s = .slice (some ad) sLen sCap)
    (cur : List Value) (t : TypeId) (hg : w.heap[g]? = some (.cells cur.toArray t (0, 0))) (k : Nat) (hk : Nat.min sLen dLen = k) (cs : List Value) (hn : cs.length = k * sz)
    (hsrc : ∀ j v, cs[j]? = some v → w.cell? (ad.add j) = some v) (hfit : off + cs.length ≤ cur.length) (h1 : ∀ v ∈ cs, v.oneCell' = true)
    (h : ∀ w', Hid (w'.heap[g]? = some (.cells (splice cur off cs).toArray t (0, 0))) → w.grownBy w' (some g) → wpList P ops Q rest (a.put o.dst (goInt k)) w') : wpList P ops Q (o :: rest) a w :=
  wpList_plain hgd fun K hK => wp_copy_rows d s dT sT ho elem hu sz hsz dLen dCap sLen sCap g off ad hd hs cur t hg k hk cs hn hsrc hfit h1 (fun w' r1 r2 => hK _ _ (h w' r1 r2))
/-- The run of a copy, for a walk that takes it as a hypothesis: behind it the row is spliced. -/
theorem copy_runs (w : World) (dT sT elem : TypeId) (hu : P.underlying dT = some (.slice elem)) (sz : Nat) (hsz : (P.info? elem).map (·.size) = some sz)
    (dLen sLen : Nat) (g off : Nat) (ad : Addr) (cur : List Value) (t : TypeId) (hg : w.heap[g]? = some (.cells cur.toArray t (0, 0))) (k : Nat) (hk : Nat.min sLen dLen = k) (cs : List Value) (hn : cs.length = k * sz)
    (hsrc : ∀ j v, cs[j]? = some v → w.cell? (ad.add j) = some v) (hfit : off + cs.length ≤ cur.length) (h1 : ∀ v ∈ cs, v.oneCell' = true) :
    ∃ w', (∀ ty dCap sCap, (Builtin.copy_ #[dT, sT] ty #[.slice (some ⟨g, off, none⟩) dLen dCap, .slice (some ad) sLen sCap]).run P w = .ok (goInt k) w') ∧ w'.heap[g]? = some (.cells (splice cur off cs).toArray t (0, 0)) ∧ w.grownBy w' (some g) :=
  ⟨_, fun ty dCap sCap => run_copy_rowN (P := P) w dT sT ty elem g off dLen dCap ad sLen sCap sz k cur.toArray t cs hu hsz hg hk hn hsrc (by simpa using hfit) h1, by simpa [splice] using setRow_heap w g _ _ t _ hg, grown_setRow w g _⟩
/-- The run of 'append(s[:k], make(.., q)...)' where there is no room: a new row. -/
theorem append_zeros_runs (w : World) (t tn e : TypeId) (i : TypeInfo) (z : Value) (ht : P.underlying t = some (.slice e)) (htn : P.underlying tn = some (.int .i64)) (hi : P.info? e = some i) (hz : i.zero = some z) (sz by_ : Nat) (hsz : i.size = sz) (hby : i.bytes = by_) (hzs : z.cells.size = sz) (hs0 : 0 < sz)
    (ad : Addr) (k q cap : Nat) (xs : List Value) (hx : xs.length = k * sz) (hc : ∀ j v, xs[j]? = some v → w.cell? (ad.add j) = some v) (hq : 0 < q) (hg : cap < k + q) (hbig : (k + q) * by_ ≤ 140737488355328) (hlim : k + q ≤ 1000000) :
    ∃ (w' : World) (G : Nat) (cur : List Value), (∀ ty, (Builtin.append_ #[t, tn] ty #[.slice (some ad) k cap, .int .i64 (q : Int)]).run P w = .ok (.slice (some ⟨w.heap.size, 0, none⟩) (k + q) G) w') ∧ w'.heap[w.heap.size]? = some (.cells cur.toArray e (0, 0)) ∧ k + q ≤ G ∧ G ≤ maxLen ∧ cur.length = G * sz ∧ cur.take (k * sz) = xs ∧ Below w.heap.size w w' ∧ w.heap.size < w'.heap.size := by
  have hold : (Builtin.firstCells i.size k (.slice (some ad) k cap)).run P w.drew = .ok xs.toArray w.drew := by
    rw [hsz]
    exact run_firstCells_some w.drew sz k ad k cap xs hx (fun j v hj => hc j v hj)
  have hG := grownCap_ge w (k + q) cap e
  have hGm := grownCap_le_maxLen w (k + q) cap e (by unfold maxLen; omega)
  have hby0 : q * by_ ≤ (k + q) * by_ := Nat.mul_le_mul_right _ (by omega)
  refine ⟨_, grownCap w (k + q) cap e, xs ++ (Builtin.zeroCells z.cells q).toList ++ (Builtin.zeroCells z.cells (grownCap w (k + q) cap e - (k + q))).toList, fun ty => Lib.run_append_grow_zeros w t tn ty e i z .i64 .i64 ht htn hi hz (some ad) k cap xs hold q hq (by omega) hg (by omega) (by rw [hby]; omega) (by rw [hby]; exact growslice_fits hg hbig), ?_, hG, hGm, ?_, ?_, (Below.refl _ _).drew.alloc (Nat.le_refl _) _, by simp⟩
  · have h := heap_new' w.drew (xs.toArray ++ Builtin.zeroCells z.cells q ++ Builtin.zeroCells z.cells (grownCap w (k + q) cap e - (k + q))) e
    rw [show w.drew.heap.size = w.heap.size from rfl] at h
    rw [h]
    congr 2
    apply Array.ext'
    simp
  · have e1 : ∀ m, (Builtin.zeroCells z.cells m).toList.length = m * sz := fun m => by rw [Array.length_toList, size_zeroCells, hzs]
    rw [List.length_append, List.length_append, e1, e1, hx, ← Nat.add_mul, ← Nat.add_mul]
    congr 1
    omega
  · rw [List.append_assoc, List.take_append_of_le_length (by omega), List.take_of_length_le (by omega)]
/-- Cells of a block that is known whole. -/
theorem heap_cell {w : World} {g : Nat} {cur : Array Value} {t : TypeId} (hg : w.heap[g]? = some (.cells cur t (0, 0))) (j : Nat) : w.cell? ⟨g, j, none⟩ = cur[j]? := by
  simp [World.cell?, hg]
end
theorem heap_new (w : World) (c : Array Value) (t : TypeId) : (w.alloc (.cells c t)).heap[w.heap.size]? = some (.cells c t (0, 0)) := by
  unfold World.alloc
  exact Array.getElem?_push_size
theorem heap_grown {w w' : World} {row : Option Nat} {b : Nat} {o : Obj} (h : w.heap[b]? = some o) (hg : w.grownBy w' row) (hne : some b ≠ row) : w'.heap[b]? = some o := by
  rw [hg.block b (Array.getElem?_eq_some_iff.1 h).1 hne]
  exact h
end Go.Proofs.YtbhnaakknfienaaGreatDoor

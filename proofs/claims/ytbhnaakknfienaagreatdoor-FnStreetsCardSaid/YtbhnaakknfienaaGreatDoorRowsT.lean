/- Rows: what RowsX says and the town's texts do not. -/
import Derived.Test.YtbhnaakknfienaaGreatDoorTownZ
import Derived.Test.YtbhnaakknfienaaGreatDoorRegionsS
import Derived.Test.YtbhnaakknfienaaGreatDoorOwn
import Derived.IntWalk
import Derived.Deep.AppendLies
namespace Go.Proofs.YtbhnaakknfienaaGreatDoor
open Go.RowKit
set_option linter.unusedVariables false

section
variable {P : Program} {ops : Array Oper} {Q : Exit → Act → World → Prop} {md : Region.Mode} {S : World → Prop}
/-- Two operations may come up: either. -/
theorem wpAnyS_two (i j : Nat) {oi oj : Oper} {fuel : Nat} {listed li lj : Array Bool} {a : Act} {w : World} (hr : Region.ready md ops listed = [i, j]) (hoi : ops[i]? = some oi) (hoj : ops[j]? = some oj) (hLi : listed.setIfInBounds i true = li) (hLj : listed.setIfInBounds j true = lj) (hgi : oi.guard = none) (hgj : oj.guard = none)
    (h1 : ∀ K : Act → World → Prop, (∀ a w', (S w' ∧ wpAnyH P md ops Q S fuel li a w') → K a w') → Oper.wp P oi a w K Q)
    (h2 : ∀ K : Act → World → Prop, (∀ a w', (S w' ∧ wpAnyH P md ops Q S fuel lj a w') → K a w') → Oper.wp P oj a w K Q) :
    wpAnyH P md ops Q S (fuel + 1) listed a w := by
  refine wpAnyH_all hr (by simp) fun k hk => ?_
  simp only [List.mem_cons, List.not_mem_nil, or_false] at hk
  rcases hk with rfl | rfl
  · refine wpOp_step hoi (fun K' hK => ?_)
    rw [if_pos (by simp [Region.wanted, hgi])]
    refine h1 K' (fun a' w' ⟨hS, hW⟩ => hK _ _ ⟨hS, ?_⟩)
    rw [hLi]
    exact hW
  · refine wpOp_step hoj (fun K' hK => ?_)
    rw [if_pos (by simp [Region.wanted, hgj])]
    refine h2 K' (fun a' w' ⟨hS, hW⟩ => hK _ _ ⟨hS, ?_⟩)
    rw [hLj]
    exact hW
end
section
variable {P : Program} {Q : Exit → Act → World → Prop}
/-- 'append' to a row of the call's own: what it holds, and where it lies. -/
theorem wp_append_at {o : Oper} {a : Act} {w : World} {K : Act → World → Prop} (s x : Operand) (t : TypeId) (ho : o.op = Op.call { callee := Callee.builtin Builtin.append, args := #[s, x], argTypes := #[t, t] })
    (base : Nat) (e : TypeId) (i : TypeInfo) (z : Value) (size bytes : Nat) (ht : P.underlying t = some (.slice e)) (hi : P.info? e = some i) (hz : i.zero = some z)
    (hsize : i.size = size) (hby : i.bytes = bytes) (hzs : z.cells.size = size) (hsz : 0 < size)
    (g n cap : Nat) (xs : List Value) (hs : a.eval s = .slice (some ⟨g, 0, none⟩) n cap) (hown : w.ownsRow base e size (.slice (some ⟨g, 0, none⟩) n cap) n xs)
    (ad : Addr) (m c : Nat) (news : List Value) (hx : a.eval x = .slice (some ad) m c) (hl : news.length = m * size) (hnews : ∀ j u, news[j]? = some u → w.cell? (ad.add j) = some u) (h1 : ∀ u ∈ news, u.oneCell' = true)
    (h63 : n + m ≤ maxLen) (hbytes : (n + m) * bytes ≤ 140737488355328) (hbase : base ≤ w.heap.size)
    (h : ∀ g' cap' w', w'.ownsRow base e size (.slice (some ⟨g', 0, none⟩) (n + m) cap') (n + m) (xs ++ news) → w.grownBy w' (some g) → (g' = g ∨ g' = w.heap.size) → g' < w'.heap.size → K (a.put o.dst (.slice (some ⟨g', 0, none⟩) (n + m) cap')) w') : Oper.wp P o a w K Q := by
  by_cases hm : m = 0
  · obtain ⟨A', cap', hv, hr, hnc, -⟩ := own_open hown
    simp only [Value.slice.injEq, true_and] at hv
    have h4 := hv.2
    refine wp_append_fits s x t ho base e i size ht hi hsize g n cap xs hs hown ad m c news hx hl hnews h1 (by subst hm; omega) (fun w' r1 r2 => ?_)
    exact h g cap w' r1 r2 (.inl rfl) (r1.lt g rfl).2
  · exact wp_append_lies w s x t ho base e i z size bytes ht hi hz hsize hby hzs hsz _ n xs hs hown ad m c news hx hl hnews h1 (by omega) h63 hbytes hbase w.heap.size rfl (fun g' cap' w' r1 r2 r3 r4 => h g' cap' w' r1 r2 (r3.imp (fun h => by simp [Value.ownBlock] at h; exact h.symm) id) r4)
end
section
variable {P : Program} {ops : Array Oper} {Q : Exit → Act → World → Prop} {md : Region.Mode} {S : World → Prop}
theorem wpAnyS_three (i j k : Nat) {oi oj ok : Oper} {fuel : Nat} {listed li lj lk : Array Bool} {a : Act} {w : World} (hr : Region.ready md ops listed = [i, j, k]) (hoi : ops[i]? = some oi) (hoj : ops[j]? = some oj) (hok : ops[k]? = some ok) (hLi : listed.setIfInBounds i true = li) (hLj : listed.setIfInBounds j true = lj) (hLk : listed.setIfInBounds k true = lk) (hgi : oi.guard = none) (hgj : oj.guard = none) (hgk : ok.guard = none)
    (h1 : ∀ K : Act → World → Prop, (∀ a w', (S w' ∧ wpAnyH P md ops Q S fuel li a w') → K a w') → Oper.wp P oi a w K Q)
    (h2 : ∀ K : Act → World → Prop, (∀ a w', (S w' ∧ wpAnyH P md ops Q S fuel lj a w') → K a w') → Oper.wp P oj a w K Q)
    (h3 : ∀ K : Act → World → Prop, (∀ a w', (S w' ∧ wpAnyH P md ops Q S fuel lk a w') → K a w') → Oper.wp P ok a w K Q) :
    wpAnyH P md ops Q S (fuel + 1) listed a w := by
  refine wpAnyH_all hr (by simp) fun x hk => ?_
  simp only [List.mem_cons, List.not_mem_nil, or_false] at hk
  rcases hk with rfl | rfl | rfl
  · refine wpOp_step hoi (fun K' hK => ?_)
    rw [if_pos (by simp [Region.wanted, hgi])]
    refine h1 K' (fun a' w' ⟨hS, hW⟩ => hK _ _ ⟨hS, ?_⟩)
    rw [hLi]
    exact hW
  · refine wpOp_step hoj (fun K' hK => ?_)
    rw [if_pos (by simp [Region.wanted, hgj])]
    refine h2 K' (fun a' w' ⟨hS, hW⟩ => hK _ _ ⟨hS, ?_⟩)
    rw [hLj]
    exact hW
  · refine wpOp_step hok (fun K' hK => ?_)
    rw [if_pos (by simp [Region.wanted, hgk])]
    refine h3 K' (fun a' w' ⟨hS, hW⟩ => hK _ _ ⟨hS, ?_⟩)
    rw [hLk]
    exact hW
end
theorem flat_set {α : Type} (f : α → List Value) (m : Nat) (hf : ∀ a, (f a).length = m) (j : Nat) (hj : j < m) (u : Value) (b : α) : ∀ (l : List α) (i : Nat) (a : α), l[i]? = some a → f b = (f a).set j u → (l.flatMap f).set (i * m + j) u = (l.set i b).flatMap f
  | [], i, a, h, _ => by simp at h
  | x :: l, 0, a, h, hb => by
    simp at h
    subst h
    rw [List.flatMap_cons, List.set_cons_zero, List.flatMap_cons, hb, Nat.zero_mul, Nat.zero_add, List.set_append_left _ _ (by rw [hf]; exact hj)]
  | x :: l, i + 1, a, h, hb => by
    have h' : l[i]? = some a := by simpa using h
    rw [List.flatMap_cons, List.set_cons_succ, List.flatMap_cons, List.set_append_right _ _ (by rw [hf, Nat.succ_mul]; omega), hf, ← flat_set f m hf j hj u b l i a h' hb]
    congr 2
    rw [Nat.succ_mul]
    omega
end Go.Proofs.YtbhnaakknfienaaGreatDoor

/- Rows: cut, joined, stored far away. -/
import Derived.Test.YtfcpgpmhjadanaaGreatDoorRegionsS
import Derived.Test.YtfcpgpmhjadanaaGreatDoorOwn
import Derived.IntWalk
import Derived.Deep.AppendLies
namespace Go.Proofs.YtfcpgpmhjadanaaGreatDoor
open Go.RowKit
set_option linter.unusedVariables false

theorem flat_take {α : Type} (f : α → List Value) (m : Nat) (hf : ∀ a, (f a).length = m) (l : List α) (k : Nat) : (l.flatMap f).take (k * m) = (l.take k).flatMap f := by
  induction l generalizing k with
  | nil => simp
  | cons a l ih =>
    cases k with
    | zero => simp
    | succ k =>
      rw [List.flatMap_cons, List.take_succ_cons, List.flatMap_cons, List.take_append, List.take_of_length_le (by rw [hf, Nat.add_mul]; omega), hf, show (k + 1) * m - m = k * m by rw [Nat.add_mul]; omega, ih]
theorem flat_drop {α : Type} (f : α → List Value) (m : Nat) (hf : ∀ a, (f a).length = m) (l : List α) (k : Nat) : (l.flatMap f).drop (k * m) = (l.drop k).flatMap f := by
  induction l generalizing k with
  | nil => simp
  | cons a l ih =>
    cases k with
    | zero => simp
    | succ k =>
      rw [List.flatMap_cons, List.drop_succ_cons, List.drop_append, List.drop_of_length_le (by rw [hf, Nat.add_mul]; omega), hf, show (k + 1) * m - m = k * m by rw [Nat.add_mul]; omega, ih, List.nil_append]
theorem own_prefix {w : World} {B g n cap sz k : Nat} {e : TypeId} {xs : List Value} (h : w.ownsRow B e sz (.slice (some ⟨g, 0, none⟩) n cap) n xs) (hk : k ≤ n) : w.ownsRow B e sz (.slice (some ⟨g, 0, none⟩) k cap) k (xs.take (k * sz)) := by
  have hl : k * sz ≤ n * sz := Nat.mul_le_mul_right _ hk
  rcases h.2 with ⟨h', _⟩ | ⟨g', cap', cur, h', hb, hg, hnc, hcm, hcs, ht⟩
  · simp at h'
  · simp only [Value.slice.injEq, Option.some.injEq, Addr.mk.injEq, and_true, true_and] at h'
    obtain ⟨rfl, rfl⟩ := h'
    refine ⟨by rw [List.length_take, h.1]; omega, .inr ⟨g, cap, cur, rfl, hb, hg, by omega, hcm, hcs, ?_⟩⟩
    rw [← ht, List.take_take, Nat.min_eq_left hl]
def cutL {α : Type} (l : List α) (i : Nat) : List α := l.take i ++ l.drop (i + 1)
theorem cutL_length {α : Type} {l : List α} {i : Nat} (h : i < l.length) : (cutL l i).length = l.length - 1 := by simp [cutL]; omega
theorem Rd.add {w : World} {b off : Nat} {xs : List Value} (h : Rd w (some ⟨b, off, none⟩) xs) : ∀ j u, xs[j]? = some u → w.cell? ((⟨b, off, none⟩ : Addr).add j) = some u := by
  intro j u hu
  rw [Addr.add_lit]
  rcases h with h | ⟨b', off', hA, hc⟩
  · subst h; simp at hu
  · cases hA
    exact hc j u hu
theorem Rd.part {w : World} {b off : Nat} {xs : List Value} (h : Rd w (some ⟨b, off, none⟩) xs) (k m : Nat) : Rd w (some ⟨b, off + k, none⟩) ((xs.drop k).take m) := by
  refine .inr ⟨b, off + k, rfl, fun j u hu => ?_⟩
  rw [List.getElem?_take] at hu
  split at hu
  · rw [List.getElem?_drop] at hu
    have := h.add (k + j) u hu
    rw [Addr.add_lit] at this
    rwa [Nat.add_assoc]
  · cases hu
theorem own_some {w : World} {B n sz : Nat} {e : TypeId} {v : Value} {xs : List Value} (h : w.ownsRow B e sz v n xs) (hn : 0 < n) : ∃ g cap, v = .slice (some ⟨g, 0, none⟩) n cap ∧ B ≤ g ∧ g < w.heap.size ∧ n ≤ cap ∧ cap ≤ maxLen := by
  rcases h.2 with ⟨_, h0⟩ | ⟨g, cap, cur, rfl, hb, hg, h1, h2, _⟩
  · omega
  · exact ⟨g, cap, rfl, hb, (Array.getElem?_eq_some_iff.1 hg).1, h1, h2⟩
/-- A store into another block. -/
theorem ownsRow_far {w : World} {B g n cap sz : Nat} {e : TypeId} {xs : List Value} (h : w.ownsRow B e sz (.slice (some ⟨g, 0, none⟩) n cap) n xs) {q o : Nat} {u : Value} (hq : q ≠ g) : (w.setCell ⟨q, o, none⟩ u).ownsRow B e sz (.slice (some ⟨g, 0, none⟩) n cap) n xs :=
  h.kept (grown_set (g := q) u rfl) (.inr (fun e => hq (by injection e with e; exact e.symm)))

theorem own_far_any {w : World} {B n sz : Nat} {e : TypeId} {v : Value} {xs : List Value} (h : w.ownsRow B e sz v n xs) {q o : Nat} {u : Value} (hq : q < B) : (w.setCell ⟨q, o, none⟩ u).ownsRow B e sz v n xs := ownsRow_setCell_below h (a := ⟨q, o, none⟩) hq u
section
variable {P : Program} {ops : Array Oper} {Q : Exit → Act → World → Prop} {md : Region.Mode} {S : World → Prop}
/-- Two operations may come up: either. -/
theorem wpAnyS_two (i j : Nat) {oi oj : Oper} {fuel : Nat} {listed li lj : Array Bool} {a : Act} {w : World} (hr : Region.ready md ops listed = [i, j]) (hoi : ops[i]? = some oi) (hoj : ops[j]? = some oj) (hLi : listed.setIfInBounds i true = li) (hLj : listed.setIfInBounds j true = lj) (hgi : oi.guard = none) (hgj : oj.guard = none)
    (h1 : ∀ K : Act → World → Prop, (∀ a w', (S w' ∧ wpAnyH P md ops Q S fuel li a w') → K a w') → Oper.wp P oi a w K Q)
    (h2 : ∀ K : Act → World → Prop, (∀ a w', (S w' ∧ wpAnyH P md ops Q S fuel lj a w') → K a w') → Oper.wp P oj a w K Q) :
    wpAnyH P md ops Q S (fuel + 1) listed a w := by
  refine wpAnyH_all hr (by simp) fun k hk => ?_
  simp only [List.mem_cons, List.not_mem_nil, or_false] at hk
  rcases hk with rfl | rfl
  · refine wpOp_step hoi (fun K' hK => ?_)
    rw [if_pos (by simp [Region.wanted, hgi])]
    refine h1 K' (fun a' w' ⟨hS, hW⟩ => hK _ _ ⟨hS, ?_⟩)
    rw [hLi]
    exact hW
  · refine wpOp_step hoj (fun K' hK => ?_)
    rw [if_pos (by simp [Region.wanted, hgj])]
    refine h2 K' (fun a' w' ⟨hS, hW⟩ => hK _ _ ⟨hS, ?_⟩)
    rw [hLj]
    exact hW
end
section
variable {P : Program} {Q : Exit → Act → World → Prop}
/-- 'append' to a row of the call's own: what it holds, and where it lies. -/
theorem wp_append_at {o : Oper} {a : Act} {w : World} {K : Act → World → Prop} (s x : Operand) (t : TypeId) (ho : o.op = Op.call { callee := Callee.builtin Builtin.append, args := #[s, x], argTypes := #[t, t] })
    (base : Nat) (e : TypeId) (i : TypeInfo) (z : Value) (size bytes : Nat) (ht : P.underlying t = some (.slice e)) (hi : P.info? e = some i) (hz : i.zero = some z)
    (hsize : i.size = size) (hby : i.bytes = bytes) (hzs : z.cells.size = size) (hsz : 0 < size)
    (g n cap : Nat) (xs : List Value) (hs : a.eval s = .slice (some ⟨g, 0, none⟩) n cap) (hown : w.ownsRow base e size (.slice (some ⟨g, 0, none⟩) n cap) n xs)
    (ad : Addr) (m c : Nat) (news : List Value) (hx : a.eval x = .slice (some ad) m c) (hl : news.length = m * size) (hnews : ∀ j u, news[j]? = some u → w.cell? (ad.add j) = some u) (h1 : ∀ u ∈ news, u.oneCell' = true)
    (h63 : n + m ≤ maxLen) (hbytes : (n + m) * bytes ≤ 140737488355328) (hbase : base ≤ w.heap.size)
    (h : ∀ g' cap' w', w'.ownsRow base e size (.slice (some ⟨g', 0, none⟩) (n + m) cap') (n + m) (xs ++ news) → w.grownBy w' (some g) → (g' = g ∨ g' = w.heap.size) → g' < w'.heap.size → K (a.put o.dst (.slice (some ⟨g', 0, none⟩) (n + m) cap')) w') : Oper.wp P o a w K Q := by
  by_cases hm : m = 0
  · obtain ⟨A', cap', hv, hr, hnc, -⟩ := own_open hown
    simp only [Value.slice.injEq, true_and] at hv
    have h4 := hv.2
    refine wp_append_fits s x t ho base e i size ht hi hsize g n cap xs hs hown ad m c news hx hl hnews h1 (by subst hm; omega) (fun w' r1 r2 => ?_)
    exact h g cap w' r1 r2 (.inl rfl) (r1.lt g rfl).2
  · exact wp_append_lies w s x t ho base e i z size bytes ht hi hz hsize hby hzs hsz _ n xs hs hown ad m c news hx hl hnews h1 (by omega) h63 hbytes hbase w.heap.size rfl (fun g' cap' w' r1 r2 r3 r4 => h g' cap' w' r1 r2 (r3.imp (fun h => by simp [Value.ownBlock] at h; exact h.symm) id) r4)
end
section
variable {P : Program} {ops : Array Oper} {Q : Exit → Act → World → Prop} {md : Region.Mode} {S : World → Prop}
theorem wpAnyS_three (i j k : Nat) {oi oj ok : Oper} {fuel : Nat} {listed li lj lk : Array Bool} {a : Act} {w : World} (hr : Region.ready md ops listed = [i, j, k]) (hoi : ops[i]? = some oi) (hoj : ops[j]? = some oj) (hok : ops[k]? = some ok) (hLi : listed.setIfInBounds i true = li) (hLj : listed.setIfInBounds j true = lj) (hLk : listed.setIfInBounds k true = lk) (hgi : oi.guard = none) (hgj : oj.guard = none) (hgk : ok.guard = none)
    (h1 : ∀ K : Act → World → Prop, (∀ a w', (S w' ∧ wpAnyH P md ops Q S fuel li a w') → K a w') → Oper.wp P oi a w K Q)
    (h2 : ∀ K : Act → World → Prop, (∀ a w', (S w' ∧ wpAnyH P md ops Q S fuel lj a w') → K a w') → Oper.wp P oj a w K Q)
    (h3 : ∀ K : Act → World → Prop, (∀ a w', (S w' ∧ wpAnyH P md ops Q S fuel lk a w') → K a w') → Oper.wp P ok a w K Q) :
    wpAnyH P md ops Q S (fuel + 1) listed a w := by
  refine wpAnyH_all hr (by simp) fun x hk => ?_
  simp only [List.mem_cons, List.not_mem_nil, or_false] at hk
  rcases hk with rfl | rfl | rfl
  · refine wpOp_step hoi (fun K' hK => ?_)
    rw [if_pos (by simp [Region.wanted, hgi])]
    refine h1 K' (fun a' w' ⟨hS, hW⟩ => hK _ _ ⟨hS, ?_⟩)
    rw [hLi]
    exact hW
  · refine wpOp_step hoj (fun K' hK => ?_)
    rw [if_pos (by simp [Region.wanted, hgj])]
    refine h2 K' (fun a' w' ⟨hS, hW⟩ => hK _ _ ⟨hS, ?_⟩)
    rw [hLj]
    exact hW
  · refine wpOp_step hok (fun K' hK => ?_)
    rw [if_pos (by simp [Region.wanted, hgk])]
    refine h3 K' (fun a' w' ⟨hS, hW⟩ => hK _ _ ⟨hS, ?_⟩)
    rw [hLk]
    exact hW
end
theorem flat_set {α : Type} (f : α → List Value) (m : Nat) (hf : ∀ a, (f a).length = m) (j : Nat) (hj : j < m) (u : Value) (b : α) : ∀ (l : List α) (i : Nat) (a : α), l[i]? = some a → f b = (f a).set j u → (l.flatMap f).set (i * m + j) u = (l.set i b).flatMap f
  | [], i, a, h, _ => by simp at h
  | x :: l, 0, a, h, hb => by
    simp at h
    subst h
    rw [List.flatMap_cons, List.set_cons_zero, List.flatMap_cons, hb, Nat.zero_mul, Nat.zero_add, List.set_append_left _ _ (by rw [hf]; exact hj)]
  | x :: l, i + 1, a, h, hb => by
    have h' : l[i]? = some a := by simpa using h
    rw [List.flatMap_cons, List.set_cons_succ, List.flatMap_cons, List.set_append_right _ _ (by rw [hf, Nat.succ_mul]; omega), hf, ← flat_set f m hf j hj u b l i a h' hb]
    congr 2
    rw [Nat.succ_mul]
    omega
end Go.Proofs.YtfcpgpmhjadanaaGreatDoor

/- What a law is handed, opened: structs of integers and texts by value, and slices of them. -/
import Derived.Test.YtmmeoabmjbclcaaFrame
import Derived.Test.YtmmeoabmjbclcaaMem
import Derived.ChangeArms
import Derived.Deep.Slices
import Derived.Lib.SmallJoins
namespace Go.Proofs.Ytmmeoabmjbclcaa
open Go.ChangeShapes Go.WideShapes Go.RowKit Go.Deep

/-- One cell that holds an integer or a text, as its type says. -/
def Scalar (P : Program) (t : TypeId) (v : Value) : Prop :=
  (P.underlying t = some (.int .i64) ∧ ∃ n, v = .int .i64 n ∧ (Lit.int .i64 n).wf = true) ∨ (P.underlying t = some .string ∧ ∃ s, v = .string s ∧ s.size ≤ maxLen)

def scalarB (P : Program) (t : TypeId) : Bool := match P.underlying t with | some (.int .i64) => true | some .string => true | _ => false

section
variable {H : Type} {enc : TypeId × Value → H} {P : Program} {w : World} {base : Nat} {spare : Nat → Bool} {held : Bool}

theorem scalar_of {t : TypeId} {fuel : Nat} {v : Value} {x : DataW H × List MemPlace} (hs : scalarB P t = true) (h : DataW.trod enc P w base spare held fuel t [v] = some x) : Scalar P t v := by
  unfold scalarB at hs
  split at hs
  · rename_i ht
    obtain ⟨n, e, _, hw⟩ := DataW.trod_int ht h
    simp only [List.cons.injEq, and_true] at e
    exact .inl ⟨ht, n, e, hw⟩
  · rename_i ht
    obtain ⟨s, e, _, hw⟩ := DataW.trod_string ht h
    simp only [List.cons.injEq, and_true] at e
    exact .inr ⟨ht, s, e, hw⟩
  · cases hs

/-- A struct of such fields. -/
theorem open_scalars {t : TypeId} {fs : Array Field} {fuel : Nat} {cs : List Value} {x : DataW H × List MemPlace} (ht : P.underlying t = some (.struct fs)) (hone : oneCellFields P fs = true) (hC : P.cellsOf t = fs.size)
    (hs : fs.toList.all (fun f => scalarB P f.type) = true) (h : DataW.trod enc P w base spare held fuel t cs = some x) :
    cs.length = fs.size ∧ ∀ (i : Nat) (f : Field), fs[i]? = some f → ∃ v, cs[i]? = some v ∧ Scalar P f.type v := by
  obtain ⟨ys, n, _, _, hlen, hyl, hf⟩ := DataW.trod_struct ht h
  rw [hC] at hlen
  refine ⟨hlen, fun i f hi => ?_⟩
  obtain ⟨ho, hk⟩ := hone_of hone i f hi
  have hil : i < fs.size := (Array.getElem?_eq_some_iff.1 hi).1
  have h1 := hf i f hi
  rw [ho, hk] at h1
  have hone' : (cs.drop i).take 1 = [cs[i]'(by omega)] := by
    rw [List.drop_eq_getElem_cons (by omega)]
    rfl
  rw [hone', List.getElem?_eq_getElem (show i < ys.length by omega)] at h1
  refine ⟨_, List.getElem?_eq_getElem (by omega), scalar_of ?_ h1⟩
  refine List.all_eq_true.1 hs f ?_
  rw [Array.mem_toList_iff]
  exact Array.mem_of_getElem? hi

theorem open_struct {r : Reach} {b0 : Nat} {t : TypeId} {fs : Array Field} {v : Value} {d : DataW H} {p : List MemPlace} (ht : P.underlying t = some (.struct fs)) (hone : oneCellFields P fs = true) (hC : P.cellsOf t = fs.size)
    (hs : fs.toList.all (fun f => scalarB P f.type) = true) (hv : Value.okWide P w r b0 t v) (h : DataW.Trod enc P w base spare held t v d p) :
    ∃ cs : List Value, v = .agg cs.toArray ∧ cs.length = fs.size ∧ ∀ (i : Nat) (f : Field), fs[i]? = some f → ∃ v, cs[i]? = some v ∧ Scalar P f.type v := by
  obtain ⟨cs, rfl, hsz⟩ := okWide_struct ht hv
  obtain ⟨fuel, hf⟩ := h
  obtain ⟨h1, h2⟩ := open_scalars ht hone hC hs hf
  exact ⟨cs.toList, rfl, h1, h2⟩

/-- A slice of elements each of whose readings gives a row of cells. -/
theorem open_rows {r : Reach} {b0 : Nat} {t e : TypeId} {v : Value} {d : DataW H} {p : List MemPlace} (n : Nat) (Q : List Value → Prop) (ht : P.underlying t = some (.slice e)) (hC : P.cellsOf e = n)
    (hQ : ∀ (fuel : Nat) (cs : List Value) (x : DataW H × List MemPlace), DataW.trod enc P w base (fun _ => true) held fuel e cs = some x → Q cs)
    (hv : Value.okWide P w r b0 t v) (h : DataW.Trod enc P w base (fun _ => true) held t v d p) :
    ∃ (A : Option Addr) (len cap : Nat) (rows : List (List Value)), v = .slice A len cap ∧ rows.length = len ∧ len ≤ cap ∧ cap ≤ maxLen ∧ (∀ row ∈ rows, row.length = n ∧ Q row) ∧ Rd w A rows.flatten ∧ (A = none → cap = 0) ∧
      (d = .nil ∧ cap = 0 ∨ ∃ elems rest, d = .slice elems rest ∧ elems.length = len ∧ elems.length + rest.length = cap) := by
  obtain ⟨a0, len0, cap0, rfl⟩ := okWide_slice ht hv
  obtain ⟨fuel, hf⟩ := h
  rcases open_slice ht hf with ⟨hcs, hx⟩ | ⟨a, len, cap, m, k, D, Pl, hcs, _, hl, hm, hmm, hx, hi⟩
  · simp [Value.cells] at hcs
    obtain ⟨rfl, rfl, rfl⟩ := hcs
    simp only [Prod.mk.injEq] at hx
    exact ⟨none, 0, 0, [], rfl, rfl, Nat.le_refl _, Nat.zero_le _, by simp, .inl rfl, fun _ => rfl, .inl ⟨hx.1, rfl⟩⟩
  · simp [Value.cells] at hcs
    obtain ⟨rfl, rfl, rfl⟩ := hcs
    simp only [if_true] at hmm
    subst hmm
    rw [hC] at hi
    have hrow : ∀ i, ∃ row : List Value, i < len0 → row.length = n ∧ Q row ∧ ∀ j, j < n → w.cell? (a.add (i * n + j)) = row[j]? := by
      intro i
      by_cases hlt : i < len0
      · obtain ⟨cs', hc, htr⟩ := hi i (by omega)
        obtain ⟨_, hlen, hcell⟩ := World.cells?_some hc
        refine ⟨cs', fun _ => ⟨hlen, hQ _ _ _ htr, fun j hj => ?_⟩⟩
        rw [← Go.Deep.add_add]
        exact hcell j hj
      · exact ⟨[], fun h => absurd h hlt⟩
    have hrows : ∀ k, k ≤ len0 → ∃ rows : List (List Value), rows.length = k ∧ (∀ row ∈ rows, row.length = n ∧ Q row) ∧ ∀ j u, rows.flatten[j]? = some u → w.cell? (a.add j) = some u := by
      intro k
      induction k with
      | zero => exact fun _ => ⟨[], rfl, by simp, by simp⟩
      | succ k ih =>
        intro hk
        obtain ⟨rows, h1, h2, h3⟩ := ih (by omega)
        obtain ⟨row, hr⟩ := hrow k
        obtain ⟨r1, r2, r3⟩ := hr (by omega)
        have hfl : rows.flatten.length = k * n := by
          have : ∀ (l : List (List Value)), (∀ row ∈ l, row.length = n ∧ Q row) → l.flatten.length = l.length * n := by
            intro l
            induction l with
            | nil => simp
            | cons x l ih =>
              intro hh
              rw [List.flatten_cons, List.length_append, ih (fun r hr => hh r (List.mem_cons_of_mem _ hr)), (hh x (List.mem_cons_self ..)).1, List.length_cons, Nat.succ_mul]
              omega
          rw [this rows h2, h1]
        refine ⟨rows ++ [row], by simp [h1], fun x hx => ?_, fun j u hu => ?_⟩
        · rcases List.mem_append.1 hx with hx | hx
          · exact h2 x hx
          · simp at hx; subst hx; exact ⟨r1, r2⟩
        · rw [List.flatten_append] at hu
          by_cases hj : j < rows.flatten.length
          · rw [List.getElem?_append_left hj] at hu
            exact h3 j u hu
          · rw [List.getElem?_append_right (by omega), hfl] at hu
            simp only [List.flatten_cons, List.flatten_nil, List.append_nil] at hu
            have hjn : j - k * n < n := by
              have := (List.getElem?_eq_some_iff.1 hu).1
              omega
            have := r3 (j - k * n) hjn
            rw [show k * n + (j - k * n) = j by omega, hu] at this
            exact this
    obtain ⟨rows, h1, h2, h3⟩ := hrows len0 (Nat.le_refl _)
    refine ⟨some a, len0, _, rows, rfl, h1, hl, hm, h2, ?_, (fun h => by cases h), .inr ⟨_, _, (Prod.mk.inj hx).1, by simp, by simp; omega⟩⟩
    by_cases hz : rows.flatten = []
    · exact .inl hz
    · have hz' : 0 < rows.flatten.length := List.length_pos_iff.2 hz
      obtain ⟨b, off, spot⟩ := a
      have h0 := h3 0 _ (List.getElem?_eq_getElem hz')
      have hspot : spot = none := by simpa [Addr.add] using World.cell?_spot h0
      subst hspot
      refine .inr ⟨b, off, rfl, fun j u hu => ?_⟩
      have := h3 j u hu
      unfold Addr.add at this
      by_cases hj0 : j = 0
      · subst hj0
        simpa using this
      · simpa [hj0] using this
end

/-- Rows that are each some f a are one list's. -/
theorem rows_map {α : Type} (f : α → List Value) : ∀ rows : List (List Value), (∀ r ∈ rows, ∃ a, f a = r) → ∃ l : List α, l.map f = rows
  | [], _ => ⟨[], rfl⟩
  | r :: rows, h => by
    obtain ⟨a, ha⟩ := h r (List.mem_cons_self ..)
    obtain ⟨l, hl⟩ := rows_map f rows (fun x hx => h x (List.mem_cons_of_mem _ hx))
    exact ⟨a :: l, by rw [List.map_cons, ha, hl]⟩
theorem flatten_map {α : Type} (f : α → List Value) (l : List α) : (l.map f).flatten = l.flatMap f := by rw [List.flatMap_def]

theorem Scalar.int {P : Program} {t : TypeId} {v : Value} (h : Scalar P t v) (ht : P.underlying t = some (.int .i64)) : ∃ n, v = .int .i64 n ∧ (Lit.int .i64 n).wf = true := by
  rcases h with ⟨_, h⟩ | ⟨h, _⟩
  · exact h
  · rw [ht] at h; cases h
theorem Scalar.str {P : Program} {t : TypeId} {v : Value} (h : Scalar P t v) (ht : P.underlying t = some .string) : ∃ s, v = .string s ∧ s.size ≤ maxLen := by
  rcases h with ⟨h, _⟩ | ⟨_, h⟩
  · rw [ht] at h; cases h
  · exact h
end Go.Proofs.Ytmmeoabmjbclcaa

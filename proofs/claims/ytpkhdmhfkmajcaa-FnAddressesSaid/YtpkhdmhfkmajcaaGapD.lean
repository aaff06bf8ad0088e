/- Lists of lists of the call's own: compared, marked and held by the laws. -/
import Derived.Test.YtpkhdmhfkmajcaaGapC
namespace Go.Proofs.Ytpkhdmhfkmajcaa
open Go.RowKit
set_option linter.unusedVariables false

def pcells (p : Int × Int) : List Value := [.int .i64 p.1, .int .i64 p.2]
/-- The same, with a bound on where all of it lies. -/
def NestU (w : World) (B N : Nat) (v : Value) (L : List (Int × Int)) : Prop :=
  ∃ bs : List Nat, (bs.length = L.length ∧ bs.Nodup ∧ w.ownsRow B 49 1 v L.length (bs.map hdr) ∧ (∀ b ∈ bs, B ≤ b ∧ v.ownBlock ≠ some b) ∧
    ∀ (i : Nat) (b : Nat) (p : Int × Int), bs[i]? = some b → L[i]? = some p → w.heap[b]? = some (.cells #[.int .i64 p.1, .int .i64 p.2] 3 (0, 0))) ∧ (∀ b ∈ bs, b < N) ∧ ∀ k, v.ownBlock = some k → k < N
theorem NestU.nest {w : World} {B N : Nat} {v : Value} {L : List (Int × Int)} (h : NestU w B N v L) : Nest w B v L := by
  obtain ⟨bs, h1, -, -⟩ := h
  exact ⟨bs, h1⟩
theorem NestU.low {w w' : World} {B N : Nat} {v : Value} {L : List (Int × Int)} (h : NestU w B N v L) (hb : Below N w w') : NestU w' B N v L := by
  obtain ⟨bs, ⟨h1, h2, h3, h4, h5⟩, h6, h7⟩ := h
  refine ⟨bs, ⟨h1, h2, own_low h3 hb h7, h4, fun i b p hi hp => ?_⟩, h6, h7⟩
  rw [hb.block b (h6 b (List.mem_of_getElem? hi))]
  exact h5 i b p hi hp
/-- A write to older memory. -/
theorem Nest.far {w w' : World} {B g : Nat} {v : Value} {L : List (Int × Int)} (h : Nest w B v L) (hg : w.grownBy w' (some g)) (hB : g < B) : Nest w' B v L := by
  obtain ⟨bs, h1, h2, h3, h4, h5⟩ := h
  refine ⟨bs, h1, h2, own_far h3 hg hB, h4, fun i b p hi hp => ?_⟩
  have hc := h5 i b p hi hp
  have hb := (h4 b (List.mem_of_getElem? hi)).1
  rw [hg.block b (Array.getElem?_eq_some_iff.1 hc).1 (fun e => by injection e with e; omega)]
  exact hc
/-- One inner row turned. -/
theorem Nest.set {w w' : World} {B b q : Nat} {v : Value} {L : List (Int × Int)} {bs : List Nat} {x y : Int}
    (h1 : bs.length = L.length) (h2 : bs.Nodup) (h3 : w.ownsRow B 49 1 v L.length (bs.map hdr)) (h4 : ∀ b ∈ bs, B ≤ b ∧ v.ownBlock ≠ some b)
    (h5 : ∀ (i : Nat) (b : Nat) (p : Int × Int), bs[i]? = some b → L[i]? = some p → w.heap[b]? = some (.cells #[.int .i64 p.1, .int .i64 p.2] 3 (0, 0)))
    (hb : bs[q]? = some b) (ho : w'.ownsRow B 3 1 (hdr b) 2 [.int .i64 x, .int .i64 y]) (hg : w.grownBy w' (some b)) : Nest w' B v (L.set q (x, y)) := by
  have hbm := List.mem_of_getElem? hb
  have hrow : w'.heap[b]? = some (.cells #[.int .i64 x, .int .i64 y] 3 (0, 0)) := by
    rcases ho.2 with ⟨h, _⟩ | ⟨g, cap, cur, h, hBg, hh, _, _, hs, ht⟩
    · simp [hdr] at h
    · simp only [hdr, Value.slice.injEq, Option.some.injEq, Addr.mk.injEq, and_true, true_and] at h
      obtain ⟨rfl, rfl⟩ := h
      have hc : cur = #[.int .i64 x, .int .i64 y] := by
        apply Array.ext'
        rw [← ht, List.take_of_length_le (by rw [Array.length_toList, hs]; omega)]
      rw [hh, hc]
  refine ⟨bs, by simpa using h1, h2, ?_, h4, fun i b' p hi hp => ?_⟩
  · rw [List.length_set]
    exact h3.kept hg (.inr (h4 b hbm).2)
  · by_cases hiq : i = q
    · subst hiq
      rw [hb] at hi
      injection hi with hi
      subst hi
      rw [List.getElem?_set_self (by rw [← h1]; exact (List.getElem?_eq_some_iff.1 hb).1)] at hp
      injection hp with hp
      subst hp
      exact hrow
    · rw [List.getElem?_set_ne (fun e => hiq e.symm)] at hp
      have hc := h5 i b' p hi hp
      have hne : b' ≠ b := fun e => hiq (by
        subst e
        exact (List.getElem?_inj (List.getElem?_eq_some_iff.1 hi).1 h2).1 (by rw [hi, hb]))
      rw [hg.block b' (Array.getElem?_eq_some_iff.1 hc).1 (fun e => hne (by injection e))]
      exact hc
theorem heap_rd {w : World} {b : Nat} {x y : Int} (h : w.heap[b]? = some (.cells #[.int .i64 x, .int .i64 y] 3 (0, 0))) : Rd w (some ⟨b, 0, none⟩) ([x, y].map (Value.int .i64)) :=
  .inr ⟨b, 0, rfl, fun j u hu => by rw [Nat.zero_add, heap_cell h]; simpa using hu⟩

def marksP (t : Int) (n : Nat) : List (Int × Int) := (List.range n).map fun i : Nat => (t + 2 * (i : Int), t + 2 * (i : Int) + 1)
theorem marksP_length (t : Int) (n : Nat) : (marksP t n).length = n := by simp [marksP]
theorem marksP_set {t : Int} {q : Nat} {L : List (Int × Int)} (h : q < L.length) : (marksP t q ++ L.drop q).set q (t + 2 * (q : Int), t + 2 * (q : Int) + 1) = marksP t (q + 1) ++ L.drop (q + 1) := by
  rw [List.set_append_right _ _ (by simp [marksP_length]), marksP_length, Nat.sub_self, List.drop_eq_getElem_cons h, List.set_cons_zero]
  simp [marksP, List.range_succ]

end Go.Proofs.Ytpkhdmhfkmajcaa

/- Lists of pairs that the call has made, each in a block of its own. -/
import Derived.Test.YtpkhdmhfkmajcaaInsX
import Derived.Test.YtpkhdmhfkmajcaaStrF
import Derived.Test.YtpkhdmhfkmajcaaIntS
namespace Go.Proofs.Ytpkhdmhfkmajcaa
open Go.RowKit
set_option linter.unusedVariables false

def hdr (b : Nat) : Value := .slice (some ⟨b, 0, none⟩) 2 2
def Nest (w : World) (B : Nat) (v : Value) (L : List (Int × Int)) : Prop :=
  ∃ bs : List Nat, bs.length = L.length ∧ bs.Nodup ∧ w.ownsRow B 49 1 v L.length (bs.map hdr) ∧ (∀ b ∈ bs, B ≤ b ∧ v.ownBlock ≠ some b) ∧
    ∀ (i : Nat) (b : Nat) (p : Int × Int), bs[i]? = some b → L[i]? = some p → w.heap[b]? = some (.cells #[.int .i64 p.1, .int .i64 p.2] 3 (0, 0))
theorem Nest.nil (w : World) (B : Nat) : Nest w B (.slice none 0 0) [] :=
  ⟨[], rfl, List.nodup_nil, World.ownsRow_nil _ _ _ _, by simp, by simp⟩
theorem own_low {w w' : World} {B N n sz : Nat} {e : TypeId} {v : Value} {xs : List Value} (h : w.ownsRow B e sz v n xs) (hb : Below N w w') (hl : ∀ k, v.ownBlock = some k → k < N) : w'.ownsRow B e sz v n xs := by
  refine ⟨h.1, ?_⟩
  rcases h.2 with h2 | ⟨g, cap, cur, rfl, hg, hh, r⟩
  · exact .inl h2
  · exact .inr ⟨g, cap, cur, rfl, hg, by rw [hb.block g (hl g rfl)]; exact hh, r⟩
theorem Nest.low {w w' : World} {B N : Nat} {v : Value} {L : List (Int × Int)} (h : Nest w B v L) (hb : Below N w w') (hl : w.heap.size ≤ N) : Nest w' B v L := by
  obtain ⟨bs, h1, h2, h3, h4, h5⟩ := h
  refine ⟨bs, h1, h2, own_low h3 hb (fun k hk => by have := (h3.lt k hk).2; omega), h4, fun i b p hi hp => ?_⟩
  have hc := h5 i b p hi hp
  rw [hb.block b (by have := (Array.getElem?_eq_some_iff.1 hc).1; omega)]
  exact hc
theorem Nest.below {w w' : World} {B : Nat} {v : Value} {L : List (Int × Int)} (h : Nest w B v L) (hb : Below w.heap.size w w') : Nest w' B v L := h.low hb (Nat.le_refl _)
theorem Nest.le {w : World} {B B' : Nat} {v : Value} {L : List (Int × Int)} (h : Nest w B v L) (hB : B' ≤ B) : Nest w B' v L := by
  obtain ⟨bs, h1, h2, h3, h4, h5⟩ := h
  exact ⟨bs, h1, h2, own_le h3 hB, fun b hb => ⟨Nat.le_trans hB (h4 b hb).1, (h4 b hb).2⟩, h5⟩
theorem Nest.lt {w : World} {B : Nat} {v : Value} {L : List (Int × Int)} (h : Nest w B v L) : ∃ bs : List Nat, (bs.length = L.length ∧ bs.Nodup ∧ w.ownsRow B 49 1 v L.length (bs.map hdr) ∧ (∀ b ∈ bs, B ≤ b ∧ v.ownBlock ≠ some b) ∧
    ∀ (i : Nat) (b : Nat) (p : Int × Int), bs[i]? = some b → L[i]? = some p → w.heap[b]? = some (.cells #[.int .i64 p.1, .int .i64 p.2] 3 (0, 0))) ∧ (∀ b ∈ bs, b < w.heap.size) ∧ ∀ k, v.ownBlock = some k → k < w.heap.size := by
  obtain ⟨bs, h1, h2, h3, h4, h5⟩ := h
  refine ⟨bs, ⟨h1, h2, h3, h4, h5⟩, fun b hb => ?_, fun k hk => (h3.lt k hk).2⟩
  obtain ⟨i, hi⟩ := List.mem_iff_getElem?.1 hb
  have hil : i < L.length := by rw [← h1]; exact (List.getElem?_eq_some_iff.1 hi).1
  exact (Array.getElem?_eq_some_iff.1 (h5 i b _ hi (List.getElem?_eq_getElem hil))).1
/-- One pair more. -/
theorem Nest.more {w w' : World} {B g1 g' cap : Nat} {v : Value} {L : List (Int × Int)} {x y : Int} {bs : List Nat} (h1 : bs.length = L.length) (h2 : bs.Nodup) (h4 : ∀ b ∈ bs, B ≤ b ∧ v.ownBlock ≠ some b)
    (h5 : ∀ (i : Nat) (b : Nat) (p : Int × Int), bs[i]? = some b → L[i]? = some p → w.heap[b]? = some (.cells #[.int .i64 p.1, .int .i64 p.2] 3 (0, 0)))
    (hlt : ∀ b ∈ bs, b < g1) (hg1 : w.heap[g1]? = some (.cells #[.int .i64 x, .int .i64 y] 3 (0, 0))) (hB1 : B ≤ g1) (hvg : v.ownBlock ≠ some g1)
    (ho : w'.ownsRow B 49 1 (.slice (some ⟨g', 0, none⟩) (L.length + 1) cap) (L.length + 1) (bs.map hdr ++ [hdr g1])) (hgr : w.grownBy w' v.ownBlock) (hg' : some g' = v.ownBlock ∨ w.heap.size ≤ g') :
    Nest w' B (.slice (some ⟨g', 0, none⟩) (L.length + 1) cap) (L ++ [(x, y)]) := by
  have hz1 := (Array.getElem?_eq_some_iff.1 hg1).1
  have hblt : ∀ b ∈ bs, b < w.heap.size := fun b hb => by have := hlt b hb; omega
  have hne : ∀ b, (b ∈ bs ∨ b = g1) → g' ≠ b := fun b hb e => by
    rcases hg' with hg' | hg'
    · rcases hb with hb | hb
      · exact (h4 b hb).2 (by rw [← hg', e])
      · exact hvg (by rw [← hg', e, hb])
    · rcases hb with hb | hb
      · have := hblt b hb; omega
      · omega
  refine ⟨bs ++ [g1], by simp [h1], ?_, by simpa using ho, fun b hb => ?_, fun i b p hi hp => ?_⟩
  · rw [List.nodup_append]
    refine ⟨h2, by simp, fun a ha b hb => ?_⟩
    simp only [List.mem_singleton] at hb
    have := hlt a ha
    omega
  · rw [List.mem_append, List.mem_singleton] at hb
    refine ⟨?_, fun e => hne b hb (by injection e)⟩
    rcases hb with hb | hb
    · exact (h4 b hb).1
    · omega
  · by_cases hlt2 : i < bs.length
    · rw [List.getElem?_append_left hlt2] at hi
      rw [List.getElem?_append_left (by omega)] at hp
      have hc := h5 i b p hi hp
      rw [hgr.block b (Array.getElem?_eq_some_iff.1 hc).1 (fun e => (h4 b (List.mem_of_getElem? hi)).2 e.symm)]
      exact hc
    · have hi2 : i = bs.length := by
        have := (List.getElem?_eq_some_iff.1 hi).1
        simp at this
        omega
      subst hi2
      simp at hi
      rw [h1] at hp
      simp at hp
      subst hi hp
      rw [hgr.block g1 hz1 (fun e => hvg e.symm)]
      exact hg1
/-- The row of one pair. -/
theorem Nest.row {w : World} {B b : Nat} {x y : Int} (hB : B ≤ b) (h : w.heap[b]? = some (.cells #[.int .i64 x, .int .i64 y] 3 (0, 0))) : w.ownsRow B 3 1 (hdr b) 2 [.int .i64 x, .int .i64 y] :=
  ⟨rfl, .inr ⟨b, 2, _, rfl, hB, h, Nat.le_refl _, by unfold maxLen; omega, rfl, rfl⟩⟩
end Go.Proofs.Ytpkhdmhfkmajcaa

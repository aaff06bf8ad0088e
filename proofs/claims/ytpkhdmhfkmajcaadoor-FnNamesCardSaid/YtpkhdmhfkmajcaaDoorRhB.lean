/- A house removed: the program's way. -/
import Derived.Test.YtpkhdmhfkmajcaaDoorRhA
import Derived.Test.YtpkhdmhfkmajcaaDoorStrF
namespace Go.Proofs.YtpkhdmhfkmajcaaDoor
open Go.RowKit
set_option linter.unusedVariables false

def rhO (l : List StrT) (s : ByteArray) (h : Int) : Option (List StrT) :=
  if strsB l && roadB s && inB h 1 999 then
    (match l[(findI (findP s h) l).toNat]? with
    | some x => if 0 ≤ findI (findP s h) l ∧ strsB (rhN l (findI (findP s h) l).toNat x h) = true then some (rhN l (findI (findP s h) l).toNat x h) else none
    | none => none)
  else none
def rhL (l : List StrT) (s : ByteArray) (h : Int) : List StrT := (rhO l s h).getD []
def RhPost (l : List StrT) (s : ByteArray) (h : Int) (w : World) (e : Ending) (w' : World) : Prop :=
  (∃ v, e = .returned (.tuple #[v, .bool (rhO l s h).isSome]) ∧ w'.ownsRow w.heap.size 39 5 v (rhL l s h).length ((rhL l s h).flatMap scells)) ∧ Below w.heap.size w w'
theorem RhPost.no {l : List StrT} {s : ByteArray} {h : Int} {w w' : World} (ho : rhO l s h = none) (hb : Below w.heap.size w w') : RhPost l s h w (.returned (.tuple #[.slice none 0 0, .bool false])) w' :=
  ⟨⟨_, by rw [ho]; rfl, by rw [rhL, ho]; exact World.ownsRow_nil _ _ _ _⟩, hb⟩
theorem RhPost.yes {l r : List StrT} {s : ByteArray} {h : Int} {w w' : World} {v : Value} {n : Nat} (ho : rhO l s h = some r) (hn : n = r.length) (hv : w'.ownsRow w.heap.size 39 5 v n (r.flatMap scells)) (hb : Below w.heap.size w w') : RhPost l s h w (.returned (.tuple #[v, .bool true])) w' :=
  ⟨⟨_, by rw [ho]; rfl, by rw [rhL, ho]; show w'.ownsRow _ _ _ _ r.length _; rw [← hn]; exact hv⟩, hb⟩
theorem rhO_bad {l : List StrT} {s : ByteArray} {h : Int} (hv : (strsB l && roadB s && inB h 1 999) = false) : rhO l s h = none := by rw [rhO, hv]; rfl
theorem rhO_lost {l : List StrT} {s : ByteArray} {h : Int} (hf : findI (findP s h) l < 0) : rhO l s h = none := by
  rw [rhO]
  split
  · split
    · rw [if_neg (by omega)]
    · rfl
  · rfl
theorem rhO_at {l : List StrT} {s : ByteArray} {h : Int} {k : Nat} {x : StrT} (hv : (strsB l && roadB s && inB h 1 999) = true) (hf : findI (findP s h) l = (k : Nat)) (hx : l[k]? = some x) : rhO l s h = if strsB (rhN l k x h) then some (rhN l k x h) else none := by
  rw [rhO, if_pos hv, hf, Int.toNat_natCast, hx]
  by_cases hc : strsB (rhN l k x h) = true
  · simp [hc]
  · simp [hc]
theorem strsB_le {l : List StrT} (h : strsB l = true) : l.length ≤ 30 := by
  rw [strsB, Bool.and_eq_true] at h
  simpa using h.2
theorem rhN_length {l : List StrT} {k : Nat} {x : StrT} {h : Int} (hx : l[k]? = some x) : (rhN l k x h).length = k + (belowL x h).length + (aboveL x h).length + (l.length - (k + 1)) := by
  have := (List.getElem?_eq_some_iff.1 hx).1
  simp [rhN]
  omega
theorem rhN_road {l : List StrT} {k : Nat} {x : StrT} {h : Int} (hx : l[k]? = some x) (hs : ∀ y ∈ l, y.1.size ≤ maxLen) : ∀ y ∈ rhN l k x h, y.1.size ≤ maxLen := by
  have h0 := hs x (List.mem_of_getElem? hx)
  intro y hy
  simp only [rhN, List.mem_append] at hy
  rcases hy with ((hy | hy) | hy) | hy
  · exact hs y (List.mem_of_mem_take hy)
  · unfold belowL at hy
    split at hy
    · simp at hy; subst hy; exact h0
    · simp at hy
  · unfold aboveL at hy
    split at hy
    · simp at hy; subst hy; exact h0
    · simp at hy
  · exact hs y (List.mem_of_mem_drop hy)

end Go.Proofs.YtpkhdmhfkmajcaaDoor

/- Loads: what LoadsOf returns. -/
import Derived.Test.YtfcpgpmhjadanaaNetH
namespace Go.Proofs.Ytfcpgpmhjadanaa
open Go.RowKit
set_option linter.unusedVariables false

def askB (M H : List (Int × Int)) (F : List Int) : Bool := netB M H && flowsB H F
def loL (M H : List (Int × Int)) (F : List Int) : List Int := if askB M H F then (List.range M.length).map (loadsF M H F) else []
theorem loL_length (M H : List (Int × Int)) (F : List Int) : (loL M H F).length ≤ 1048576 := by
  unfold loL
  split
  · next h =>
    rw [askB, Bool.and_eq_true] at h
    have := (netB_ok h.1).m10
    simp; omega
  · simp
/-- A list of numbers in a row of the call's own, and a Bool. -/
def AskPost (ok : Bool) (L : List Int) (w : World) (e : Ending) (w' : World) : Prop :=
  (∃ v, e = .returned (.tuple #[v, .bool ok]) ∧ w'.ownsRow w.heap.size 3 1 v L.length (L.map (Value.int .i64))) ∧ Below w.heap.size w w'
theorem AskPost.no {ok : Bool} {L : List Int} {w w' : World} (h1 : ok = false) (h2 : L = []) (hb : Below w.heap.size w w') : AskPost ok L w (.returned (.tuple #[.slice none 0 0, .bool false])) w' := by
  subst h1 h2
  exact ⟨⟨_, rfl, World.ownsRow_nil _ _ _ _⟩, hb⟩
theorem ownD_list {w : World} {B g n : Nat} {D : Nat → Int} (h : OwnD w B g n D) : w.ownsRow B 3 1 (.slice (some ⟨g, 0, none⟩) n n) ((List.range n).map D).length (((List.range n).map D).map (Value.int .i64)) := by
  rw [List.length_map, List.length_range, List.map_map]
  exact h
theorem lo_no {M H : List (Int × Int)} {F : List Int} (h : askB M H F = false) : loL M H F = [] := by rw [loL, h]; rfl
theorem lo_yes {M H : List (Int × Int)} {F : List Int} (h : askB M H F = true) : loL M H F = (List.range M.length).map (loadsF M H F) := by rw [loL, h]; rfl
theorem AskPost.yes {L : List Int} {w w' : World} {B g n : Nat} {D : Nat → Int} (hL : L = (List.range n).map D) (ho : OwnD w' B g n D) (hB : w.heap.size ≤ B) (hb : Below w.heap.size w w') : AskPost true L w (.returned (.tuple #[.slice (some ⟨g, 0, none⟩) n n, .bool true])) w' := by
  subst hL
  exact ⟨⟨_, rfl, own_le (ownD_list ho) hB⟩, hb⟩

end Go.Proofs.Ytfcpgpmhjadanaa

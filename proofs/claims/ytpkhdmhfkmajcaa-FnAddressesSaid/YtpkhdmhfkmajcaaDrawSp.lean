/- Draws: a text with one or two edits. -/
import Derived.Test.YtpkhdmhfkmajcaaDrawA
import Derived.BigRegion
import Derived.Deep.LoopGhost
import Derived.Laws.IdiomStrings
namespace Go.Proofs.Ytpkhdmhfkmajcaa
open Go.RowKit
set_option linter.unusedVariables false
set_option linter.unusedSimpArgs false

theorem of_lit (d : Drw) (N : Nat) (l : List ByteArray) (w : World) (b : Nat) (hb : w.heap.size = b) (hd : d.ok) (h : d.st N w) (hN : N ≤ 1000000000000) (h0 : 0 < l.length) (hm : l.length ≤ 1000) :
    Calls Try.prog 50 #[.pointer (some ⟨d.g, 0, none⟩), .slice (some ⟨b, 0, none⟩) l.length l.length] (w.alloc (.cells (l.map Value.string).toArray 9)) fun e w' => (∃ v, e = .returned (.string v) ∧ v ∈ l) ∧ d.st (N + 2) w' ∧ w.grownBy w' (some d.g) := by
  subst hb
  have hR := (Row.new w (l.map Value.string).toArray 9).rd
  refine (of_any d N _ l.length l.length l _ hd (h.alloc _) hN rfl h0 hm (by simpa using hR) (fun b o sp e => by injection e with e; injection e with e; have := h.lt; omega)).mono ?_
  rintro e w' ⟨hv, hs, hg⟩
  exact ⟨hv, hs, grown_trans (grown_of_below ((Below.refl _ _).alloc (Nat.le_refl _) _) _) hg⟩
end Go.Proofs.Ytpkhdmhfkmajcaa

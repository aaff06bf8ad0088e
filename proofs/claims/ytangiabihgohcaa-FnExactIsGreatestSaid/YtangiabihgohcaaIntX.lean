/- A slice of integers copied by the laws: where it lies, a letter. -/
import Derived.Test.YtangiabihgohcaaIntS
namespace Go.Proofs.Ytangiabihgohcaa
open Go.RowKit
set_option linter.unusedVariables false

theorem toIntS_ex (A : Option Addr) (n c : Nat) (l : List Int) (w : World) (hn : n = l.length) (hm : n ≤ 1048576) (hr : Rd w A (l.map (Value.int .i64))) :
    Calls Try.prog 20 #[.slice A n c] w fun e w' => (∃ g, e = .returned (.slice (some ⟨g, 0, none⟩) n n) ∧ w.heap.size ≤ g ∧ g < w'.heap.size ∧ Row w' g (l.map (Value.int .i64))) ∧ Below w.heap.size w w' :=
  (toIntS_any A n c l w hn hm hr).mono fun e w' ⟨he, hr', hb⟩ => ⟨⟨_, he, Nat.le_refl _, hr'.1, hr'⟩, hb⟩
end Go.Proofs.Ytangiabihgohcaa

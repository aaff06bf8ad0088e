/- Towns copied, marked and looked at by the laws. -/
import Derived.Test.YtbhnaakknfienaaGreatDoorTownU
import Derived.Test.YtbhnaakknfienaaGreatDoorMarkStreet
import Derived.Test.YtbhnaakknfienaaGreatDoorRowStreet
namespace Go.Proofs.YtbhnaakknfienaaGreatDoor
open Go.RowKit
set_option linter.unusedVariables false

theorem grown_cell {w w' : World} {row : Option Nat} {b o : Nat} {v : Value} (hg : w.grownBy w' row) (h : w.cell? ⟨b, o, none⟩ = some v) (hne : some b ≠ row) : w'.cell? ⟨b, o, none⟩ = some v := hg.cell h hne
theorem own_kept {w w' : World} {B n sz : Nat} {e : TypeId} {v : Value} {xs : List Value} {row : Option Nat} (h : w.ownsRow B e sz v n xs) (hg : w.grownBy w' row) (hne : ∀ k, v.ownBlock = some k → some k ≠ row) : w'.ownsRow B e sz v n xs :=
  h.kept hg (by
    cases hv : v.ownBlock with
    | none => exact .inl rfl
    | some g => exact .inr (hne g hv))
theorem goodB_ok {nd i : Int} {l : List (Int × Int × Int)} (h : goodB nd l i = true) : ∃ k x : Nat, nd = k ∧ i = x ∧ x < k ∧ TownOk k l := by
  rw [goodB, Bool.and_eq_true] at h
  obtain ⟨k, rfl, hk⟩ := townB_ok h.1
  obtain ⟨x, rfl, hx⟩ := nodeB_ok h.2
  exact ⟨k, x, rfl, rfl, hx, hk⟩
end Go.Proofs.YtbhnaakknfienaaGreatDoor

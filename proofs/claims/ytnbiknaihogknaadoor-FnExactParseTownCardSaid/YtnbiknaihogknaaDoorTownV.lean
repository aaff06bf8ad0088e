/- Towns copied, marked and looked at by the laws. -/
import Derived.Test.YtnbiknaihogknaaDoorTownU
import Derived.Test.YtnbiknaihogknaaDoorMarkStreet
import Derived.Test.YtnbiknaihogknaaDoorRowStreet
namespace Go.Proofs.YtnbiknaihogknaaDoor
open Go.RowKit
set_option linter.unusedVariables false

set_option maxHeartbeats 1000000 in
theorem markTown_row (nd : Int) (g n c : Nat) (xs : List Value) (t : Int) (w : World) (h : Row w g xs) (hl : xs.length = n * 3) (hm : n ≤ 1048576) (h0 : 0 ≤ t) (h1 : t ≤ 1099511627776) :
    Calls Tryd.prog 7 #[.agg #[.int .i64 nd, .slice (some ⟨g, 0, none⟩) n c], .int .i64 t] w fun e w' => e = .returned (.int .i64 (t + 3 * n)) ∧ w.grownBy w' (some g) := by
  have q := markStreetS_any g n c xs t (w.alloc (.cells #[.int .i64 nd, .slice (some ⟨g, 0, none⟩) n c] 24)) (h.alloc _) hl hm h0 h1
  have Q := hide q
  clear q h hl
  go_enter Tryd.func7, Tryd.ntmps7
  go_wp2_with fail
  refine Q.out.mono ?_
  rintro e w1 ⟨rfl, -, hg⟩
  have HG := hide hg
  clear hg
  go_wp2
  go_ret
  exact ⟨rfl, grown_trans (grown_of_below ((Below.refl _ _).alloc (Nat.le_refl _) _) _) HG.out⟩

set_option maxHeartbeats 1000000 in
theorem markTown_own (nd : Int) (B : Nat) (v : Value) (n : Nat) (xs : List Value) (t : Int) (w : World) (h : w.ownsRow B 34 3 v n xs) (hm : n ≤ 1048576) (h0 : 0 ≤ t) (h1 : t ≤ 1099511627776) :
    Calls Tryd.prog 7 #[.agg #[.int .i64 nd, v], .int .i64 t] w fun e w' => e = .returned (.int .i64 (t + 3 * n)) ∧ w'.ownsRow B 34 3 v n (marks t (n * 3)) ∧ w.grownBy w' v.ownBlock := by
  have q := markStreetS_own B v n xs t (w.alloc (.cells #[.int .i64 nd, v] 24)) (h.alloc _) hm h0 h1
  have hv : v.oneCell' = true := by
    rcases h.2 with ⟨rfl, _⟩ | ⟨g, cap, cur, rfl, _⟩ <;> rfl
  obtain ⟨A, k, rfl, -⟩ := own_open h
  have Q := hide q
  clear q h hv
  go_enter Tryd.func7, Tryd.ntmps7
  go_wp2_with fail
  refine Q.out.mono ?_
  rintro e w1 ⟨rfl, ho, hg⟩
  have HG := hide (And.intro ho hg)
  clear ho hg
  go_wp2
  go_ret
  exact ⟨rfl, HG.out.1, grown_trans (grown_of_below ((Below.refl _ _).alloc (Nat.le_refl _) _) _) HG.out.2⟩

set_option maxHeartbeats 1000000 in
theorem heldTown_any (nd : Int) (A : Option Addr) (n c : Nat) (t : Int) (w : World) (h : Rd w A (marks t (n * 3))) (hm : n ≤ 1048576) (h0 : 0 ≤ t) (h1 : t ≤ 1099511627776) :
    Calls Tryd.prog 8 #[.agg #[.int .i64 nd, .slice A n c], .int .i64 t] w fun e w' => e = .returned (.int .i64 (t + 3 * n)) ∧ Below w.heap.size w w' := by
  have q := heldStreetS_any A n c t (w.alloc (.cells #[.int .i64 nd, .slice A n c] 24)) (h.alloc _) hm h0 h1
  have Q := hide q
  clear q h
  go_enter Tryd.func8, Tryd.ntmps8
  go_wp2_with (go_at_call 17; ((with_reducible refine (Q.out).mono ?_); rintro e w' ⟨rfl, rfl⟩))
  go_ret
  exact ⟨rfl, (by repeat (first | exact Below.refl _ _ | refine below_step ?_ (by assumption) | refine below_step ?_ (Later.below _) | refine below_alloc ?_ _ | refine Below.drew ?_ | refine Below.setCell ?_ (by first | (simp; done) | (simp; omega)) _))⟩

theorem grown_cell {w w' : World} {row : Option Nat} {b o : Nat} {v : Value} (hg : w.grownBy w' row) (h : w.cell? ⟨b, o, none⟩ = some v) (hne : some b ≠ row) : w'.cell? ⟨b, o, none⟩ = some v := hg.cell h hne
theorem own_kept {w w' : World} {B n sz : Nat} {e : TypeId} {v : Value} {xs : List Value} {row : Option Nat} (h : w.ownsRow B e sz v n xs) (hg : w.grownBy w' row) (hne : ∀ k, v.ownBlock = some k → some k ≠ row) : w'.ownsRow B e sz v n xs :=
  h.kept hg (by
    cases hv : v.ownBlock with
    | none => exact .inl rfl
    | some g => exact .inr (hne g hv))
theorem goodB_ok {nd i : Int} {l : List (Int × Int × Int)} (h : goodB nd l i = true) : ∃ k x : Nat, nd = k ∧ i = x ∧ x < k ∧ TownOk k l := by
  rw [goodB, Bool.and_eq_true] at h
  obtain ⟨k, rfl, hk⟩ := townB_ok h.1
  obtain ⟨x, rfl, hx⟩ := nodeB_ok h.2
  exact ⟨k, x, rfl, rfl, hx, hk⟩
end Go.Proofs.YtnbiknaihogknaaDoor

/- Nets of the call's own, marked by the laws. -/
import Derived.Test.YtmoelgbbgepckaaDoorPyC
import Derived.Test.YtmoelgbbgepckaaDoorPyNetJ
import Derived.Test.YtmoelgbbgepckaaDoorPyNetCl
namespace Go.Proofs.YtmoelgbbgepckaaDoor
open Go.RowKit
set_option linter.unusedVariables false

/-- Rows of two kinds lie in two blocks. -/
theorem own_two {w : World} {B n m sz sz' : Nat} {v v' : Value} {xs ys : List Value} (h : w.ownsRow B 120 sz v n xs) (h' : w.ownsRow B 118 sz' v' m ys) : ∀ k q, v.ownBlock = some k → v'.ownBlock = some q → k ≠ q := by
  intro k q hk hq e
  subst e
  rcases h.2 with ⟨rfl, _⟩ | ⟨g, cap, cur, rfl, _, hg, _⟩
  · simp [Value.ownBlock] at hk
  · rcases h'.2 with ⟨rfl, _⟩ | ⟨g', cap', cur', rfl, _, hg', _⟩
    · simp [Value.ownBlock] at hq
    · simp only [Value.ownBlock, Option.some.injEq] at hk hq
      subst hk hq
      rw [hg] at hg'
      injection hg' with hg'
      injection hg' with _ ht
      revert ht
      decide

set_option maxHeartbeats 2000000 in
theorem markNet_own (B : Nat) (v v' : Value) (n m : Nat) (xs ys : List Value) (t : Int) (w : World) (h : w.ownsRow B 120 2 v n xs) (h' : w.ownsRow B 118 2 v' m ys) (hm : n + m ≤ 1048576) (h0 : 0 ≤ t) (h1 : t ≤ 1000) :
    Calls Tryd.prog 39 #[.agg #[v, v'], .int .i64 t] w fun e w' => e = .returned (.int .i64 (t + 2 * n + 2 * m)) ∧ ∃ w1, w'.ownsRow B 120 2 v n (marks t (n * 2)) ∧ w'.ownsRow B 118 2 v' m (marks (t + 2 * n) (m * 2)) ∧ w.grownBy w1 v.ownBlock ∧ w1.grownBy w' v'.ownBlock := by
  have q := markMainS_own B v n xs t (w.alloc (.cells #[v, v'] 57)) (h.alloc _) (by omega) h0 (by omega)
  have hne := own_two h h'
  have h2 := World.ownsRow.alloc h' (.cells #[v, v'] 57)
  have hlt := fun k hk => (h.lt k hk).2
  obtain ⟨A, k, rfl, -⟩ := own_open h
  obtain ⟨A', k', rfl, -⟩ := own_open h'
  have hc := cell_new2 w (.slice A n k) (.slice A' m k') 57
  have Q := hide q
  have HNE := hide hne
  have H2 := hide h2
  have HLT := hide hlt
  clear q h h' hne h2 hlt
  go_enter Tryd.func39, Tryd.ntmps39
  go_wp2_with fail
  refine Q.out.mono ?_
  rintro e w1 ⟨rfl, ho, hg⟩
  have a1 := grown_cell hg hc.2 (fun e => by have := HLT.out _ e.symm; omega)
  have HH1 := hide (own_kept H2.out hg (fun q hq e => by exact HNE.out _ _ e.symm hq rfl))
  have HO := hide ho
  have HG := hide (grown_trans (grown_of_below ((Below.refl _ _).alloc (Nat.le_refl _) _) _) hg)
  have z1 := World.block_lt_of_cell? w1 _ a1
  dsimp only at z1
  clear ho hg Q hc H2
  go_wp2_with fail
  refine (markHydrantS_own B _ m ys (t + 2 * n) w1 HH1.out (by omega) (by omega) (by omega)).mono ?_
  rintro e w2 ⟨rfl, ho, hg⟩
  have HX := hide (own_kept HO.out hg (fun q hq e => by exact HNE.out _ _ hq e.symm rfl))
  have HY := hide ho
  have HG2 := hide hg
  clear ho hg
  go_wp2
  go_ret
  exact ⟨rfl, w1, HX.out, HY.out, HG.out, HG2.out⟩

set_option maxHeartbeats 1000000 in
theorem heldNet_any (A A' : Option Addr) (n c m d : Nat) (t : Int) (w : World) (h : Rd w A (marks t (n * 2))) (h' : Rd w A' (marks (t + 2 * n) (m * 2))) (hm : n + m ≤ 1048576) (h0 : 0 ≤ t) (h1 : t ≤ 1000) :
    Calls Tryd.prog 40 #[.agg #[.slice A n c, .slice A' m d], .int .i64 t] w fun e w' => e = .returned (.int .i64 (t + 2 * n + 2 * m)) ∧ Below w.heap.size w w' := by
  have q := heldMainS_any A n c t (w.alloc (.cells #[.slice A n c, .slice A' m d] 57)) (h.alloc _) (by omega) h0 (by omega)
  have q' := heldHydrantS_any A' m d (t + 2 * n) (w.alloc (.cells #[.slice A n c, .slice A' m d] 57)) (h'.alloc _) (by omega) (by omega) (by omega)
  have Q := hide q
  have Q' := hide q'
  have e1 : ¬ (t + 2 * (n : Int) < 0) := by omega
  have e2 : ¬ (t + 2 * (n : Int) + 2 * (m : Int) < 0) := by omega
  clear q q' h h'
  go_enter Tryd.func40, Tryd.ntmps40
  go_wp2_with (first | (go_at_call 96; ((with_reducible refine (Q.out).mono ?_); rintro e w' ⟨rfl, rfl⟩)) | (go_at_call 97; ((with_reducible refine (Q'.out).mono ?_); rintro e w' ⟨rfl, rfl⟩)))
  go_ret
  exact ⟨rfl, (by repeat (first | exact Below.refl _ _ | refine below_step ?_ (by assumption) | refine below_step ?_ (Later.below _) | refine below_alloc ?_ _ | refine Below.drew ?_ | refine Below.setCell ?_ (by first | (simp; done) | (simp; omega)) _))⟩
end Go.Proofs.YtmoelgbbgepckaaDoor

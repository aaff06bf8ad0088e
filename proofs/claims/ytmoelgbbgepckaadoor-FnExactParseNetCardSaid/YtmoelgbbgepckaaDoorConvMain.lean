/- What the laws' own functions on Main return: a copy; that two equal ones are equal. -/
import Derived.Test.YtmoelgbbgepckaaDoorRegions
import Derived.Test.YtmoelgbbgepckaaDoorRow
import Derived.Test.YtmoelgbbgepckaaDoorSmall
import Derived.Test.YtmoelgbbgepckaaDoorNetM
import Derived.WalkKit
import Derived.WalkSpells
import Derived.WalkLawsBesides
import Derived.KernelRfl
namespace Go.Proofs.YtmoelgbbgepckaaDoor
open Go.RowKit
set_option linter.unusedVariables false

set_option maxHeartbeats 1000000 in
theorem toMain_any (x0 : Int) (x1 : Int) (w : World) :
    Calls Tryd.prog 124 #[.agg #[.int .i64 x0, .int .i64 x1]] w fun e w' => e = .returned (.agg #[.int .i64 x0, .int .i64 x1]) ∧ Below w.heap.size w w' := by
  go_enter Tryd.func124, Tryd.ntmps124
  go_wp2
  exact bodyPost_ret (v := .agg #[.int .i64 x0, .int .i64 x1]) (by simp [results, Tryd.results124, go_sem]) rfl ⟨rfl, (by repeat (first | exact Below.refl _ _ | refine below_step ?_ (by assumption) | refine below_step ?_ (Later.below _) | refine below_alloc ?_ _ | refine Below.drew ?_ | refine Below.setCell ?_ (by first | (simp; done) | (simp; omega)) _))⟩

set_option maxHeartbeats 1000000 in
theorem eqMain_same (x0 : Int) (x1 : Int) (w : World) :
    Calls Tryd.prog 127 #[.agg #[.int .i64 x0, .int .i64 x1], .agg #[.int .i64 x0, .int .i64 x1]] w fun e w' => e = .returned (.bool true) ∧ Below w.heap.size w w' := by
  go_enter Tryd.func127, Tryd.ntmps127
  go_wp2
  go_ret
  exact ⟨rfl, (by repeat (first | exact Below.refl _ _ | refine below_step ?_ (by assumption) | refine below_step ?_ (Later.below _) | refine below_alloc ?_ _ | refine Below.drew ?_ | refine Below.setCell ?_ (by first | (simp; done) | (simp; omega)) _))⟩

theorem infoMain : (Tryd.prog.info? 120).map (fun i => (i.zero, i.size, i.bytes)) = some (some (.agg #[.int .i64 0, .int .i64 0]), 2, 16) := by kernel_rfl

set_option maxHeartbeats 2000000 in
theorem toMainS_any (A : Option Addr) (n c : Nat) (l : List (Int × Int)) (w : World) (hn : n = l.length) (hm : n ≤ 1048576) (hr : Rd w A (l.flatMap mcells)) :
    Calls Tryd.prog 86 #[.slice A n c] w fun e w' => e = .returned (.slice (some ⟨w.heap.size, 0, none⟩) n n) ∧ Row w' w.heap.size (l.flatMap mcells) ∧ Below w.heap.size w w' := by
  obtain ⟨i0, hi, hz0, hz1, hz2⟩ := info_parts infoMain
  have hmk := fun W => run_makeN (P := Tryd.prog) 54 120 Tryd.underlying54 hi hz0 n (by rw [hz2]; omega) hm W
  rw [hz1] at hmk
  simp only [Value.cells] at hmk
  have Hn := hide hn
  have Hr := hide hr
  clear hn hr hi hz0 hz1 hz2
  go_enter Tryd.func86, Tryd.ntmps86
  go_wp2_with fail
  clear hmk
  go_loopw [4] (fun t wr => ∃ k : Nat, k ≤ n ∧ t = .int .i64 k ∧ Below w.heap.size w wr ∧ Hid (∃ R : List Value, R.length = (n - k) * 2 ∧ Row wr w.heap.size ((l.take k).flatMap mcells ++ R))) (fun t _ => n - (intOf t).toNat)
  case atStart => exact ⟨0, by omega, rfl, (Below.refl _ _).alloc (Nat.le_refl _) _, hide ⟨(madeCells #[.int .i64 0, .int .i64 0] (n * 2)).toList, length_madeCells _ _, (Row.new w _ _).cast (by simp)⟩⟩
  case round =>
    obtain ⟨k, hk, rfl, hb, HR⟩ := hrel
    by_cases hlt : k < n
    · obtain ⟨⟨x0, x1⟩, hh⟩ : ∃ h, l[k]? = some h := ⟨_, List.getElem?_eq_getElem (by rw [← Hn.out]; exact hlt)⟩
      obtain ⟨b, off, rfl, hbs, c0, c1⟩ := (Hr.out.below hb).get2 (fun _ => rfl) hh rfl
      have Hh := hide hh
      clear hh
      obtain ⟨R, hRl, hR⟩ := HR.out
      have hR' := fun w1 (h : Below wr.heap.size wr w1) => hR.below h
      have HR' := hide hR'
      have hlen : ((l.take k).flatMap mcells).length = k * 2 := take_flat_length mcells 2 (fun _ => rfl) (by have := Hn.out; omega)
      have hRl' : 2 ≤ R.length := by rw [hRl]; have : (n - k) * 2 ≥ 1 * 2 := Nat.mul_le_mul_right _ (by omega); omega
      have hlt2 : ∀ j, j < 2 → k * 2 + j < ((l.take k).flatMap mcells ++ R).length := fun j hj => by rw [List.length_append, hlen]; omega
      have H2 := hide hlt2
      have HL := hide hlen
      have HRl := hide hRl
      have HRl' := hide hRl'
      clear hR hR' hlt2 hlen hRl hRl'
      go_wp2_with fail
      refine (toMain_any x0 x1 _).mono ?_
      rintro e w1 ⟨rfl, hb1⟩
      have hR1 := hide (HR'.out _ hb1)
      obtain ⟨o0, q0⟩ := hR1.out.there (j := k * 2) (by have := H2.out 0 (by omega); omega)
      have f0 := hR1.out.free (k * 2)
      obtain ⟨o1, q1⟩ := hR1.out.there (j := k * 2 + 1) (by have := H2.out 1 (by omega); omega)
      have f1 := hR1.out.free (k * 2 + 1)
      go_wp2
      go_roundw
      case rel =>
        refine ⟨k + 1, by omega, by go_num, Below.setCell (Below.setCell (below_step hb hb1) (Nat.le_refl _) _) (Nat.le_refl _) _, hide ⟨R.drop 2, ?_, ?_⟩⟩
        · rw [List.length_drop, HRl.out, show n - k = (n - (k + 1)) + 1 by omega, Nat.add_mul]
          omega
        · rw [take_flat_succ mcells Hh.out]
          exact (Row.set (Row.set (hR1.out) (by simpa using H2.out 0 (by omega)) _) (by simpa using H2.out 1 (by omega)) _).cast (set_run2 _ _ _ HL.out HRl'.out _ _)
      case measure => simp [intOf]; omega
    · go_wp2
      go_ret
      obtain ⟨R, hRl, hR⟩ := HR.out
      have hk' : k = n := by omega
      refine ⟨rfl, hR.cast ?_, hb⟩
      have : R = [] := List.eq_nil_of_length_eq_zero (by rw [hRl, hk']; simp)
      rw [this, List.append_nil, List.take_of_length_le (by have := Hn.out; omega)]

set_option maxHeartbeats 2000000 in
theorem eqMainS_same (A B : Option Addr) (n c d : Nat) (l : List (Int × Int)) (w : World) (hn : n = l.length) (hm : n ≤ 1048576) (hr : Rd w A (l.flatMap mcells)) (hs : Rd w B (l.flatMap mcells)) :
    Calls Tryd.prog 90 #[.slice A n c, .slice B n d] w fun e w' => e = .returned (.bool true) ∧ Below w.heap.size w w' := by
  have Hn := hide hn
  have Hr := hide hr
  have Hs := hide hs
  clear hn hr hs
  go_enter Tryd.func90, Tryd.ntmps90
  go_wp2_with fail
  go_loopw [5] (fun t wr => ∃ k : Nat, k ≤ n ∧ t = .int .i64 k ∧ Below w.heap.size w wr) (fun t _ => n - (intOf t).toNat)
  case atStart => exact ⟨0, by omega, rfl, Below.refl _ _⟩
  case round =>
    obtain ⟨k, hk, rfl, hb⟩ := hrel
    by_cases hlt : k < n
    · obtain ⟨⟨x0, x1⟩, hh⟩ : ∃ h, l[k]? = some h := ⟨_, List.getElem?_eq_getElem (by rw [← Hn.out]; exact hlt)⟩
      obtain ⟨b, off, rfl, hbs, c0, c1⟩ := (Hr.out.below hb).get2 (fun _ => rfl) hh rfl
      obtain ⟨b', off', rfl, hbs', d0, d1⟩ := (Hs.out.below hb).get2 (fun _ => rfl) hh rfl
      clear hh
      have hi0 : (0 : Int) ≤ (k : Int) := by omega
      have hi1 : (k : Int) < (n : Int) := by omega
      go_wp2_with fail
      refine wp_region_later (by kernel_rfl) (by kernel_rfl) ?_
      repeat (go_big_quiet_step ((go_at_call 127; exact calls_later (eqMain_same _ _ _))))
      refine wpQuiet_nil ?_
      rintro _ ⟨⟨w1, hb1⟩, rfl⟩
      go_wp2
      go_roundw
      case rel => exact ⟨k + 1, by omega, by go_num, below_step hb hb1⟩
      case measure => simp [intOf]; omega
    · go_wp2
      go_ret
      exact ⟨rfl, hb⟩

def szMain (n : Nat) (left : Int) : Int := if left - n < 0 then -1 else left - n
set_option maxHeartbeats 1000000 in
theorem szMainS_any (A : Option Addr) (n c : Nat) (left : Int) (w : World) (hn : n ≤ maxLen) (h0 : 0 ≤ left) (h1 : left ≤ 1048576) :
    Calls Tryd.prog 82 #[.slice A n c, .int .i64 left] w fun e w' => e = .returned (.int .i64 (szMain n left)) ∧ w = w' := by
  unfold maxLen at hn
  go_enter Tryd.func82, Tryd.ntmps82
  go_wp2
  all_goals
    go_ret
    exact ⟨by simp [szMain, *] <;> omega, rfl⟩
end Go.Proofs.YtmoelgbbgepckaaDoor

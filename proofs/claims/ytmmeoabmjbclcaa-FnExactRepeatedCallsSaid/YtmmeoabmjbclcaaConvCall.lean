/- What the laws' own functions on Call return: a copy; that two equal ones are equal. -/
import Derived.Test.YtmmeoabmjbclcaaRegions
import Derived.Test.YtmmeoabmjbclcaaRow
import Derived.Test.YtmmeoabmjbclcaaSmall
import Derived.Test.YtmmeoabmjbclcaaCallL
import Derived.WalkKit
import Derived.WalkSpells
import Derived.WalkLawsBesides
import Derived.KernelRfl
namespace Go.Proofs.Ytmmeoabmjbclcaa
open Go.RowKit
set_option linter.unusedVariables false

set_option maxHeartbeats 1000000 in
theorem toCall_any (x0 : Int) (x1 : Int) (x2 : Int) (x3 : Int) (x4 : Int) (w : World) :
    Calls Try.prog 19 #[.agg #[.int .i64 x0, .int .i64 x1, .int .i64 x2, .int .i64 x3, .int .i64 x4]] w fun e w' => e = .returned (.agg #[.int .i64 x0, .int .i64 x1, .int .i64 x2, .int .i64 x3, .int .i64 x4]) ∧ Below w.heap.size w w' := by
  go_enter Try.func19, Try.ntmps19
  go_wp2
  exact bodyPost_ret (v := .agg #[.int .i64 x0, .int .i64 x1, .int .i64 x2, .int .i64 x3, .int .i64 x4]) (by simp [results, Try.results19, go_sem]) rfl ⟨rfl, (by repeat (first | exact Below.refl _ _ | refine below_step ?_ (by assumption) | refine below_step ?_ (Later.below _) | refine below_alloc ?_ _ | refine Below.drew ?_ | refine Below.setCell ?_ (by first | (simp; done) | (simp; omega)) _))⟩

set_option maxHeartbeats 1000000 in
theorem eqCall_same (x0 : Int) (x1 : Int) (x2 : Int) (x3 : Int) (x4 : Int) (w : World) :
    Calls Try.prog 22 #[.agg #[.int .i64 x0, .int .i64 x1, .int .i64 x2, .int .i64 x3, .int .i64 x4], .agg #[.int .i64 x0, .int .i64 x1, .int .i64 x2, .int .i64 x3, .int .i64 x4]] w fun e w' => e = .returned (.bool true) ∧ Below w.heap.size w w' := by
  go_enter Try.func22, Try.ntmps22
  go_wp2
  go_ret
  exact ⟨rfl, (by repeat (first | exact Below.refl _ _ | refine below_step ?_ (by assumption) | refine below_step ?_ (Later.below _) | refine below_alloc ?_ _ | refine Below.drew ?_ | refine Below.setCell ?_ (by first | (simp; done) | (simp; omega)) _))⟩

theorem infoCall : (Try.prog.info? 41).map (fun i => (i.zero, i.size, i.bytes)) = some (some (.agg #[.int .i64 0, .int .i64 0, .int .i64 0, .int .i64 0, .int .i64 0]), 5, 40) := by kernel_rfl

set_option maxHeartbeats 2000000 in
theorem toCallS_any (A : Option Addr) (n c : Nat) (l : List (Int × Int × Int × Int × Int)) (w : World) (hn : n = l.length) (hm : n ≤ 1048576) (hr : Rd w A (l.flatMap ccells)) :
    Calls Try.prog 7 #[.slice A n c] w fun e w' => e = .returned (.slice (some ⟨w.heap.size, 0, none⟩) n n) ∧ Row w' w.heap.size (l.flatMap ccells) ∧ Below w.heap.size w w' := by
  obtain ⟨i0, hi, hz0, hz1, hz2⟩ := info_parts infoCall
  have hmk := fun W => run_makeN (P := Try.prog) 27 41 Try.underlying27 hi hz0 n (by rw [hz2]; omega) hm W
  rw [hz1] at hmk
  simp only [Value.cells] at hmk
  have Hn := hide hn
  have Hr := hide hr
  clear hn hr hi hz0 hz1 hz2
  go_enter Try.func7, Try.ntmps7
  go_wp2_with fail
  clear hmk
  go_loopw [4] (fun t wr => ∃ k : Nat, k ≤ n ∧ t = .int .i64 k ∧ Below w.heap.size w wr ∧ Hid (∃ R : List Value, R.length = (n - k) * 5 ∧ Row wr w.heap.size ((l.take k).flatMap ccells ++ R))) (fun t _ => n - (intOf t).toNat)
  case atStart => exact ⟨0, by omega, rfl, (Below.refl _ _).alloc (Nat.le_refl _) _, hide ⟨(madeCells #[.int .i64 0, .int .i64 0, .int .i64 0, .int .i64 0, .int .i64 0] (n * 5)).toList, length_madeCells _ _, (Row.new w _ _).cast (by simp)⟩⟩
  case round =>
    obtain ⟨k, hk, rfl, hb, HR⟩ := hrel
    by_cases hlt : k < n
    · obtain ⟨⟨x0, x1, x2, x3, x4⟩, hh⟩ : ∃ h, l[k]? = some h := ⟨_, List.getElem?_eq_getElem (by rw [← Hn.out]; exact hlt)⟩
      obtain ⟨b, off, rfl, hbs, c0, c1, c2, c3, c4⟩ := (Hr.out.below hb).get5 (fun _ => rfl) hh rfl
      have Hh := hide hh
      clear hh
      obtain ⟨R, hRl, hR⟩ := HR.out
      have hR' := fun w1 (h : Below wr.heap.size wr w1) => hR.below h
      have HR' := hide hR'
      have hlen : ((l.take k).flatMap ccells).length = k * 5 := take_flat_length ccells 5 (fun _ => rfl) (by have := Hn.out; omega)
      have hRl' : 5 ≤ R.length := by rw [hRl]; have : (n - k) * 5 ≥ 1 * 5 := Nat.mul_le_mul_right _ (by omega); omega
      have hlt2 : ∀ j, j < 5 → k * 5 + j < ((l.take k).flatMap ccells ++ R).length := fun j hj => by rw [List.length_append, hlen]; omega
      have H2 := hide hlt2
      have HL := hide hlen
      have HRl := hide hRl
      have HRl' := hide hRl'
      clear hR hR' hlt2 hlen hRl hRl'
      go_wp2_with fail
      refine (toCall_any x0 x1 x2 x3 x4 _).mono ?_
      rintro e w1 ⟨rfl, hb1⟩
      have hR1 := hide (HR'.out _ hb1)
      obtain ⟨o0, q0⟩ := hR1.out.there (j := k * 5) (by have := H2.out 0 (by omega); omega)
      have f0 := hR1.out.free (k * 5)
      obtain ⟨o1, q1⟩ := hR1.out.there (j := k * 5 + 1) (by have := H2.out 1 (by omega); omega)
      have f1 := hR1.out.free (k * 5 + 1)
      obtain ⟨o2, q2⟩ := hR1.out.there (j := k * 5 + 2) (by have := H2.out 2 (by omega); omega)
      have f2 := hR1.out.free (k * 5 + 2)
      obtain ⟨o3, q3⟩ := hR1.out.there (j := k * 5 + 3) (by have := H2.out 3 (by omega); omega)
      have f3 := hR1.out.free (k * 5 + 3)
      obtain ⟨o4, q4⟩ := hR1.out.there (j := k * 5 + 4) (by have := H2.out 4 (by omega); omega)
      have f4 := hR1.out.free (k * 5 + 4)
      go_wp2
      go_roundw
      case rel =>
        refine ⟨k + 1, by omega, by go_num, Below.setCell (Below.setCell (Below.setCell (Below.setCell (Below.setCell (below_step hb hb1) (Nat.le_refl _) _) (Nat.le_refl _) _) (Nat.le_refl _) _) (Nat.le_refl _) _) (Nat.le_refl _) _, hide ⟨R.drop 5, ?_, ?_⟩⟩
        · rw [List.length_drop, HRl.out, show n - k = (n - (k + 1)) + 1 by omega, Nat.add_mul]
          omega
        · rw [take_flat_succ ccells Hh.out]
          exact (Row.set (Row.set (Row.set (Row.set (Row.set (hR1.out) (by simpa using H2.out 0 (by omega)) _) (by simpa using H2.out 1 (by omega)) _) (by simpa using H2.out 2 (by omega)) _) (by simpa using H2.out 3 (by omega)) _) (by simpa using H2.out 4 (by omega)) _).cast (set_run5 _ _ _ HL.out HRl'.out _ _ _ _ _)
      case measure => simp [intOf]; omega
    · go_wp2
      go_ret
      obtain ⟨R, hRl, hR⟩ := HR.out
      have hk' : k = n := by omega
      refine ⟨rfl, hR.cast ?_, hb⟩
      have : R = [] := List.eq_nil_of_length_eq_zero (by rw [hRl, hk']; simp)
      rw [this, List.append_nil, List.take_of_length_le (by have := Hn.out; omega)]

set_option maxHeartbeats 2000000 in
theorem eqCallS_same (A B : Option Addr) (n c d : Nat) (l : List (Int × Int × Int × Int × Int)) (w : World) (hn : n = l.length) (hm : n ≤ 1048576) (hr : Rd w A (l.flatMap ccells)) (hs : Rd w B (l.flatMap ccells)) :
    Calls Try.prog 10 #[.slice A n c, .slice B n d] w fun e w' => e = .returned (.bool true) ∧ Below w.heap.size w w' := by
  have Hn := hide hn
  have Hr := hide hr
  have Hs := hide hs
  clear hn hr hs
  go_enter Try.func10, Try.ntmps10
  go_wp2_with fail
  go_loopw [5] (fun t wr => ∃ k : Nat, k ≤ n ∧ t = .int .i64 k ∧ Below w.heap.size w wr) (fun t _ => n - (intOf t).toNat)
  case atStart => exact ⟨0, by omega, rfl, Below.refl _ _⟩
  case round =>
    obtain ⟨k, hk, rfl, hb⟩ := hrel
    by_cases hlt : k < n
    · obtain ⟨⟨x0, x1, x2, x3, x4⟩, hh⟩ : ∃ h, l[k]? = some h := ⟨_, List.getElem?_eq_getElem (by rw [← Hn.out]; exact hlt)⟩
      obtain ⟨b, off, rfl, hbs, c0, c1, c2, c3, c4⟩ := (Hr.out.below hb).get5 (fun _ => rfl) hh rfl
      obtain ⟨b', off', rfl, hbs', d0, d1, d2, d3, d4⟩ := (Hs.out.below hb).get5 (fun _ => rfl) hh rfl
      clear hh
      have hi0 : (0 : Int) ≤ (k : Int) := by omega
      have hi1 : (k : Int) < (n : Int) := by omega
      go_wp2_with fail
      refine wp_region_later (by kernel_rfl) (by kernel_rfl) ?_
      repeat (go_big_quiet_step ((go_at_call 22; exact calls_later (eqCall_same _ _ _ _ _ _))))
      refine wpQuiet_nil ?_
      rintro _ ⟨⟨w1, hb1⟩, rfl⟩
      go_wp2
      go_roundw
      case rel => exact ⟨k + 1, by omega, by go_num, below_step hb hb1⟩
      case measure => simp [intOf]; omega
    · go_wp2
      go_ret
      exact ⟨rfl, hb⟩

def szCall (n : Nat) (left : Int) : Int := if left - n < 0 then -1 else left - n
set_option maxHeartbeats 1000000 in
theorem szCallS_any (A : Option Addr) (n c : Nat) (left : Int) (w : World) (hn : n ≤ maxLen) (h0 : 0 ≤ left) (h1 : left ≤ 1048576) :
    Calls Try.prog 5 #[.slice A n c, .int .i64 left] w fun e w' => e = .returned (.int .i64 (szCall n left)) ∧ w = w' := by
  unfold maxLen at hn
  go_enter Try.func5, Try.ntmps5
  go_wp2
  all_goals
    go_ret
    exact ⟨by simp [szCall, *] <;> omega, rfl⟩
end Go.Proofs.Ytmmeoabmjbclcaa

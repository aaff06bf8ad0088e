/- What the laws' own functions on slices of integers return. -/
import Derived.Test.YtmmeoabmjbclcaaOwn
import Derived.Test.YtmmeoabmjbclcaaSmall
namespace Go.Proofs.Ytmmeoabmjbclcaa
open Go.RowKit
set_option linter.unusedVariables false

def icells (x : Int) : Value := .int .i64 x

set_option maxHeartbeats 1000000 in
theorem markIntS_any (B : Nat) (v : Value) (n : Nat) (xs : List Value) (t : Int) (w : World) (h : w.ownsRow B 3 1 v n xs) (hm : n ≤ 1048576) (h0 : 0 ≤ t) (h1 : t ≤ 1099511627776) :
    Calls Try.prog 15 #[v, .int .i64 t] w fun e w' => e = .returned (.int .i64 (t + n)) ∧ w'.ownsRow B 3 1 v n (marks t n) ∧ w.grownBy w' v.ownBlock := by
  rcases h.2 with ⟨rfl, rfl⟩ | ⟨g, cap, cur, rfl, hg, hh, hn1, hn2, hn3, hn4⟩
  · have H := hide h
    clear h
    go_enter Try.func15, Try.ntmps15
    go_wp2_with fail
    go_loopw [1, 5] (fun s i wr => s = .int .i64 t ∧ i = .int .i64 0 ∧ wr = w) (fun _ _ _ => 0)
    case atStart => exact ⟨rfl, rfl, rfl⟩
    case round =>
      obtain ⟨rfl, rfl, rfl⟩ := hrel
      go_wp2
      go_ret
      exact ⟨ret_int (by simp), by simpa [marks] using (World.ownsRow_nil _ _ _ _), grown_refl _ _⟩
  · have H := hide h
    have hl : xs.length = n := by have := h.1; omega
    have HL := hide hl
    clear h hh hn3 hn4 hl
    go_enter Try.func15, Try.ntmps15
    go_wp2_with fail
    go_loopw [1, 5] (fun s i wr => ∃ k : Nat, k ≤ n ∧ s = .int .i64 (t + k) ∧ i = .int .i64 k ∧ Hid (wr.ownsRow B 3 1 (.slice (some ⟨g, 0, none⟩) n cap) n (marks t k ++ xs.drop k) ∧ w.grownBy wr (some g))) (fun _ i _ => n - (intOf i).toNat)
    case atStart => exact ⟨0, by omega, by simp, rfl, hide ⟨by simpa [marks] using H.out, grown_refl _ _⟩⟩
    case round =>
      obtain ⟨k, hk, rfl, rfl, HR⟩ := hrel
      by_cases hlt : k < n
      · obtain ⟨u, hu⟩ : ∃ u, (marks t k ++ xs.drop k)[k]? = some u := ⟨_, List.getElem?_eq_getElem (by have := HL.out; simp [marks_length]; omega)⟩
        have c1 := (HR.out.1.cellAt k (by omega)).trans hu
        have c2 := HR.out.1.frozenAt k
        have HS := hide (HR.out.1.stored k (.int .i64 (t + k)))
        clear hu
        go_wp2
        go_roundw
        case rel => exact ⟨k + 1, by omega, by go_num <;> omega, by go_num, hide ⟨by have := HS.out.1; rw [marks_set (by have := HL.out; omega)] at this; exact this, grown_trans HR.out.2 HS.out.2⟩⟩
        case measure => simp [intOf]; omega
      · have hkn : k = n := by omega
        subst hkn
        go_wp2
        go_ret
        exact ⟨rfl, by have := HR.out.1; rw [List.drop_eq_nil_of_le (by have := HL.out; omega), List.append_nil] at this; exact this, HR.out.2⟩

set_option maxHeartbeats 1000000 in
theorem heldIntS_any (A : Option Addr) (n c : Nat) (t : Int) (w : World) (h : Rd w A (marks t n)) (hm : n ≤ 1048576) (h0 : 0 ≤ t) (h1 : t ≤ 1099511627776) :
    Calls Try.prog 16 #[.slice A n c, .int .i64 t] w fun e w' => e = .returned (.int .i64 (t + n)) ∧ w = w' := by
  have H := hide h
  clear h
  go_enter Try.func16, Try.ntmps16
  go_wp2_with fail
  go_loop [1, 5] (fun s i => ∃ k : Nat, k ≤ n ∧ s = .int .i64 (t + k) ∧ i = .int .i64 k) (fun _ i => n - (intOf i).toNat)
  case atStart => exact ⟨0, by omega, by simp, rfl⟩
  case round =>
    obtain ⟨k, hk, rfl, rfl⟩ := hrel
    by_cases hlt : k < n
    · obtain ⟨b, off, rfl, hbs, c0⟩ := H.out.get1 (marks_get (t := t) hlt)
      go_wp2
      go_round
      case rel => exact ⟨k + 1, by omega, by go_num <;> omega, by go_num⟩
      case measure => simp [intOf]; omega
    · have hkn : k = n := by omega
      subst hkn
      go_wp2
      go_ret
      exact ⟨rfl, rfl⟩

set_option maxHeartbeats 1000000 in
theorem eqIntS_same (A B : Option Addr) (n c d : Nat) (l : List Int) (w : World) (hn : n = l.length) (hm : n ≤ 1048576) (hr : Rd w A (l.map (Value.int .i64))) (hs : Rd w B (l.map (Value.int .i64))) :
    Calls Try.prog 11 #[.slice A n c, .slice B n d] w fun e w' => e = .returned (.bool true) ∧ Below w.heap.size w w' := by
  have Hn := hide hn
  have Hr := hide hr
  have Hs := hide hs
  clear hn hr hs
  go_enter Try.func11, Try.ntmps11
  go_wp2_with fail
  go_loopw [5] (fun t wr => ∃ k : Nat, k ≤ n ∧ t = .int .i64 k ∧ Below w.heap.size w wr) (fun t _ => n - (intOf t).toNat)
  case atStart => exact ⟨0, by omega, rfl, Below.refl _ _⟩
  case round =>
    obtain ⟨k, hk, rfl, hb⟩ := hrel
    by_cases hlt : k < n
    · obtain ⟨x, hx⟩ : ∃ x, (l.map (Value.int .i64))[k]? = some (.int .i64 x) := by
        have : k < l.length := by rw [← Hn.out]; exact hlt
        exact ⟨l[k], by simp [this]⟩
      obtain ⟨b, off, rfl, hbs, c0⟩ := (Hr.out.below hb).get1 hx
      obtain ⟨b', off', rfl, hbs', d0⟩ := (Hs.out.below hb).get1 hx
      clear hx
      have hi0 : (0 : Int) ≤ (k : Int) := by omega
      have hi1 : (k : Int) < (n : Int) := by omega
      go_wp2_with fail
      refine wp_region_later (by kernel_rfl) (by kernel_rfl) ?_
      repeat (go_big_quiet_step (fail))
      refine wpQuiet_nil ?_
      refine later_intro fun w1 hb1 => ?_
      go_wp2
      go_roundw
      case rel => exact ⟨k + 1, by omega, by go_num, below_step hb hb1⟩
      case measure => simp [intOf]; omega
    · go_wp2
      go_ret
      exact ⟨rfl, hb⟩

theorem infoInt : (Try.prog.info? 3).map (fun i => (i.zero, i.size, i.bytes)) = some (some (.int .i64 0), 1, 8) := by kernel_rfl

set_option maxHeartbeats 2000000 in
theorem toIntS_any (A : Option Addr) (n c : Nat) (l : List Int) (w : World) (hn : n = l.length) (hm : n ≤ 1048576) (hr : Rd w A (l.map (Value.int .i64))) :
    Calls Try.prog 8 #[.slice A n c] w fun e w' => e = .returned (.slice (some ⟨w.heap.size, 0, none⟩) n n) ∧ Row w' w.heap.size (l.map (Value.int .i64)) ∧ Below w.heap.size w w' := by
  obtain ⟨i0, hi, hz0, hz1, hz2⟩ := info_parts infoInt
  have hmk := fun W => run_makeN (P := Try.prog) 23 3 Try.underlying23 hi hz0 n (by rw [hz2]; omega) hm W
  rw [hz1] at hmk
  simp only [Value.cells] at hmk
  have Hn := hide hn
  have Hr := hide hr
  clear hn hr hi hz0 hz1 hz2
  go_enter Try.func8, Try.ntmps8
  go_wp2_with fail
  clear hmk
  go_loopw [4] (fun t wr => ∃ k : Nat, k ≤ n ∧ t = .int .i64 k ∧ Below w.heap.size w wr ∧ Hid (∃ R : List Value, R.length = n - k ∧ Row wr w.heap.size ((l.map (Value.int .i64)).take k ++ R))) (fun t _ => n - (intOf t).toNat)
  case atStart => exact ⟨0, by omega, rfl, (Below.refl _ _).alloc (Nat.le_refl _) _, hide ⟨(madeCells #[.int .i64 0] (n * 1)).toList, by rw [length_madeCells]; omega, (Row.new w _ _).cast (by simp)⟩⟩
  case round =>
    obtain ⟨k, hk, rfl, hb, HR⟩ := hrel
    by_cases hlt : k < n
    · obtain ⟨x, hx⟩ : ∃ x, (l.map (Value.int .i64))[k]? = some (.int .i64 x) := by
        have : k < l.length := by rw [← Hn.out]; exact hlt
        exact ⟨l[k], by simp [this]⟩
      obtain ⟨b, off, rfl, hbs, c0⟩ := (Hr.out.below hb).get1 hx
      have Hx := hide hx
      clear hx
      obtain ⟨R, hRl, hR⟩ := HR.out
      have hlen : ((l.map (Value.int .i64)).take k).length = k := by have := Hn.out; simp; omega
      have hlt2 : k < ((l.map (Value.int .i64)).take k ++ R).length := by rw [List.length_append, hlen]; omega
      obtain ⟨o0, q0⟩ := hR.there hlt2
      have f0 := hR.free k
      have HR1 := hide hR
      have HL := hide hlen
      have HRl := hide hRl
      have H2 := hide hlt2
      clear hR hlen hRl hlt2
      go_wp2
      go_roundw
      case rel =>
        refine ⟨k + 1, by omega, by go_num, hb.setCell (Nat.le_refl _) _, hide ⟨R.drop 1, ?_, ?_⟩⟩
        · rw [List.length_drop, HRl.out]; omega
        · rw [List.take_add_one, Hx.out]
          exact (Row.set HR1.out H2.out _).cast (set_run1 _ _ _ HL.out (by have := HRl.out; omega) _)
      case measure => simp [intOf]; omega
    · go_wp2
      go_ret
      obtain ⟨R, hRl, hR⟩ := HR.out
      refine ⟨rfl, hR.cast ?_, hb⟩
      have : R = [] := List.eq_nil_of_length_eq_zero (by omega)
      rw [this, List.append_nil, List.take_of_length_le (by have := Hn.out; simp; omega)]
end Go.Proofs.Ytmmeoabmjbclcaa

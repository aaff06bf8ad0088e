/- Lists of texts in rows of the call's own: marked, held, compared by the laws. -/
import Derived.Test.YtfahiammopgflaaSimG
import Derived.Test.YtfahiammopgflaaMarkText
namespace Go.Proofs.Ytfahiammopgflaa
open Go.RowKit
set_option linter.unusedVariables false

def marksS (t : Int) (n : Nat) : List Value := (List.range n).map fun i : Nat => Value.string (mtext (t + (i : Int)).toNat)
theorem marksS_length (t : Int) (n : Nat) : (marksS t n).length = n := by simp [marksS]
theorem marksS_get {t : Int} {n i : Nat} (h : i < n) : (marksS t n)[i]? = some (.string (mtext (t + i).toNat)) := by simp [marksS, h]
theorem marksS_set {t : Int} {k : Nat} {xs : List Value} (h : k < xs.length) : (marksS t k ++ xs.drop k).set k (.string (mtext (t + k).toNat)) = marksS t (k + 1) ++ xs.drop (k + 1) := by
  rw [List.set_append_right _ _ (by simp [marksS_length]), marksS_length, Nat.sub_self, List.drop_eq_getElem_cons h, List.set_cons_zero]
  simp [marksS, List.range_succ]

set_option maxHeartbeats 2000000 in
theorem markStrS_any (B : Nat) (v : Value) (n : Nat) (xs : List Value) (t : Int) (w : World) (h : w.ownsRow B 9 1 v n xs) (hm : n ≤ 1048576) (h0 : 1 ≤ t) (h1 : t ≤ 1000) :
    Calls Try.prog 14 #[v, .int .i64 t] w fun e w' => e = .returned (.int .i64 (t + n)) ∧ w'.ownsRow B 9 1 v n (marksS t n) ∧ w.grownBy w' v.ownBlock := by
  rcases h.2 with ⟨rfl, rfl⟩ | ⟨g, cap, cur, rfl, hg, hh, hn1, hn2, hn3, hn4⟩
  · have H := hide h
    clear h
    go_enter Try.func14, Try.ntmps14
    go_wp2_with fail
    go_loopw [1, 5] (fun s i wr => s = .int .i64 t ∧ i = .int .i64 0 ∧ wr = w) (fun _ _ _ => 0)
    case atStart => exact ⟨rfl, rfl, rfl⟩
    case round =>
      obtain ⟨rfl, rfl, rfl⟩ := hrel
      go_wp2
      go_ret
      exact ⟨ret_int (by simp), by simpa [marksS] using (World.ownsRow_nil _ _ _ _), grown_refl _ _⟩
  · have H := hide h
    have hl : xs.length = n := by have := h.1; omega
    have HL := hide hl
    have hgz := hide (h.lt g rfl).2
    clear h hh hn3 hn4 hl
    go_enter Try.func14, Try.ntmps14
    go_wp2_with fail
    go_loopw [1, 5] (fun s i wr => ∃ k : Nat, k ≤ n ∧ s = .int .i64 (t + k) ∧ i = .int .i64 k ∧ Hid (wr.ownsRow B 9 1 (.slice (some ⟨g, 0, none⟩) n cap) n (marksS t k ++ xs.drop k) ∧ w.grownBy wr (some g))) (fun _ i _ => n - (intOf i).toNat)
    case atStart => exact ⟨0, by omega, by simp, rfl, hide ⟨by simpa [marksS] using H.out, grown_refl _ _⟩⟩
    case round =>
      obtain ⟨k, hk, rfl, rfl, HR⟩ := hrel
      by_cases hlt : k < n
      · have QM := hide (fun W => markTextZ_any (t + k) W (by omega) (by omega))
        obtain ⟨u, hu⟩ : ∃ u, (marksS t k ++ xs.drop k)[k]? = some u := ⟨_, List.getElem?_eq_getElem (by have := HL.out; simp [marksS_length]; omega)⟩
        have HU := hide hu
        clear hu
        go_wp2_with fail
        refine (QM.out _).mono ?_
        rintro e w1 ⟨rfl, hb1⟩
        have HR1 := hide (own_below HR.out.1 hb1)
        have HG1 := hide (grown_trans HR.out.2 (grown_of_below hb1 _))
        have c1 := (HR1.out.cellAt k (by omega)).trans HU.out
        have c2 := HR1.out.frozenAt k
        have HS := hide (HR1.out.stored k (.string (mtext (t + k).toNat)))
        have hz1 := (HR1.out.lt g rfl).2
        have HM := hide (marksS_set (t := t) (k := k) (xs := xs) (by have := HL.out; omega))
        clear hb1 QM HU
        generalize mtext (t + (k : Int)).toNat = mt at *
        go_wp2
        go_roundw
        case rel => exact ⟨k + 1, by omega, by go_num <;> omega, by go_num, hide ⟨by have := HS.out.1; rw [HM.out] at this; exact this, grown_trans HG1.out HS.out.2⟩⟩
        case measure => simp [intOf]; omega
      · have hkn : k = n := by omega
        subst hkn
        go_wp2
        go_ret
        exact ⟨rfl, by have := HR.out.1; rw [List.drop_eq_nil_of_le (by have := HL.out; omega), List.append_nil] at this; exact this, HR.out.2⟩

set_option maxHeartbeats 1000000 in
theorem heldStrS_any (A : Option Addr) (n c : Nat) (t : Int) (w : World) (h : Rd w A (marksS t n)) (hm : n ≤ 1048576) (h0 : 1 ≤ t) (h1 : t ≤ 1000) :
    Calls Try.prog 15 #[.slice A n c, .int .i64 t] w fun e w' => e = .returned (.int .i64 (t + n)) ∧ Below w.heap.size w w' := by
  have H := hide h
  clear h
  go_enter Try.func15, Try.ntmps15
  go_wp2_with fail
  go_loopw [1, 5] (fun s i wr => ∃ k : Nat, k ≤ n ∧ s = .int .i64 (t + k) ∧ i = .int .i64 k ∧ Hid (Below w.heap.size w wr)) (fun _ i _ => n - (intOf i).toNat)
  case atStart => exact ⟨0, by omega, by simp, rfl, hide (Below.refl _ _)⟩
  case round =>
    obtain ⟨k, hk, rfl, rfl, HB⟩ := hrel
    by_cases hlt : k < n
    · obtain ⟨b, off, rfl, hbs, c0⟩ := (H.out.below HB.out).get1 (marksS_get (t := t) hlt)
      have QM := hide (fun W => markTextZ_any (t + k) W (by omega) (by omega))
      have hi0 : (0 : Int) ≤ (k : Int) := by omega
      have hi1 : (k : Int) < (n : Int) := by omega
      generalize mtext (t + (k : Int)).toNat = mt at *
      go_wp2_with fail
      refine wp_region_later (by kernel_rfl) (by kernel_rfl) ?_
      repeat (go_big_quiet_step ((go_at_call 32; exact calls_later (QM.out _))))
      refine wpQuiet_nil ?_
      refine later_intro fun w1 hb1 => ?_
      have HB1 := hide (below_step HB.out hb1)
      clear hb1 c0 hbs QM
      go_wp2
      go_roundw
      case rel => exact ⟨k + 1, by omega, by go_num <;> omega, by go_num, HB1⟩
      case measure => simp [intOf]; omega
    · have hkn : k = n := by omega
      subst hkn
      go_wp2
      go_ret
      exact ⟨rfl, HB.out⟩

set_option maxHeartbeats 1000000 in
theorem eqStrS_same (A B : Option Addr) (n c d : Nat) (l : List ByteArray) (w : World) (hn : n = l.length) (hm : n ≤ 1048576) (hr : Rd w A (strL l)) (hs : Rd w B (strL l)) :
    Calls Try.prog 11 #[.slice A n c, .slice B n d] w fun e w' => e = .returned (.bool true) ∧ Below w.heap.size w w' := by
  have Hn := hide hn
  have Hr := hide hr
  have Hs := hide hs
  clear hn hr hs
  go_enter Try.func11, Try.ntmps11
  go_wp2_with fail
  go_loopw [5] (fun t wr => ∃ k : Nat, k ≤ n ∧ t = .int .i64 k ∧ Below w.heap.size w wr) (fun t _ => n - (intOf t).toNat)
  case atStart => exact ⟨0, by omega, rfl, Below.refl _ _⟩
  case round =>
    obtain ⟨k, hk, rfl, hb⟩ := hrel
    by_cases hlt : k < n
    · obtain ⟨x, hx⟩ : ∃ x, l[k]? = some x := ⟨_, List.getElem?_eq_getElem (by rw [← Hn.out]; exact hlt)⟩
      obtain ⟨b, off, rfl, hbs, c0⟩ := (Hr.out.below hb).get1 (strL_get hx)
      obtain ⟨b', off', rfl, hbs', d0⟩ := (Hs.out.below hb).get1 (strL_get hx)
      clear hx
      have hi0 : (0 : Int) ≤ (k : Int) := by omega
      have hi1 : (k : Int) < (n : Int) := by omega
      go_wp2_with fail
      refine wp_region_later (by kernel_rfl) (by kernel_rfl) ?_
      repeat (go_big_quiet_step (fail))
      refine wpQuiet_nil ?_
      refine later_intro fun w1 hb1 => ?_
      go_wp2
      go_roundw
      case rel => exact ⟨k + 1, by omega, by go_num, below_step hb hb1⟩
      case measure => simp [intOf]; omega
    · go_wp2
      go_ret
      exact ⟨rfl, hb⟩
end Go.Proofs.Ytfahiammopgflaa

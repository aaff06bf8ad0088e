/- Flows that are possible each alone. -/
import Derived.Test.YtfcpgpmhjadanaaGreatDoorNetO
namespace Go.Proofs.YtfcpgpmhjadanaaGreatDoor
open Go.RowKit
set_option linter.unusedVariables false

set_option maxRecDepth 100000 in
set_option maxHeartbeats 4000000 in
theorem areFlows_any (b0 : Nat) (A B C : Option Addr) (n c m d k e : Nat) (M H : List (Int × Int)) (F : List Int) (w : World) (hm : m = H.length) (hmm : m ≤ 10) (hk : k = F.length) (hkm : k ≤ maxLen) (hr : NetRd w A B M H) (hf : Rd w C (F.map (Value.int .i64))) (hc0 : w.cell? ⟨b0, 0, none⟩ = some (.slice A n c)) (hc1 : w.cell? ⟨b0, 1, none⟩ = some (.slice B m d)) :
    Calls Tryz.prog 30 #[.pointer (some ⟨b0, 0, none⟩), .slice C k e] w fun e w' => e = .returned (.bool (flowsB H F)) ∧ w = w' := by
  unfold maxLen at hkm
  have HP := hide (And.intro hc0 hc1)
  have Hm := hide hm
  have Hk := hide hk
  have Hr := hide hr
  have Hf := hide hf
  have hb0 := World.block_lt_of_cell? w _ hc0
  dsimp only at hb0
  clear hm hk hr hf hc0
  go_enter Tryz.func30, Tryz.ntmps30
  go_wp2_with fail
  go_loopw [9] (fun t wr => ∃ j : Nat, j ≤ k ∧ t = .int .i64 j ∧ Hid (∀ i, i < j → flowStep H F i = true) ∧ Hid (j ≤ m) ∧ wr = w) (fun t _ => k - (intOf t).toNat)
  case atStart => exact ⟨0, by omega, rfl, hide (fun i hi => absurd hi (by omega)), hide (by omega), rfl⟩
  case round =>
    obtain ⟨j, hj, rfl, HA, HJ, rfl⟩ := hrel
    by_cases hlt : j < k
    · obtain ⟨f, hh⟩ : ∃ f, F[j]? = some f := ⟨_, List.getElem?_eq_getElem (by rw [← Hk.out]; exact hlt)⟩
      obtain ⟨b, off, rfl, hbs, c0⟩ := Hf.out.get1 (u := .int .i64 f) (by rw [List.getElem?_map, hh]; rfl)
      have Hh := hide hh
      clear hh
      by_cases hjm : j < m
      · obtain ⟨⟨x0, x1⟩, hx⟩ : ∃ h, H[j]? = some h := ⟨_, List.getElem?_eq_getElem (by rw [← Hm.out]; exact hjm)⟩
        obtain ⟨b', off', rfl, hbs', d0, d1⟩ := Hr.out.2.get2 (fun _ => rfl) hx rfl
        have HS := hide (flowStep_some hx Hh.out)
        clear hx
        dsimp only at d0 d1 HS
        have q := fun W => inside_any f 0 x1 W
        cases hi : inB f 0 x1 with
        | false =>
          simp only [hi] at q
          have HB := hide (show flowStep H F j = false by rw [HS.out, hi])
          clear HS hi
          go_wp2_with (go_at_call 51; ((with_reducible refine (q _).mono ?_); rintro e w' ⟨rfl, rfl⟩))
          go_ret
          exact ⟨ret_bool (flowsB_bad (by rw [← Hk.out]; exact hlt) HB.out).symm, rfl⟩
        | true =>
          simp only [hi] at q
          have HB := hide (show flowStep H F j = true by rw [HS.out, hi])
          clear HS hi
          go_wp2_with (go_at_call 51; ((with_reducible refine (q _).mono ?_); rintro e w' ⟨rfl, rfl⟩))
          go_roundw
          case rel =>
            refine ⟨j + 1, by omega, by go_num, hide (fun i hi => ?_), hide (by omega), trivial⟩
            by_cases hi2 : i < j
            · exact HA.out i hi2
            · rw [show i = j by omega]; exact HB.out
          case measure => simp [intOf]; omega
      · have HB := hide (flowStep_none (F := F) (i := j) (by rw [← show m = H.length from Hm.out]; omega))
        go_wp2
        go_ret
        exact ⟨ret_bool (flowsB_bad (by rw [← Hk.out]; exact hlt) HB.out).symm, rfl⟩
    · have hjk : j = k := by omega
      by_cases hkm2 : k = m
      · have HE := hide (show flowsB H F = true from flowsB_of (by rw [← Hk.out, ← Hm.out]; exact hkm2) (fun i hi => HA.out i (by have := Hk.out; omega)))
        have h1 : k ≤ m := by omega
        have h2 : m ≤ k := by omega
        clear hjk hkm2
        go_wp2
        all_goals
          go_ret
          refine ⟨ret_bool ?_, rfl⟩
          rw [HE.out]
          first | rfl | (simp; omega)
      · have HE := hide (show flowsB H F = false from flowsB_len (by rw [← show k = F.length from Hk.out, ← show m = H.length from Hm.out]; simpa using hkm2))
        clear hjk
        go_wp2
        all_goals
          go_ret
          refine ⟨ret_bool ?_, rfl⟩
          rw [HE.out]
          first | rfl | (simp; omega)

set_option maxRecDepth 100000 in
set_option maxHeartbeats 4000000 in
theorem hyFlows_any (A B C : Option Addr) (n c m d k e : Nat) (M H : List (Int × Int)) (F : List Int) (w : World) (hm : m = H.length) (hmm : m ≤ 10) (hk : k = F.length) (hkm : k ≤ maxLen) (hr : NetRd w A B M H) (hf : Rd w C (F.map (Value.int .i64))) :
    Calls Tryz.prog 63 #[.agg #[.slice A n c, .slice B m d], .slice C k e] w fun e w' => e = .returned (.bool (flowsB H F)) ∧ Below w.heap.size w w' := by
  unfold maxLen at hkm
  have Hm := hide hm
  have Hk := hide hk
  have Hr := hide (hr.alloc (.cells #[.slice A n c, .slice B m d] 27))
  have Hf := hide (hf.alloc (.cells #[.slice A n c, .slice B m d] 27))
  have hcA := cell_new2 w (.slice A n c) (.slice B m d) 27
  have HBA : Hid (Below w.heap.size w (w.alloc (.cells #[.slice A n c, .slice B m d] 27))) := hide (below_alloc (Below.refl _ _) _)
  have hbz : w.heap.size < (w.alloc (.cells #[.slice A n c, .slice B m d] 27)).heap.size := by simp
  clear hm hk hr hf
  by_cases hkm2 : k = m
  · have HKM := hide hkm2
    have h1 : k ≤ m := by omega
    have h2 : m ≤ k := by omega
    have e1 : ((k : Int) != (m : Int)) = false := by simp; omega
    have e2 : (k != m) = false := by simp; omega
    clear hkm2
    go_enter Tryz.func63, Tryz.ntmps63
    go_wp2_with fail
    generalize w.alloc (.cells #[.slice A n c, .slice B m d] 27) = W at *
    go_loopw [15] (fun t wr => ∃ j : Nat, j ≤ k ∧ t = .int .i64 j ∧ Hid (∀ i, i < j → flowStep H F i = true) ∧ wr = W) (fun t _ => k - (intOf t).toNat)
    case atStart => exact ⟨0, by omega, rfl, hide (fun i hi => absurd hi (by omega)), rfl⟩
    case round =>
      obtain ⟨j, hj, rfl, HA, rfl⟩ := hrel
      obtain ⟨hc0, hc1⟩ := hcA
      by_cases hlt : j < k
      · obtain ⟨f, hh⟩ : ∃ f, F[j]? = some f := ⟨_, List.getElem?_eq_getElem (by rw [← Hk.out]; exact hlt)⟩
        obtain ⟨b, off, rfl, hbs, c0⟩ := Hf.out.get1 (u := .int .i64 f) (by rw [List.getElem?_map, hh]; rfl)
        obtain ⟨⟨x0, x1⟩, hx⟩ : ∃ h, H[j]? = some h := ⟨_, List.getElem?_eq_getElem (by rw [← Hm.out]; omega)⟩
        obtain ⟨b', off', rfl, hbs', d0, d1⟩ := Hr.out.2.get2 (fun _ => rfl) hx rfl
        have HS := hide (flowStep_some hx hh)
        clear hx hh
        dsimp only at d0 d1 HS
        have hjm : j < m := by omega
        have q := fun W => l1In_any f 0 x1 W
        cases hi : inB f 0 x1 with
        | false =>
          simp only [hi] at q
          have HB := hide (show flowStep H F j = false by rw [HS.out, hi])
          clear HS hi
          go_wp2_with (go_at_call 53; ((with_reducible refine (q _).mono ?_); rintro e w' ⟨rfl, rfl⟩))
          go_ret
          exact ⟨ret_bool (flowsB_bad (by rw [← Hk.out]; exact hlt) HB.out).symm, HBA.out⟩
        | true =>
          simp only [hi] at q
          have HB := hide (show flowStep H F j = true by rw [HS.out, hi])
          clear HS hi
          go_wp2_with (go_at_call 53; ((with_reducible refine (q _).mono ?_); rintro e w' ⟨rfl, rfl⟩))
          go_roundw
          case rel =>
            refine ⟨j + 1, by omega, by go_num, hide (fun i hi => ?_), trivial⟩
            by_cases hi2 : i < j
            · exact HA.out i hi2
            · rw [show i = j by omega]; exact HB.out
          case measure => simp [intOf]; omega
      · go_wp2
        go_ret
        exact ⟨ret_bool (flowsB_of (by rw [← Hk.out, ← Hm.out]; exact HKM.out) (fun i hi => HA.out i (by have := Hk.out; omega))).symm, HBA.out⟩
  · have e1 : ((k : Int) != (m : Int)) = true := by simp; omega
    have e2 : (k != m) = true := by simp; omega
    have HE := hide (show flowsB H F = false from flowsB_len (by rw [← show k = F.length from Hk.out, ← show m = H.length from Hm.out]; simpa using hkm2))
    go_enter Tryz.func63, Tryz.ntmps63
    go_wp2
    go_ret
    exact ⟨ret_bool HE.out.symm, HBA.out⟩
end Go.Proofs.YtfcpgpmhjadanaaGreatDoor

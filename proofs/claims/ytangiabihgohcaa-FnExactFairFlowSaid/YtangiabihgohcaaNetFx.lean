/- The fair flow: the reference's way. -/
import Derived.Test.YtangiabihgohcaaNetFw
namespace Go.Proofs.Ytangiabihgohcaa
open Go.RowKit
set_option linter.unusedVariables false

set_option maxRecDepth 100000 in
set_option maxHeartbeats 8000000 in
theorem specFairFlow_any (A B C : Option Addr) (n c m d k ecap : Nat) (M H : List (Int × Int)) (F : List Int) (w : World) (hn : n = M.length) (hm : m = H.length) (hnm : n ≤ maxLen) (hmm : m ≤ maxLen) (hkF : k = F.length) (hkm : k ≤ maxLen) (hr : NetRd w A B M H) (hf : Rd w C (F.map (Value.int .i64))) :
    Calls Try.prog 36 #[.agg #[.slice A n c, .slice B m d], .slice C k ecap] w fun e w' => e = .returned (.tuple #[.int .i64 (faV M H F), .bool (fairOk M H F)]) ∧ Below w.heap.size w w' := by
  have hc := cell_new2 w (.slice A n c) (.slice B m d) 31
  have Q := hide (hyOpen_any A B C n c m d k ecap M H F (w.alloc (.cells #[.slice A n c, .slice B m d] 31)) hn hm hnm hmm hkF hkm (hr.alloc _) (hf.alloc _))
  have Hn := hide hn
  have Hm := hide hm
  have HkF := hide hkF
  have Hr := hide hr
  have Hf := hide hf
  clear hn hm hkF hr hf
  cases hA : openB M H F with
  | false =>
    rw [hA] at Q
    have HE := hide (show fairOk M H F = false by rw [fairOk, hA]; rfl)
    clear hA hc
    go_enter Try.func36, Try.ntmps36
    go_wp2_with (go_at_call 68; ((with_reducible refine (Q.out).mono ?_); rintro e w1 ⟨rfl, hb1⟩); obtain ⟨hc1, hf1⟩ := bcell hb1)
    go_ret2
    exact ⟨ret_tup2 (faV_no HE.out).symm HE.out.symm, (by repeat (first | exact Below.refl _ _ | refine below_step ?_ (by assumption) | refine below_step ?_ (Later.below _) | refine below_alloc ?_ _ | refine Below.drew ?_ | refine Below.setCell ?_ (by first | (simp; done) | (simp; omega)) _))⟩
  | true =>
    rw [hA] at Q
    have HEO := hide hA
    rw [openB, Bool.and_eq_true] at hA
    have HK := hide (netB_ok hA.1)
    have hff := hA.2
    rw [← show m = H.length from Hm.out] at hff
    have HL := hide (risB_length hff)
    have HF := hide (fun (x : Int) (hx : x ∈ F) => show 0 ≤ x ∧ x < (m : Int) by have := risB_mem hff hx; omega)
    have hm10 : m ≤ 10 := by have := HK.out.h10; have := Hm.out; omega
    have hn10 : n ≤ 10 := by have := HK.out.m10; have := Hn.out; omega
    have hk10 : k ≤ 10 := by have := HL.out; have := HkF.out; omega
    clear hA hff
    by_cases hk0 : k = 0
    · subst hk0
      have HE' := hide (show fairOk M H F = false by rw [fairOk, HEO.out, ← show 0 = F.length from HkF.out]; rfl)
      go_enter Try.func36, Try.ntmps36
      go_wp2_with (go_at_call 68; ((with_reducible refine (Q.out).mono ?_); rintro e w1 ⟨rfl, hb1⟩); obtain ⟨hc1, hf1⟩ := bcell hb1)
      go_ret2
      exact ⟨ret_tup2 (faV_no HE'.out).symm HE'.out.symm, (by repeat (first | exact Below.refl _ _ | refine below_step ?_ (by assumption) | refine below_step ?_ (Later.below _) | refine below_alloc ?_ _ | refine Below.drew ?_ | refine Below.setCell ?_ (by first | (simp; done) | (simp; omega)) _))⟩
    have HE' := hide (show fairOk M H F = true by rw [fairOk, HEO.out, ← show k = F.length from HkF.out]; simp; omega)
    have hk0' : ¬ (k : Int) = 0 := by omega
    have hk0b : ((k : Int) == 0) = false := by simp; omega
    go_enter Try.func36, Try.ntmps36
    go_wp2_with fail
    refine Q.out.mono ?_
    rintro e w1 ⟨rfl, hq⟩
    have HW1 : Hid (Below w.heap.size w w1) := hide (below_step (below_alloc (Below.refl _ _) _) hq)
    have a0 := cell_on hc.1 hq
    have a1 := cell_on hc.2 hq
    have z0 := World.block_lt_of_cell? w1 _ a0
    have HC0 := hide a0
    have HC1 := hide a1
    have HFA := hide (fairV_bd HK.out (M := M) (H := H) (F := F) (fun x hx => (HF.out x hx).1))
    have HFI := hide (fun (f : Int) (h1 : 1 ≤ f) (h2 : f ≤ 5000) => fair_iff HK.out (O := F) (f := f) (fun x hx => by have := HF.out x hx; have := Hm.out; omega) h1 h2)
    clear hq Q hc
    dsimp only at z0
    go_wp2_with fail
    clear a0 a1
    obtain ⟨i0, hi, hz0, hz1, hz2⟩ := info_parts infoIntT
    have hmk := fun W => run_makeN (P := Try.prog) 35 3 Try.underlying35 hi hz0 m (by rw [hz2]; omega) (by omega) W
    rw [hz1] at hmk
    simp only [Value.cells, Nat.mul_one] at hmk
    clear hi hz0 hz1 hz2
    have HMK := hide hmk
    clear hmk
    go_loopw [6, 7] (fun v t wr => ∃ b : Nat, b ≤ 5000 ∧ v = .int .i64 b ∧ t = .int .i64 ((b + 1 : Nat) : Int) ∧ Hid ((b : Int) ≤ fairV M H F) ∧ Hid (Below w1.heap.size w1 wr)) (fun _ t _ => 5001 - (intOf t).toNat)
    case atStart => exact ⟨0, by omega, rfl, rfl, hide HFA.out.1, hide (Below.refl _ _)⟩
    case round =>
      obtain ⟨b, hb, rfl, rfl, HV, HB⟩ := hrel
      have q0 := cell_on HC0.out HB.out
      have q1 := cell_on HC1.out HB.out
      have hbw := World.block_lt_of_cell? wr _ q0
      dsimp only at hbw
      by_cases hlt : b + 1 ≤ 5000
      · have hmk := HMK.out
        have HO0 : Hid (OwnD (wr.alloc (.cells (madeCells #[.int .i64 0] m) 3)) w1.heap.size wr.heap.size m (fun _ => 0)) := hide (OwnD.new (d := fun _ => 0) wr w1.heap.size m HB.out.size (by unfold maxLen; omega) _ (made_zero m))
        have HB1 : Hid (Below w1.heap.size w1 (wr.alloc (.cells (madeCells #[.int .i64 0] m) 3))) := hide (below_alloc HB.out _)
        have HBR : Hid (Below wr.heap.size wr (wr.alloc (.cells (madeCells #[.int .i64 0] m) 3))) := hide (below_alloc (Below.refl _ _) _)
        have HFI1 := hide (HFI.out ((b + 1 : Nat) : Int) (by omega) (by omega))
        have e1 : IntKind.i64.wrap (((b + 1 : Nat) : Int) + 1) = ((b + 1 + 1 : Nat) : Int) := by rw [IntWalk.i64_in _ (by omega)]; omega
        generalize hbn : b + 1 = bn at *
        have hbn0 : ((bn : Nat) : Int) ≤ 5000 := by omega
        have HBN := hide hbn
        clear hbn HFI
        go_wp2_with fail
        clear hmk
        generalize wr.alloc (.cells (madeCells #[.int .i64 0] m) 3) = W at *
        obtain ⟨wo, rfl⟩ : ∃ wo, wo = wr := ⟨_, rfl⟩
        go_loopw [30] (fun t wr => ∃ j : Nat, j ≤ k ∧ t = .int .i64 j ∧ Hid (OwnD wr w1.heap.size wo.heap.size m (onesN F (bn : Int) j)) ∧ Hid (Below wo.heap.size wo wr)) (fun t _ => k - (intOf t).toNat)
        case atStart => exact ⟨0, by omega, rfl, HO0, HBR⟩
        case round =>
          obtain ⟨j, hj, rfl, HO, HBi⟩ := hrel
          clear HO0 HBR HB1
          have HBA := hide (below_step HB.out HBi.out)
          by_cases hlt : j < k
          · obtain ⟨x, hh⟩ : ∃ f, F[j]? = some f := ⟨_, List.getElem?_eq_getElem (by rw [← HkF.out]; exact hlt)⟩
            obtain ⟨x00, x01⟩ := HF.out x (List.mem_of_getElem? hh)
            obtain ⟨i, rfl⟩ := Int.eq_ofNat_of_zero_le x00
            have him : i < m := by omega
            obtain ⟨b2, off, rfl, hbs, c0⟩ := (Hf.out.below (below_step HW1.out HBA.out)).get1 (u := .int .i64 (i : Int)) (by rw [List.getElem?_map, hh]; rfl)
            have HS := hide (onesN_succ (f := (bn : Int)) hh)
            have g0 := HO.out.cell him
            have g1 := HO.out.free i
            have hz4 := HO.out.lt.2
            have HSET := hide (HO.out.set him (bn : Int))
            have HBS : Hid (Below wo.heap.size wo (wr.setCell ⟨wo.heap.size, i, none⟩ (.int .i64 (bn : Int)))) := hide (HBi.out.setCell (Nat.le_refl _) _)
            clear hh x00 x01
            go_wp2
            go_roundw
            case rel => exact ⟨j + 1, by omega, by go_num, hide (by rw [HS.out]; exact HSET.out), HBS⟩
            case measure => simp [intOf]; omega
          · have hjk : j = F.length := by have := HkF.out; omega
            have HO1 : Hid (OwnD wr w1.heap.size wo.heap.size m (openD F (bn : Int))) := hide (HO.out.congr (fun i hi => by rw [hjk]; exact onesN_all (fun x hx => (HF.out x hx).1) i))
            have q2 := cell_on HC0.out HBA.out
            have q3 := cell_on HC1.out HBA.out
            have QF := hyFlows_any A B (some ⟨wo.heap.size, 0, none⟩) n c m d m m M H (listD m (openD F (bn : Int))) wr Hm.out hm10 listD_length.symm (by unfold maxLen; omega) (Hr.out.below (below_step HW1.out HBA.out)) (listD_rd HO1.out)
            have hbw2 := World.block_lt_of_cell? wr _ q2
            dsimp only at hbw2
            clear hjk HO
            cases hfl : flowsB H (listD m (openD F (bn : Int))) with
            | false =>
              rw [hfl] at QF
              have HE := hide (show fairV M H F = (b : Int) by
                have h1 := HFI1.out
                have h2 : fairB M H F (bn : Int) = false := by rw [fairB, ← show m = H.length from Hm.out, hfl]; rfl
                rw [h2] at h1
                have h3 : ¬ ((bn : Nat) : Int) ≤ fairV M H F := fun h => by have := h1.2 h; cases this
                have := HV.out
                have := HBN.out
                omega)
              clear hfl
              go_wp2_with fail
              refine QF.mono ?_
              rintro e w2 ⟨rfl, hq⟩
              go_wp2
              go_ret2
              exact ⟨ret_tup2 (by rw [faV_yes HE'.out, HE.out]) HE'.out.symm, below_step HW1.out (below_step HBA.out hq)⟩
            | true =>
              rw [hfl] at QF
              have HFS := hide (show ∀ (i : Nat) (h : Int × Int) (g : Int), H[i]? = some h → (listD m (openD F (bn : Int)))[i]? = some g → 0 ≤ g ∧ g ≤ 5000 from flowsB_5000 HK.out hfl)
              have HFB := hide (show fairB M H F (bn : Int) = decide (withN overP M (loadsF M H (listD m (openD F (bn : Int)))) n = []) by rw [fairB, ← show m = H.length from Hm.out, hfl, ← show n = M.length from Hn.out]; rfl)
              clear hfl
              go_wp2_with fail
              refine QF.mono ?_
              rintro e w2 ⟨rfl, hq⟩
              have q2 := cell_on q2 hq
              have q3 := cell_on q3 hq
              have HB2 := hide (below_step HBA.out hq)
              have HOx := hide (HO1.out.below hq)
              have hbw3 := Nat.lt_of_lt_of_le hbw2 hq.size
              clear hq QF
              go_wp2_with fail
              refine (hyOver_any A B (some ⟨wo.heap.size, 0, none⟩) n c m d m m M H (listD m (openD F (bn : Int))) w2 Hn.out Hm.out HK.out listD_length.symm (Nat.le_refl _) HFS.out (Hr.out.below (below_step HW1.out HB2.out)) (listD_rd HOx.out)).mono ?_
              rintro e w3 ⟨⟨v, rfl, ho⟩, hq⟩
              obtain ⟨A', cap, rfl, -⟩ := own_open ho
              have HB3 := hide (below_step HB2.out hq)
              clear ho hq q2 q3
              generalize withN overP M (loadsF M H (listD m (openD F (bn : Int)))) n = L at *
              by_cases hL : L.length = 0
              · have hL2 : L = [] := List.eq_nil_of_length_eq_zero hL
                have HV2 : Hid (((bn : Nat) : Int) ≤ fairV M H F) := hide (HFI1.out.1 (by rw [HFB.out, hL2]; rfl))
                have hL3 : ¬ (0 : Int) < (L.length : Int) := by omega
                clear hL2
                generalize L.length = ll at *
                go_wp2
                go_roundw
                case rel => exact ⟨bn, by omega, rfl, by go_num, HV2, HB3⟩
                case measure => simp [intOf]; omega
              · have hL2 : ¬ L = [] := fun h => hL (by rw [h]; rfl)
                have HE := hide (show fairV M H F = (b : Int) by
                  have h1 := HFI1.out
                  have h2 : fairB M H F (bn : Int) = false := by rw [HFB.out]; simpa using hL2
                  rw [h2] at h1
                  have h3 : ¬ ((bn : Nat) : Int) ≤ fairV M H F := fun h => by have := h1.2 h; cases this
                  have := HV.out
                  have := HBN.out
                  omega)
                have hL3 : (0 : Int) < (L.length : Int) := by omega
                clear hL2
                generalize L.length = ll at *
                go_wp2
                go_ret2
                exact ⟨ret_tup2 (by rw [faV_yes HE'.out, HE.out]) HE'.out.symm, below_step HW1.out HB3.out⟩
      · have hbe : b = 5000 := by omega
        subst hbe
        have HE := hide (show fairV M H F = ((5000 : Nat) : Int) by have := HV.out; have := HFA.out.2; omega)
        go_wp2
        go_ret2
        exact ⟨ret_tup2 (by rw [faV_yes HE'.out, HE.out]) HE'.out.symm, below_step HW1.out HB.out⟩
end Go.Proofs.Ytangiabihgohcaa

/- Several texts in one. The fair flow: what the program's and the reference's return. The fair flow: the reference's way. -/
import Derived.Test.YtfcpgpmhjadanaaPqE
import Derived.Test.YtfcpgpmhjadanaaNetK
namespace Go.Proofs.Ytfcpgpmhjadanaa
open Go.RowKit
set_option linter.unusedVariables false

def fairOk (M H : List (Int × Int)) (F : List Int) : Bool := openB M H F && decide (0 < F.length)
def faV (M H : List (Int × Int)) (F : List Int) : Int := if fairOk M H F then fairV M H F else 0
theorem faV_no {M H : List (Int × Int)} {F : List Int} (h : fairOk M H F = false) : faV M H F = 0 := by rw [faV, h]; rfl
theorem faV_yes {M H : List (Int × Int)} {F : List Int} (h : fairOk M H F = true) : faV M H F = fairV M H F := by rw [faV, h]; rfl
/-- 1 at the first j open hydrants. -/
def onesN (F : List Int) (f : Int) : Nat → Nat → Int
  | 0 => fun _ => 0
  | j + 1 => match F[j]? with
    | some i => upd (onesN F f j) i.toNat f
    | none => onesN F f j
theorem onesN_succ {F : List Int} {f : Int} {j i : Nat} (h : F[j]? = some (i : Int)) : onesN F f (j + 1) = upd (onesN F f j) i f := by rw [onesN, h]; simp
theorem onesN_at {F : List Int} {f : Int} (h0 : ∀ x ∈ F, 0 ≤ x) (i : Nat) : ∀ j, j ≤ F.length → onesN F f j i = if (i : Int) ∈ F.take j then f else 0
  | 0, _ => by simp [onesN]
  | j + 1, hj => by
    have hx : F[j]? = some F[j] := List.getElem?_eq_getElem (by omega)
    have hx0 := h0 _ (List.mem_of_getElem? hx)
    have hT : F.take (j + 1) = F.take j ++ [F[j]] := by rw [List.take_add_one, hx]; rfl
    rw [onesN, hx, hT]
    simp only [List.mem_append, List.mem_singleton]
    unfold upd
    rw [onesN_at h0 i j (by omega)]
    by_cases h : i = (F[j]).toNat
    · rw [if_pos h, if_pos (by right; omega)]
    · rw [if_neg h]
      have hne : ¬ (i : Int) = F[j] := by omega
      simp only [hne, or_false]
theorem onesN_all {F : List Int} {f : Int} (h0 : ∀ x ∈ F, 0 ≤ x) (i : Nat) : onesN F f F.length i = openD F f i := by
  rw [onesN_at h0 i _ (Nat.le_refl _), List.take_length]; rfl
theorem fairV_bd {M H : List (Int × Int)} (hk : NetOk M H) {F : List Int} (hF : ∀ x ∈ F, 0 ≤ x) : 0 ≤ fairV M H F ∧ fairV M H F ≤ 5000 := by
  have h5 : fairV M H F ≤ 5000 := by
    have := (fairN_le (M := M) (D := loadsF M H (listD H.length (openD F 1))) (v := mostO H F F.length) (f := fairV M H F) M.length).1 (Int.le_refl _)
    exact ((mostO_le hF _).1 this.1).1
  refine ⟨?_, h5⟩
  rw [fairV, fairN_le, mostO_le hF]
  refine ⟨⟨by omega, fun i x hi hx => ?_⟩, fun x hx hp => ?_⟩
  · unfold most
    split
    · next h hh => have := hk.hyd _ h hh; omega
    · omega
  · have := hk.main x _ (List.getElem?_eq_getElem hx)
    rw [lim_some (List.getElem?_eq_getElem hx)]
    omega
theorem ones_flows {H : List (Int × Int)} {F : List Int} {f : Int} (h0 : ∀ x ∈ F, 0 ≤ x) (hf0 : 0 ≤ f) (hf : f ≤ 5000) : ∀ (i : Nat) (h : Int × Int) (g : Int), H[i]? = some h → (listD H.length (openD F f))[i]? = some g → 0 ≤ g ∧ g ≤ 5000 := by
  intro i h g hh hd
  rw [listD_get (List.getElem?_eq_some_iff.1 hh).1] at hd
  injection hd with hd
  unfold openD at hd
  split at hd <;> omega
theorem tdiv_lim {a b : Int} (h : 0 ≤ a) : Int.tdiv a b = a / b := Int.tdiv_eq_ediv_of_nonneg h

set_option maxRecDepth 100000 in
set_option maxHeartbeats 8000000 in
theorem implFairFlow_any (A B C : Option Addr) (n c m d k ecap : Nat) (M H : List (Int × Int)) (F : List Int) (w : World) (hn : n = M.length) (hm : m = H.length) (hnm : n ≤ maxLen) (hmm : m ≤ maxLen) (hkF : k = F.length) (hkm : k ≤ maxLen) (hr : NetRd w A B M H) (hf : Rd w C (F.map (Value.int .i64))) :
    Calls Try.prog 10 #[.agg #[.slice A n c, .slice B m d], .slice C k ecap] w fun e w' => e = .returned (.tuple #[.int .i64 (faV M H F), .bool (fairOk M H F)]) ∧ Below w.heap.size w w' := by
  have hc := cell_new2 w (.slice A n c) (.slice B m d) 27
  have Q := hide (implisNet_any w.heap.size A B n c m d M H (w.alloc (.cells #[.slice A n c, .slice B m d] 27)) hn hm hnm hmm (hr.alloc _) hc.1 hc.2)
  have Hn := hide hn
  have Hm := hide hm
  have HkF := hide hkF
  have Hr := hide hr
  have Hf := hide hf
  clear hn hm hkF hr hf
  cases hN : netB M H with
  | false =>
    rw [hN] at Q
    have HE := hide (show fairOk M H F = false by rw [fairOk, openB_no hN]; rfl)
    clear hN hc
    go_enter Try.func10, Try.ntmps10
    go_wp2_with (go_at_call 24; ((with_reducible refine (Q.out).mono ?_); rintro e w1 ⟨rfl, hb1⟩); obtain ⟨hc1, hf1⟩ := bcell hb1)
    go_ret2
    exact ⟨ret_tup2 (faV_no HE.out).symm HE.out.symm, (by repeat (first | exact Below.refl _ _ | refine below_step ?_ (by assumption) | refine below_step ?_ (Later.below _) | refine below_alloc ?_ _ | refine Below.drew ?_ | refine Below.setCell ?_ (by first | (simp; done) | (simp; omega)) _))⟩
  | true =>
    have hk := netB_ok hN
    have HK := hide hk
    have HE := hide (show openB M H F = risB 0 ((m : Int) - 1) F by rw [openB_eq hN, ← show m = H.length from Hm.out])
    rw [hN] at Q
    have hm10 : m ≤ 10 := by have := hk.h10; have := Hm.out; omega
    have hn10 : n ≤ 10 := by have := hk.m10; have := Hn.out; omega
    clear hN hk
    go_enter Try.func10, Try.ntmps10
    go_wp2_with fail
    refine Q.out.mono ?_
    rintro e w1 ⟨rfl, hq⟩
    have HW1 : Hid (Below w.heap.size w w1) := hide (below_step (below_alloc (Below.refl _ _) _) hq)
    have a0 := cell_on hc.1 hq
    have a1 := cell_on hc.2 hq
    clear hq Q hc
    have QA := areOpen_any w.heap.size B m d C k ecap F w1 (by omega) HkF.out hkm (Hf.out.below HW1.out) a1
    cases hff : risB 0 ((m : Int) - 1) F with
    | false =>
      rw [hff] at QA
      have HE' := hide (show fairOk M H F = false by rw [fairOk, HE.out, hff]; rfl)
      clear hff
      go_wp2_with fail
      refine QA.mono ?_
      rintro e w' ⟨rfl, rfl⟩
      go_wp2
      go_ret2
      exact ⟨ret_tup2 (faV_no HE'.out).symm HE'.out.symm, HW1.out⟩
    | true =>
      rw [hff] at QA
      have HEO := hide (show openB M H F = true by rw [HE.out, hff])
      have HL := hide (risB_length hff)
      have hk10 : k ≤ 10 := by have := HL.out; have := HkF.out; omega
      have HF := hide (fun (x : Int) (hx : x ∈ F) => show 0 ≤ x ∧ x < (m : Int) by have := risB_mem hff hx; omega)
      clear hff
      by_cases hk0 : k = 0
      · subst hk0
        have HE' := hide (show fairOk M H F = false by rw [fairOk, HEO.out, ← show 0 = F.length from HkF.out]; rfl)
        go_wp2_with fail
        refine QA.mono ?_
        rintro e w' ⟨rfl, rfl⟩
        go_wp2
        go_ret2
        exact ⟨ret_tup2 (faV_no HE'.out).symm HE'.out.symm, HW1.out⟩
      have HE' := hide (show fairOk M H F = true by rw [fairOk, HEO.out, ← show k = F.length from HkF.out]; simp; omega)
      have hk0' : ¬ (k : Int) = 0 := by omega
      have hk0b : ((k : Int) == 0) = false := by simp; omega
      obtain ⟨i0, hi, hz0, hz1, hz2⟩ := info_parts infoIntT
      have hmk := fun W => run_makeN (P := Try.prog) 28 3 Try.underlying28 hi hz0 m (by rw [hz2]; omega) (by omega) W
      rw [hz1] at hmk
      simp only [Value.cells, Nat.mul_one] at hmk
      have HO0 := hide (OwnD.new (d := fun _ => 0) w1 w.heap.size m HW1.out.size (by unfold maxLen; omega) _ (made_zero m))
      have HC0 := hide a0
      have HC1 := hide a1
      clear hi hz0 hz1 hz2
      go_wp2_with fail
      refine QA.mono ?_
      rintro e w' ⟨rfl, rfl⟩
      clear QA
      go_wp2_with fail
      clear hmk a0
      have HB1 : Hid (Below w1.heap.size w1 (w1.alloc (.cells (madeCells #[.int .i64 0] m) 3))) := hide (below_alloc (Below.refl _ _) _)
      generalize w1.alloc (.cells (madeCells #[.int .i64 0] m) 3) = W at *
      have hbz : w.heap.size < w1.heap.size := World.block_lt_of_cell? w1 _ HC0.out
      go_loopw [7, 30] (fun v t wr => ∃ j : Nat, j ≤ k ∧ t = .int .i64 j ∧ v = .int .i64 (mostO H F j) ∧ Hid (OwnD wr w.heap.size w1.heap.size m (onesN F 1 j)) ∧ Hid (Below w1.heap.size w1 wr)) (fun _ t _ => k - (intOf t).toNat)
      case atStart => exact ⟨0, by omega, rfl, rfl, HO0, HB1⟩
      case round =>
        obtain ⟨j, hj, rfl, rfl, HO, HB⟩ := hrel
        clear HO0 HB1
        have q0 := cell_on HC0.out HB.out
        have q1 := cell_on HC1.out HB.out
        have HWB := hide (below_step HW1.out HB.out)
        have hbw := World.block_lt_of_cell? wr _ q0
        dsimp only at hbw
        by_cases hlt : j < k
        · obtain ⟨x, hh⟩ : ∃ f, F[j]? = some f := ⟨_, List.getElem?_eq_getElem (by rw [← HkF.out]; exact hlt)⟩
          obtain ⟨x00, x01⟩ := HF.out x (List.mem_of_getElem? hh)
          obtain ⟨i, rfl⟩ := Int.eq_ofNat_of_zero_le x00
          have him : i < m := by omega
          obtain ⟨⟨y0, y1⟩, hy⟩ : ∃ h, H[i]? = some h := ⟨_, List.getElem?_eq_getElem (by rw [← Hm.out]; exact him)⟩
          obtain ⟨b, off, rfl, hbs, c0⟩ := (Hf.out.below HWB.out).get1 (u := .int .i64 (i : Int)) (by rw [List.getElem?_map, hh]; rfl)
          obtain ⟨b', off', rfl, hbs', d0', d1'⟩ := (Hr.out.below HW1.out).2.get2 (fun _ => rfl) hy rfl
          have d0 := cell_on d0' HB.out
          have d1 := cell_on d1' HB.out
          clear d0' d1'
          have HS := hide (onesN_succ (f := 1) hh)
          have HM := hide (show mostO H F (j + 1) = min (mostO H F j) y1 by rw [mostO_succ hh, most_some hy])
          have g0 := HO.out.cell him
          have g1 := HO.out.free i
          have hz4 := HO.out.lt.2
          have hne : ¬ b' = w1.heap.size := by omega
          dsimp only at d0 d1
          have HSET := hide (HO.out.set him 1)
          have HBS : Hid (Below w1.heap.size w1 (wr.setCell ⟨w1.heap.size, i, none⟩ (.int .i64 1))) := hide (HB.out.setCell (Nat.le_refl _) _)
          clear hh hy x00 x01
          generalize mostO H F j = cc at *
          go_wp2
          all_goals go_roundw
          case rel => exact ⟨j + 1, by omega, by go_num, by rw [HM.out]; simp only [Value.int.injEq, true_and]; first | omega | (split <;> omega), hide (by rw [HS.out]; exact HSET.out), HBS⟩
          case measure => simp [intOf]; omega
        · have hjk : j = F.length := by have := HkF.out; omega
          have HO1 : Hid (OwnD wr w.heap.size w1.heap.size m (openD F 1)) := hide (HO.out.congr (fun i hi => by rw [hjk]; exact onesN_all (fun x hx => (HF.out x hx).1) i))
          have HM0 := hide (show mostO H F j = mostO H F F.length by rw [hjk])
          rw [HM0.out]
          have hMb := (mostO_le (H := H) (f := mostO H F F.length) (fun x hx => (HF.out x hx).1) F.length).1 (Int.le_refl _)
          have HFA := hide (fairV_bd HK.out (M := M) (H := H) (F := F) (fun x hx => (HF.out x hx).1))
          have HMB := hide hMb.1
          have HFV : Hid (fairV M H F = fairN M (loadsF M H (listD m (openD F 1))) (mostO H F F.length) n) := hide (by rw [fairV, ← show n = M.length from Hn.out, ← show m = H.length from Hm.out])
          have HFS : Hid (∀ (i : Nat) (h : Int × Int) (g : Int), H[i]? = some h → (listD m (openD F 1))[i]? = some g → 0 ≤ g ∧ g ≤ 5000) := hide (by rw [show m = H.length from Hm.out]; exact ones_flows (fun x hx => (HF.out x hx).1) (by omega) (by omega))
          have HFD := hide (loadsN_bd HK.out HFS.out)
          clear hjk HO hMb HM0
          go_wp2_with fail
          refine (loads_any w.heap.size A B (some ⟨w1.heap.size, 0, none⟩) n c m d m _ M H (listD m (openD F 1)) wr Hn.out Hm.out HK.out listD_length.symm (Nat.le_refl _) HFS.out (Hr.out.below HWB.out) (listD_rd HO1.out) q0 q1).mono ?_
          rintro e w2 ⟨⟨g2, rfl, ho2⟩, hq2⟩
          have HO2 := hide ho2
          have HB2 := hide (below_step HB.out hq2)
          clear ho2 hq2 q0 q1 HB HO1 hbw
          obtain ⟨wo, rfl⟩ : ∃ wo, wo = w2 := ⟨_, rfl⟩
          go_wp2_with fail
          go_loopw [7, 49] (fun v t wr => ∃ i : Nat, i ≤ n ∧ t = .int .i64 i ∧ v = .int .i64 (fairN M (loadsF M H (listD m (openD F 1))) (mostO H F F.length) i) ∧ Hid (Below wo.heap.size wo wr)) (fun _ t _ => n - (intOf t).toNat)
          case atStart => exact ⟨0, by omega, rfl, rfl, hide (Below.refl _ _)⟩
          case round =>
            obtain ⟨q, hq, rfl, rfl, HBi⟩ := hrel
            have HBA := hide (below_step HB2.out HBi.out)
            by_cases hqn : q < n
            · obtain ⟨⟨p0, p1⟩, hpm⟩ : ∃ h, M[q]? = some h := ⟨_, List.getElem?_eq_getElem (by rw [← Hn.out]; exact hqn)⟩
              obtain ⟨b3, off3, rfl, hbs3, e0, e1⟩ := (Hr.out.below (below_step HW1.out HBA.out)).1.get2 (fun _ => rfl) hpm rfl
              obtain ⟨-, -, l0, l1⟩ := HK.out.main q _ hpm
              have HLM := hide (lim_some hpm)
              have q0 := cell_on HC0.out HBA.out
              have g0 := (HO2.out.below HBi.out).cell hqn
              have hz3 := (HO2.out.below HBi.out).lt.2
              have hbz3 := World.block_lt_of_cell? wr _ q0
              have hbd := HFD.out (listD m (openD F 1)).length q
              rw [listD_length] at hbd
              rw [show loadsN M H (listD m (openD F 1)) m = loadsF M H (listD m (openD F 1)) by rw [loadsF, listD_length]] at hbd
              dsimp only at e0 e1 l0 l1 HLM hbz3
              have HSN := hide (show fairN M (loadsF M H (listD m (openD F 1))) (mostO H F F.length) (q + 1) = if 0 < loadsF M H (listD m (openD F 1)) q then min (fairN M (loadsF M H (listD m (openD F 1))) (mostO H F F.length) q) (lim M q / loadsF M H (listD m (openD F 1)) q) else fairN M (loadsF M H (listD m (openD F 1))) (mostO H F F.length) q from rfl)
              generalize loadsF M H (listD m (openD F 1)) q = D at *
              generalize fairN M (loadsF M H (listD m (openD F 1))) (mostO H F F.length) q = cc at *
              clear hpm
              by_cases hD : 0 < D
              · have hD0 : ¬ D = 0 := by omega
                have hD1 : (D == 0) = false := by simpa using hD0
                have hdv := tdiv_lim (a := p1) (b := D) l0
                have hq0 : 0 ≤ p1 / D := Int.ediv_nonneg l0 (by omega)
                have hq1 : p1 / D ≤ p1 := Int.ediv_le_self _ l0
                have e5 : IntKind.i64.wrap (p1 / D) = p1 / D := IntWalk.i64_in _ (by omega)
                go_wp2
                all_goals go_roundw
                case rel => exact ⟨q + 1, by omega, by go_num, by rw [HSN.out, if_pos hD, HLM.out]; simp only [Value.int.injEq, true_and]; first | omega | (split <;> omega), hide HBi.out⟩
                case measure => simp [intOf]; omega
              · go_wp2
                go_roundw
                case rel => exact ⟨q + 1, by omega, by go_num, by rw [HSN.out, if_neg hD], HBi⟩
                case measure => simp [intOf]; omega
            · have HE2 := hide (show fairN M (loadsF M H (listD m (openD F 1))) (mostO H F F.length) q = faV M H F by rw [faV_yes HE'.out, HFV.out, show q = n by omega])
              rw [HE2.out]
              go_wp2
              go_ret2
              exact ⟨ret_tup2 rfl HE'.out.symm, below_step HW1.out HBA.out⟩

end Go.Proofs.Ytfcpgpmhjadanaa
namespace Go.Proofs.Ytfcpgpmhjadanaa
open Go.RowKit
set_option linter.unusedVariables false

set_option maxRecDepth 100000 in
set_option maxHeartbeats 8000000 in
theorem specFairFlow_any (A B C : Option Addr) (n c m d k ecap : Nat) (M H : List (Int × Int)) (F : List Int) (w : World) (hn : n = M.length) (hm : m = H.length) (hnm : n ≤ maxLen) (hmm : m ≤ maxLen) (hkF : k = F.length) (hkm : k ≤ maxLen) (hr : NetRd w A B M H) (hf : Rd w C (F.map (Value.int .i64))) :
    Calls Try.prog 11 #[.agg #[.slice A n c, .slice B m d], .slice C k ecap] w fun e w' => e = .returned (.tuple #[.int .i64 (faV M H F), .bool (fairOk M H F)]) ∧ Below w.heap.size w w' := by
  have hc := cell_new2 w (.slice A n c) (.slice B m d) 27
  have Q := hide (hyOpen_any A B C n c m d k ecap M H F (w.alloc (.cells #[.slice A n c, .slice B m d] 27)) hn hm hnm hmm hkF hkm (hr.alloc _) (hf.alloc _))
  have Hn := hide hn
  have Hm := hide hm
  have HkF := hide hkF
  have Hr := hide hr
  have Hf := hide hf
  clear hn hm hkF hr hf
  cases hA : openB M H F with
  | false =>
    rw [hA] at Q
    have HE := hide (show fairOk M H F = false by rw [fairOk, hA]; rfl)
    clear hA hc
    go_enter Try.func11, Try.ntmps11
    go_wp2_with (go_at_call 28; ((with_reducible refine (Q.out).mono ?_); rintro e w1 ⟨rfl, hb1⟩); obtain ⟨hc1, hf1⟩ := bcell hb1)
    go_ret2
    exact ⟨ret_tup2 (faV_no HE.out).symm HE.out.symm, (by repeat (first | exact Below.refl _ _ | refine below_step ?_ (by assumption) | refine below_step ?_ (Later.below _) | refine below_alloc ?_ _ | refine Below.drew ?_ | refine Below.setCell ?_ (by first | (simp; done) | (simp; omega)) _))⟩
  | true =>
    rw [hA] at Q
    have HEO := hide hA
    rw [openB, Bool.and_eq_true] at hA
    have HK := hide (netB_ok hA.1)
    have hff := hA.2
    rw [← show m = H.length from Hm.out] at hff
    have HL := hide (risB_length hff)
    have HF := hide (fun (x : Int) (hx : x ∈ F) => show 0 ≤ x ∧ x < (m : Int) by have := risB_mem hff hx; omega)
    have hm10 : m ≤ 10 := by have := HK.out.h10; have := Hm.out; omega
    have hn10 : n ≤ 10 := by have := HK.out.m10; have := Hn.out; omega
    have hk10 : k ≤ 10 := by have := HL.out; have := HkF.out; omega
    clear hA hff
    by_cases hk0 : k = 0
    · subst hk0
      have HE' := hide (show fairOk M H F = false by rw [fairOk, HEO.out, ← show 0 = F.length from HkF.out]; rfl)
      go_enter Try.func11, Try.ntmps11
      go_wp2_with (go_at_call 28; ((with_reducible refine (Q.out).mono ?_); rintro e w1 ⟨rfl, hb1⟩); obtain ⟨hc1, hf1⟩ := bcell hb1)
      go_ret2
      exact ⟨ret_tup2 (faV_no HE'.out).symm HE'.out.symm, (by repeat (first | exact Below.refl _ _ | refine below_step ?_ (by assumption) | refine below_step ?_ (Later.below _) | refine below_alloc ?_ _ | refine Below.drew ?_ | refine Below.setCell ?_ (by first | (simp; done) | (simp; omega)) _))⟩
    have HE' := hide (show fairOk M H F = true by rw [fairOk, HEO.out, ← show k = F.length from HkF.out]; simp; omega)
    have hk0' : ¬ (k : Int) = 0 := by omega
    have hk0b : ((k : Int) == 0) = false := by simp; omega
    go_enter Try.func11, Try.ntmps11
    go_wp2_with fail
    refine Q.out.mono ?_
    rintro e w1 ⟨rfl, hq⟩
    have HW1 : Hid (Below w.heap.size w w1) := hide (below_step (below_alloc (Below.refl _ _) _) hq)
    have a0 := cell_on hc.1 hq
    have a1 := cell_on hc.2 hq
    have z0 := World.block_lt_of_cell? w1 _ a0
    have HC0 := hide a0
    have HC1 := hide a1
    have HFA := hide (fairV_bd HK.out (M := M) (H := H) (F := F) (fun x hx => (HF.out x hx).1))
    have HFI := hide (fun (f : Int) (h1 : 1 ≤ f) (h2 : f ≤ 5000) => fair_iff HK.out (O := F) (f := f) (fun x hx => by have := HF.out x hx; have := Hm.out; omega) h1 h2)
    clear hq Q hc
    dsimp only at z0
    go_wp2_with fail
    clear a0 a1
    obtain ⟨i0, hi, hz0, hz1, hz2⟩ := info_parts infoIntT
    have hmk := fun W => run_makeN (P := Try.prog) 28 3 Try.underlying28 hi hz0 m (by rw [hz2]; omega) (by omega) W
    rw [hz1] at hmk
    simp only [Value.cells, Nat.mul_one] at hmk
    clear hi hz0 hz1 hz2
    have HMK := hide hmk
    clear hmk
    go_loopw [6, 7] (fun v t wr => ∃ b : Nat, b ≤ 5000 ∧ v = .int .i64 b ∧ t = .int .i64 ((b + 1 : Nat) : Int) ∧ Hid ((b : Int) ≤ fairV M H F) ∧ Hid (Below w1.heap.size w1 wr)) (fun _ t _ => 5001 - (intOf t).toNat)
    case atStart => exact ⟨0, by omega, rfl, rfl, hide HFA.out.1, hide (Below.refl _ _)⟩
    case round =>
      obtain ⟨b, hb, rfl, rfl, HV, HB⟩ := hrel
      have q0 := cell_on HC0.out HB.out
      have q1 := cell_on HC1.out HB.out
      have hbw := World.block_lt_of_cell? wr _ q0
      dsimp only at hbw
      by_cases hlt : b + 1 ≤ 5000
      · have hmk := HMK.out
        have HO0 : Hid (OwnD (wr.alloc (.cells (madeCells #[.int .i64 0] m) 3)) w1.heap.size wr.heap.size m (fun _ => 0)) := hide (OwnD.new (d := fun _ => 0) wr w1.heap.size m HB.out.size (by unfold maxLen; omega) _ (made_zero m))
        have HB1 : Hid (Below w1.heap.size w1 (wr.alloc (.cells (madeCells #[.int .i64 0] m) 3))) := hide (below_alloc HB.out _)
        have HBR : Hid (Below wr.heap.size wr (wr.alloc (.cells (madeCells #[.int .i64 0] m) 3))) := hide (below_alloc (Below.refl _ _) _)
        have HFI1 := hide (HFI.out ((b + 1 : Nat) : Int) (by omega) (by omega))
        have e1 : IntKind.i64.wrap (((b + 1 : Nat) : Int) + 1) = ((b + 1 + 1 : Nat) : Int) := by rw [IntWalk.i64_in _ (by omega)]; omega
        generalize hbn : b + 1 = bn at *
        have hbn0 : ((bn : Nat) : Int) ≤ 5000 := by omega
        have HBN := hide hbn
        clear hbn HFI
        go_wp2_with fail
        clear hmk
        generalize wr.alloc (.cells (madeCells #[.int .i64 0] m) 3) = W at *
        obtain ⟨wo, rfl⟩ : ∃ wo, wo = wr := ⟨_, rfl⟩
        go_loopw [30] (fun t wr => ∃ j : Nat, j ≤ k ∧ t = .int .i64 j ∧ Hid (OwnD wr w1.heap.size wo.heap.size m (onesN F (bn : Int) j)) ∧ Hid (Below wo.heap.size wo wr)) (fun t _ => k - (intOf t).toNat)
        case atStart => exact ⟨0, by omega, rfl, HO0, HBR⟩
        case round =>
          obtain ⟨j, hj, rfl, HO, HBi⟩ := hrel
          clear HO0 HBR HB1
          have HBA := hide (below_step HB.out HBi.out)
          by_cases hlt : j < k
          · obtain ⟨x, hh⟩ : ∃ f, F[j]? = some f := ⟨_, List.getElem?_eq_getElem (by rw [← HkF.out]; exact hlt)⟩
            obtain ⟨x00, x01⟩ := HF.out x (List.mem_of_getElem? hh)
            obtain ⟨i, rfl⟩ := Int.eq_ofNat_of_zero_le x00
            have him : i < m := by omega
            obtain ⟨b2, off, rfl, hbs, c0⟩ := (Hf.out.below (below_step HW1.out HBA.out)).get1 (u := .int .i64 (i : Int)) (by rw [List.getElem?_map, hh]; rfl)
            have HS := hide (onesN_succ (f := (bn : Int)) hh)
            have g0 := HO.out.cell him
            have g1 := HO.out.free i
            have hz4 := HO.out.lt.2
            have HSET := hide (HO.out.set him (bn : Int))
            have HBS : Hid (Below wo.heap.size wo (wr.setCell ⟨wo.heap.size, i, none⟩ (.int .i64 (bn : Int)))) := hide (HBi.out.setCell (Nat.le_refl _) _)
            clear hh x00 x01
            go_wp2
            go_roundw
            case rel => exact ⟨j + 1, by omega, by go_num, hide (by rw [HS.out]; exact HSET.out), HBS⟩
            case measure => simp [intOf]; omega
          · have hjk : j = F.length := by have := HkF.out; omega
            have HO1 : Hid (OwnD wr w1.heap.size wo.heap.size m (openD F (bn : Int))) := hide (HO.out.congr (fun i hi => by rw [hjk]; exact onesN_all (fun x hx => (HF.out x hx).1) i))
            have q2 := cell_on HC0.out HBA.out
            have q3 := cell_on HC1.out HBA.out
            have QF := hyFlows_any A B (some ⟨wo.heap.size, 0, none⟩) n c m d m m M H (listD m (openD F (bn : Int))) wr Hm.out hm10 listD_length.symm (by unfold maxLen; omega) (Hr.out.below (below_step HW1.out HBA.out)) (listD_rd HO1.out)
            have hbw2 := World.block_lt_of_cell? wr _ q2
            dsimp only at hbw2
            clear hjk HO
            cases hfl : flowsB H (listD m (openD F (bn : Int))) with
            | false =>
              rw [hfl] at QF
              have HE := hide (show fairV M H F = (b : Int) by
                have h1 := HFI1.out
                have h2 : fairB M H F (bn : Int) = false := by rw [fairB, ← show m = H.length from Hm.out, hfl]; rfl
                rw [h2] at h1
                have h3 : ¬ ((bn : Nat) : Int) ≤ fairV M H F := fun h => by have := h1.2 h; cases this
                have := HV.out
                have := HBN.out
                omega)
              clear hfl
              go_wp2_with fail
              refine QF.mono ?_
              rintro e w2 ⟨rfl, hq⟩
              go_wp2
              go_ret2
              exact ⟨ret_tup2 (by rw [faV_yes HE'.out, HE.out]) HE'.out.symm, below_step HW1.out (below_step HBA.out hq)⟩
            | true =>
              rw [hfl] at QF
              have HFS := hide (show ∀ (i : Nat) (h : Int × Int) (g : Int), H[i]? = some h → (listD m (openD F (bn : Int)))[i]? = some g → 0 ≤ g ∧ g ≤ 5000 from flowsB_5000 HK.out hfl)
              have HFB := hide (show fairB M H F (bn : Int) = decide (withN overP M (loadsF M H (listD m (openD F (bn : Int)))) n = []) by rw [fairB, ← show m = H.length from Hm.out, hfl, ← show n = M.length from Hn.out]; rfl)
              clear hfl
              go_wp2_with fail
              refine QF.mono ?_
              rintro e w2 ⟨rfl, hq⟩
              have q2 := cell_on q2 hq
              have q3 := cell_on q3 hq
              have HB2 := hide (below_step HBA.out hq)
              have HOx := hide (HO1.out.below hq)
              have hbw3 := Nat.lt_of_lt_of_le hbw2 hq.size
              clear hq QF
              go_wp2_with fail
              refine (hyOver_any A B (some ⟨wo.heap.size, 0, none⟩) n c m d m m M H (listD m (openD F (bn : Int))) w2 Hn.out Hm.out HK.out listD_length.symm (Nat.le_refl _) HFS.out (Hr.out.below (below_step HW1.out HB2.out)) (listD_rd HOx.out)).mono ?_
              rintro e w3 ⟨⟨v, rfl, ho⟩, hq⟩
              obtain ⟨A', cap, rfl, -⟩ := own_open ho
              have HB3 := hide (below_step HB2.out hq)
              clear ho hq q2 q3
              generalize withN overP M (loadsF M H (listD m (openD F (bn : Int)))) n = L at *
              by_cases hL : L.length = 0
              · have hL2 : L = [] := List.eq_nil_of_length_eq_zero hL
                have HV2 : Hid (((bn : Nat) : Int) ≤ fairV M H F) := hide (HFI1.out.1 (by rw [HFB.out, hL2]; rfl))
                have hL3 : ¬ (0 : Int) < (L.length : Int) := by omega
                clear hL2
                generalize L.length = ll at *
                go_wp2
                go_roundw
                case rel => exact ⟨bn, by omega, rfl, by go_num, HV2, HB3⟩
                case measure => simp [intOf]; omega
              · have hL2 : ¬ L = [] := fun h => hL (by rw [h]; rfl)
                have HE := hide (show fairV M H F = (b : Int) by
                  have h1 := HFI1.out
                  have h2 : fairB M H F (bn : Int) = false := by rw [HFB.out]; simpa using hL2
                  rw [h2] at h1
                  have h3 : ¬ ((bn : Nat) : Int) ≤ fairV M H F := fun h => by have := h1.2 h; cases this
                  have := HV.out
                  have := HBN.out
                  omega)
                have hL3 : (0 : Int) < (L.length : Int) := by omega
                clear hL2
                generalize L.length = ll at *
                go_wp2
                go_ret2
                exact ⟨ret_tup2 (by rw [faV_yes HE'.out, HE.out]) HE'.out.symm, below_step HW1.out HB3.out⟩
      · have hbe : b = 5000 := by omega
        subst hbe
        have HE := hide (show fairV M H F = ((5000 : Nat) : Int) by have := HV.out; have := HFA.out.2; omega)
        go_wp2
        go_ret2
        exact ⟨ret_tup2 (by rw [faV_yes HE'.out, HE.out]) HE'.out.symm, below_step HW1.out HB.out⟩
end Go.Proofs.Ytfcpgpmhjadanaa

/- IsGreatest: the program's isGreatest. -/
import Derived.Test.YtangiabihgohcaaNetIh
namespace Go.Proofs.Ytangiabihgohcaa
open Go.RowKit
set_option linter.unusedVariables false

set_option maxRecDepth 100000 in
set_option maxHeartbeats 8000000 in
theorem isGreatest_any (b0 : Nat) (A B C E : Option Addr) (n c m d k ecap j jcap : Nat) (M H : List (Int × Int)) (O F : List Int) (w : World) (hn : n = M.length) (hm : m = H.length) (hk : NetOk M H) (hkO : k = O.length) (hk10 : k ≤ 1048576) (hfl : flowsB H F = true) (hj : j = F.length) (hr : NetRd w A B M H) (ho : Rd w C (O.map (Value.int .i64))) (hf : Rd w E (F.map (Value.int .i64))) (hc0 : w.cell? ⟨b0, 0, none⟩ = some (.slice A n c)) (hc1 : w.cell? ⟨b0, 1, none⟩ = some (.slice B m d)) :
    Calls Try.prog 76 #[.pointer (some ⟨b0, 0, none⟩), .slice C k ecap, .slice E j jcap] w fun e w' => e = .returned (.bool (igB M H O F)) ∧ Below w.heap.size w w' := by
  have hn10 : n ≤ 10 := by have := hk.m10; omega
  have hm10 : m ≤ 10 := by have := hk.h10; omega
  have HJM := hide (show j = m by have := (flowsB_get hfl).1; omega)
  have hjm : j ≤ m := by have := HJM.out; omega
  have Hn := hide hn
  have Hm := hide hm
  have HK := hide hk
  have HkO := hide hkO
  have HFL := hide (flowsB_get hfl)
  have HF5 := hide (flowsB_5000 hk hfl)
  have Hj := hide hj
  have Hr := hide hr
  have Ho := hide ho
  have Hf := hide hf
  have HC0 := hide hc0
  have HC1 := hide hc1
  have hb0 := World.block_lt_of_cell? w _ hc0
  dsimp only at hb0
  have QO := hide (igOver_any b0 A B E n c m d j jcap M H F w hn hm hk hj (by omega) (flowsB_5000 hk hfl) hr hf hc0 hc1)
  clear hn hm hk hkO hfl hj hr ho hf
  have HLO := hide (igB_over (M := M) (H := H) (O := O) (F := F))
  have HOF := hide (igB_of (M := M) (H := H) (O := O) (F := F))
  have HBAD := hide (fun (i : Nat) => igB_bad (M := M) (H := H) (O := O) (F := F) (i := i))
  rw [← show n = M.length from Hn.out] at HLO HOF
  have HTE := hide (show igTL M H F = withN tightP M (loadsF M H F) n by rw [igTL, ← show n = M.length from Hn.out])
  rw [HTE.out] at HOF HBAD
  have HTL := hide (withN_length tightP M (loadsF M H F) n)
  clear HTE
  generalize igB M H O F = R at *
  go_enter Try.func76, Try.ntmps76
  go_wp2_with fail
  refine QO.out.mono ?_
  rintro e w1 ⟨⟨v, rfl, hov⟩, hq⟩
  obtain ⟨A1, k1, rfl, -⟩ := own_open hov
  have HB1 := hide hq
  have a0 := cell_on hc0 hq
  have a1 := cell_on hc1 hq
  have QT := hide (igTight_any b0 A B E n c m d j jcap M H F w1 Hn.out Hm.out HK.out Hj.out (by omega) HF5.out (NetRd.below Hr.out HB1.out) (Hf.out.below HB1.out) a0 a1)
  clear hov hq QO hc0 hc1 a0 a1
  generalize withN overP M (loadsF M H F) n = L1 at *
  by_cases hL : L1.length = 0
  · have HL0 := hide (show L1 = [] from List.eq_nil_of_length_eq_zero hL)
    rw [hL]
    clear hL
    go_wp2_with fail
    refine QT.out.mono ?_
    rintro e w2 ⟨⟨v, rfl, hov⟩, hq⟩
    obtain ⟨A2, k2, rfl, -⟩ := own_open hov
    have HB2 := hide (below_step HB1.out hq)
    have HT := hide (own_rd hov)
    clear hov hq QT
    generalize withN tightP M (loadsF M H F) n = TL at *
    have HTE := hide (show TL.length ≤ 10 by have := HTL.out; omega)
    go_wp2_with fail
    have HQ := hide (Row.new w2 #[.slice A2 TL.length k2] 35)
    have HB3 := hide (below_alloc HB2.out (.cells #[.slice A2 TL.length k2] 35))
    have HTA := hide (HT.out.alloc (.cells #[.slice A2 TL.length k2] 35))
    generalize w2.alloc (.cells #[.slice A2 TL.length k2] 35) = W at *
    have HP1 := hide (HOF.out HL0.out)
    clear HOF HT HB1 HB2 HLO
    go_loopw [20] (fun t wr => ∃ i : Nat, i ≤ j ∧ t = .int .i64 i ∧ Hid (∀ q, q < i → igStep M H O F TL q = true) ∧ Hid (Below W.heap.size W wr)) (fun t _ => j - (intOf t).toNat)
    case atStart => exact ⟨0, by omega, rfl, hide (fun q hq => absurd hq (by omega)), hide (Below.refl _ _)⟩
    case round =>
      obtain ⟨i, hi, rfl, HA, HBi⟩ := hrel
      have HBA := hide (below_step HB3.out HBi.out)
      by_cases hij : i < j
      · obtain ⟨f, hh⟩ : ∃ f, F[i]? = some f := ⟨_, List.getElem?_eq_getElem (by rw [← Hj.out]; exact hij)⟩
        have him : i < m := by omega
        obtain ⟨⟨y0, y1⟩, hy⟩ : ∃ h, H[i]? = some h := ⟨_, List.getElem?_eq_getElem (by rw [← Hm.out]; exact him)⟩
        obtain ⟨z0, z1, z2, z3⟩ := HK.out.hyd i _ hy
        obtain ⟨f0, f1⟩ := HFL.out.2 i _ f hy hh
        obtain ⟨b, off, rfl, hbs, c0⟩ := (Hf.out.below HBA.out).get1 (u := .int .i64 f) (by rw [List.getElem?_map, hh]; rfl)
        obtain ⟨b', off', rfl, hbs', d0, d1⟩ := (Hr.out.below HBA.out).2.get2 (fun _ => rfl) hy rfl
        have HIN := hide (fun h => igStep_in (M := M) (O := O) (TL := TL) hy hh h)
        have HOUT := hide (fun h => igStep_out (M := M) (O := O) (TL := TL) hy hh h)
        have HY := hide hy
        have q0 := cell_on HC0.out HBA.out
        have q1 := cell_on HC1.out HBA.out
        have hbw := World.block_lt_of_cell? wr _ q0
        have hx0 : y0 < n := by have := Hn.out; dsimp only at z1; omega
        have HWL : Hid ((wayL M y0).length ≤ 10) := hide (by have := wayL_length M y0; omega)
        have QC := hasInt_any C k ecap O (i : Int) wr HkO.out hk10 (Ho.out.below HBA.out)
        have r0 := (HQ.out.below HBi.out).2.1 0 _ rfl
        have hrz := (HQ.out.below HBi.out).1
        have HB_ := hide (HBAD.out i (by rw [← show j = F.length from Hj.out]; exact hij))
        dsimp only at d0 d1 z0 z1 z2 z3 f1 hbw HIN HOUT
        clear hh hy z1
        cases hO : hasB O (i : Int) with
        | false =>
          rw [hO] at QC
          have HST := hide (HOUT.out hO)
          clear hO
          by_cases hf0 : f = 0
          · have HG := hide (show igStep M H O F TL i = true by rw [HST.out]; simpa using hf0)
            subst hf0
            go_wp2_with (go_at_call 97; ((with_reducible refine (QC).mono ?_); rintro e w' ⟨rfl, rfl⟩))
            go_roundw
            case rel =>
              refine ⟨i + 1, by omega, by go_num, hide (fun q hq => ?_), HBi⟩
              by_cases hq2 : q < i
              · exact HA.out q hq2
              · rw [show q = i by omega]; exact HG.out
            case measure => simp [intOf]; omega
          · have HG := hide (HB_.out (by rw [HST.out]; simpa using hf0))
            have hf2 : (f == 0) = false := by simpa using hf0
            have hf3 : (f != 0) = true := by simpa using hf0
            go_wp2_with (go_at_call 97; ((with_reducible refine (QC).mono ?_); rintro e w' ⟨rfl, rfl⟩))
            go_ret
            exact ⟨ret_bool HG.out.symm, HBA.out⟩
        | true =>
          rw [hO] at QC
          have HST := hide (HIN.out hO)
          clear hO
          by_cases hfm : f < y1
          · have HST2 := hide (show igStep M H O F TL i = (wayL M y0).any (fun m => hasB TL (m : Int)) by rw [HST.out, decide_eq_false (by omega)]; rfl)
            go_wp2_with (go_at_call 97; ((with_reducible refine (QC).mono ?_); rintro e w' ⟨rfl, rfl⟩))
            refine (way_any b0 A (some ⟨b', off', none⟩) n c m d i M H y0 y1 wr Hn.out Hm.out HK.out HY.out (Hr.out.below HBA.out) q0 q1).mono ?_
            rintro e w4 ⟨⟨v, rfl, ho⟩, hq⟩
            obtain ⟨A', cap, rfl, -⟩ := own_open ho
            have QA := hide (igAny_any w2.heap.size A2 TL.length k2 TL A' (wayL M y0).length cap (wayL M y0) w4 (cell_on r0 hq) rfl (by have := HTE.out; omega) (HTA.out.below (below_step HBi.out hq)) rfl (by have := HWL.out; omega) (own_rd ho))
            have HB4 := hide (below_step HBi.out hq)
            have hrz4 := Nat.lt_of_lt_of_le hrz hq.size
            clear ho hq q0 q1 d0 d1 c0 r0 QC
            cases hA : (wayL M y0).any (fun m => hasB TL (m : Int)) with
            | true =>
              have HG := hide (show igStep M H O F TL i = true by rw [HST2.out, hA])
              rw [hA] at QA
              clear hA
              generalize (wayL M y0).length = L at *
              go_wp2_with (go_at_call 98; ((with_reducible refine (QA.out).mono ?_); rintro e w' ⟨rfl, rfl⟩))
              go_roundw
              case rel =>
                refine ⟨i + 1, by omega, by go_num, hide (fun q hq => ?_), HB4⟩
                by_cases hq2 : q < i
                · exact HA.out q hq2
                · rw [show q = i by omega]; exact HG.out
              case measure => simp [intOf]; omega
            | false =>
              have HG := hide (HB_.out (by rw [HST2.out, hA]))
              rw [hA] at QA
              clear hA
              generalize (wayL M y0).length = L at *
              go_wp2_with (go_at_call 98; ((with_reducible refine (QA.out).mono ?_); rintro e w' ⟨rfl, rfl⟩))
              go_ret
              exact ⟨ret_bool HG.out.symm, below_step HB3.out HB4.out⟩
          · have HG := hide (show igStep M H O F TL i = true by rw [HST.out, decide_eq_true (by omega)]; rfl)
            go_wp2_with (go_at_call 97; ((with_reducible refine (QC).mono ?_); rintro e w' ⟨rfl, rfl⟩))
            go_roundw
            case rel =>
              refine ⟨i + 1, by omega, by go_num, hide (fun q hq => ?_), HBi⟩
              by_cases hq2 : q < i
              · exact HA.out q hq2
              · rw [show q = i by omega]; exact HG.out
            case measure => simp [intOf]; omega
      · have HG := hide (HP1.out (fun q hq => HA.out q (by have := Hj.out; omega)))
        go_wp2
        go_ret
        exact ⟨ret_bool HG.out.symm, HBA.out⟩
  · have HN := hide (HLO.out (fun e => hL (by rw [e]; rfl)))
    have hL3 : (0 : Int) < (L1.length : Int) := by omega
    generalize L1.length = ll at *
    go_wp2
    go_ret
    exact ⟨ret_bool HN.out.symm, HB1.out⟩
end Go.Proofs.Ytangiabihgohcaa

/- Likely addresses: the reference. -/
import Derived.Test.YtfahiammopgflaaSimI
namespace Go.Proofs.Ytfahiammopgflaa
open Go.RowKit
set_option linter.unusedVariables false

set_option maxRecDepth 100000 in
set_option maxHeartbeats 8000000 in
theorem specLikelyAddress_any (A : Option Addr) (n c : Nat) (l : List (ByteArray × Int × Int × Int × Int)) (s : ByteArray) (h : Int) (w : World) (hn : n = l.length) (hm : n ≤ 1048576) (hs : ∀ x ∈ l, x.1.size ≤ maxLen) (hr : Rd w A (l.flatMap scells)) (hz : s.size ≤ maxLen) :
    Calls Try.prog 16 #[.slice A n c, .string s, .int .i64 h] w (LkPost l s h w) := by
  have Q := hide (adAsked_any A n c l s h w hn hm hs hr hz)
  have Hn := hide hn
  have Hr := hide hr
  have HOK := hide (show lkOk l s h = (strsB l && roadB s && inB h 1 999) from rfl)
  clear hs hr hn hz
  cases hA : (strsB l && roadB s && inB h 1 999) with
  | false =>
    rw [hA] at Q
    have HE := hide (lkO_no (show lkOk l s h = false by rw [HOK.out, hA]))
    go_enter Try.func16, Try.ntmps16
    go_wp2_with fail
    refine Q.out.mono ?_
    rintro e w1 ⟨rfl, hq⟩
    go_wp2
    go_ret3
    exact LkPost.no HE.out hq
  | true =>
        rw [hA] at Q
        have HE := hide (lkO_yes (show lkOk l s h = true by rw [HOK.out, hA]))
        simp only [Bool.and_eq_true] at hA
        have HL := hide hA.1.1
        have hz10 : s.size ≤ 10 := by
          have h2 := hA.1.2
          simp only [roadB, Bool.and_eq_true, inB_iff] at h2
          omega
        have hn30 : n ≤ 30 := by have := strsB_len hA.1.1; have := Hn.out; omega
        clear hA HOK
        go_enter Try.func16, Try.ntmps16
        go_wp2_with fail
        refine Q.out.mono ?_
        rintro e w1 ⟨rfl, hq⟩
        have HB1 := hide hq
        clear hq
        go_wp2_with fail
        obtain ⟨i0, hi0, hz0, hz1, hz2⟩ := info_parts infoStrS
        have Hi := hide hi0
        have Hz := hide (And.intro hz0 (And.intro hz1 hz2))
        clear hi0 hz0 hz1 hz2
        have HLT : Hid ((w1.alloc (.cells #[.string s] 9)).ownsRow w.heap.size 9 1 (.slice (some ⟨w1.heap.size, 0, none⟩) 1 1) 1 [.string s]) := hide (World.ownsRow_lit (e := 9) (size := 1) w1 #[.string s] 1 HB1.out.size (by unfold maxLen; omega) rfl)
        have HBA := hide (below_alloc HB1.out (.cells #[.string s] 9))
        refine (adRoads_any A n c l s _ Hn.out HL.out (Hr.out.below HBA.out) hz10).mono ?_
        rintro e w2 ⟨⟨v, rfl, ho⟩, hq⟩
        obtain ⟨A2, k2, rfl, hrd, hnc, -, hno, -⟩ := own_open ho
        have HB2 := hide (below_step HBA.out hq)
        have HL2 := hide (own_below HLT.out hq)
        have hno2 : A2 = none → (roadsK l s l.length).length = 0 ∧ k2 = 0 := fun e => ⟨(hno e).1, (hno e).2.1⟩
        have hadd : ∀ ad, A2 = some ad → ∀ j u, (strL (roadsK l s l.length))[j]? = some u → w2.cell? (ad.add j) = some u := fun ad hA j u hu => by
          rcases hrd with h | ⟨b, off, hA2, hc⟩
          · rw [h] at hu; simp at hu
          · rw [hA] at hA2
            injection hA2 with hA2
            subst hA2
            rw [Addr.add_lit]
            exact hc j u hu
        have HAD := hide hadd
        have HNO := hide hno2
        have hll := roadsK_length l s l.length
        have hl30 : (roadsK l s l.length).length ≤ 30 := by have := Hn.out; omega
        clear ho hq hrd hno hadd hno2 hll HLT
        have HONE := hide (show ∀ u ∈ strL (roadsK l s l.length), u.oneCell' = true from fun u hu => by obtain ⟨x, _, rfl⟩ := List.mem_map.1 hu; rfl)
        have HSL := hide (strL_length (roadsK l s l.length))
        have HLL := hide (show (s :: roadsK l s l.length).length = 1 + (roadsK l s l.length).length by simp; omega)
        generalize roadsK l s l.length = RL at *
        go_wp2_with (at_builtin; refine wpList_append_any rfl (.tmp 18) (.tmp 21) 24 rfl w.heap.size 9 i0 (.string ByteArray.empty) 1 16 Try.underlying24 Hi.out Hz.out.1 Hz.out.2.1 Hz.out.2.2 rfl (by decide) _ 1 [.string s] rfl HL2.out A2 RL.length k2 (strL RL) rfl (by rw [HSL.out]; omega) HNO.out HAD.out HONE.out ?c2 ?c3 ?c4 ?_)
        case c2 => unfold maxLen; omega
        case c3 => omega
        case c4 => exact HB2.out.size
        intro v' w3 hown hgrow
        rw [show Value.string s :: strL RL = strL (s :: RL) from rfl] at hown
        obtain ⟨A3, k3, rfl, hrd, -⟩ := own_open hown
        have HRN := hide hrd
        have HB3 := hide (HB2.out.grown hgrow HB2.out.size (fun q hq => by have := (HL2.out.lt q hq).1; omega))
        clear hown hgrow hrd HAD HNO HONE
        go_wp2_with fail
        have hNL : (s :: RL).length = 1 + RL.length := HLL.out
        have HNL := hide hNL
        clear hNL
        generalize hN : 1 + RL.length = N at *
        have hN30 : N ≤ 31 := by omega
        have eN : (1 + (RL.length : Int)) = (N : Int) := by omega
        rw [eN]
        clear eN hN
        go_loopw [24] (fun t wr => ∃ j : Nat, j ≤ N ∧ t = .int .i64 j ∧ Hid (∀ (i : Nat) (x : ByteArray), i < j → (s :: RL)[i]? = some x → findI (findP x h) l < 0) ∧ Hid (Below w3.heap.size w3 wr)) (fun t _ => N - (intOf t).toNat)
        case atStart => exact ⟨0, by omega, rfl, hide (fun i x hi => absurd hi (by omega)), hide (Below.refl _ _)⟩
        case round =>
          obtain ⟨j, hj, rfl, HA, HBi⟩ := hrel
          have HBA2 := hide (below_step HB3.out HBi.out)
          by_cases hlt : j < N
          · obtain ⟨nm, hnm⟩ : ∃ x, (s :: RL)[j]? = some x := ⟨_, List.getElem?_eq_getElem (by rw [HNL.out]; exact hlt)⟩
            obtain ⟨b, off, rfl, hbs, c0⟩ := (HRN.out.below HBi.out).get1 (strL_get hnm)
            have HNM := hide hnm
            clear hnm
            go_wp2_with fail
            refine (adFind_any A n c l nm h _ Hn.out hm (Hr.out.below HBA2.out)).mono ?_
            rintro e w4 ⟨rfl, hq⟩
            have HB4 := hide (below_step HBi.out hq)
            clear hq
            rcases findI_cases (findP nm h) l with hf | ⟨q, x, hf, hq, hp⟩
            · have HN1 := hide (show ∀ (i : Nat) (x : ByteArray), i < j + 1 → (s :: RL)[i]? = some x → findI (findP x h) l < 0 from fun i x hi hx => by
                by_cases hi2 : i < j
                · exact HA.out i x hi2 hx
                · rw [show i = j by omega, HNM.out] at hx
                  injection hx with hx
                  subst hx
                  omega)
              rw [hf]
              clear hf
              go_wp2
              go_roundw
              case rel => exact ⟨j + 1, by omega, by go_num, HN1, HB4⟩
              case measure => simp [intOf]; omega
            · obtain ⟨x0, x1, x2, x3, x4⟩ := x
              have HV := hide (show lkO l s h = some (nm, x3) by
                rw [HE.out, lkF_at HNM.out (fun i y hi hy => HA.out i y hi hy) (by rw [hf]; omega), hf, nodeAt, Int.toNat_natCast, hq])
              obtain ⟨b9, off9, rfl, hb9, -, -, -, d3, -⟩ := (Hr.out.below (below_step HB3.out HB4.out)).get5 (fun _ => rfl) hq rfl
              have hqn : q < n := by have := (List.getElem?_eq_some_iff.1 hq).1; have := Hn.out; omega
              rw [hf]
              dsimp only at d3
              clear hf hq hp
              go_wp2_with fail
              go_region
              all_goals go_wp2
              all_goals go_ret3
              exact LkPost.yes HV.out (below_step HB3.out HB4.out).drew
          · have HV := hide (show lkO l s h = none by rw [HE.out]; exact lkF_none (fun i x hx => HA.out i x (by have := (List.getElem?_eq_some_iff.1 hx).1; rw [HNL.out] at this; omega) hx))
            go_wp2
            go_ret3
            exact LkPost.no HV.out HBA2.out
end Go.Proofs.Ytfahiammopgflaa

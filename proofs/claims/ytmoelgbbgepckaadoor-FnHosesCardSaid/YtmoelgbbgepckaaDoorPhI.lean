/- The program reads a line. -/
import Derived.Test.YtmoelgbbgepckaaDoorPhO
import Derived.Deep.LoopGhost
namespace Go.Proofs.YtmoelgbbgepckaaDoor
open Go.RowKit
set_option linter.unusedVariables false

set_option maxRecDepth 100000 in
set_option maxHeartbeats 8000000 in
theorem implParseHoses_any (s : ByteArray) (w : World) (hs : s.size ≤ 1048576) (he : TxtEnv w) :
    Calls Tryd.prog 16 #[.string s] w (LineOut (phI s) w) := by
  obtain ⟨i0, hi0, hz0, hz1, hz2⟩ := info_parts infoHoseP
  have Hi := hide hi0
  have Hz := hide (And.intro hz0 (And.intro hz1 hz2))
  clear hi0 hz0 hz1 hz2
  have hts := trim_size s
  have HE := hide (fun W (h : Below w.heap.size w W) => he.below h)
  have Q1 := hide (fun W => trim_any s 59 W (by omega))
  have Q2 := hide (fun W (h : Below w.heap.size w W) => cuts_any (trimS s) 59 W (by omega) (HE.out W h).max)
  have Q1' : Hid (∀ W, Calls Tryd.prog 64 #[.string s, .string ⟨#[59]⟩] W fun e w' => e = .returned (.string (trimS s)) ∧ W = w') := Q1
  clear Q1
  have QW := hide (fun (v : ByteArray) (hv : v ∈ splitS (trimS s) 59) => Nat.le_trans (splitS_size _ _ hv) (Nat.le_trans hts hs))
  have QN := hide (show (splitS (trimS s) 59).length ≤ 1048577 from Nat.le_trans (splitS_len _ _) (by omega))
  have HBD := hide (fun p hp h => phI_bad (s := s) (p := p) hp h)
  have HGD := hide (fun h => phI_good (s := s) h)
  generalize trimS s = ts at *
  generalize phI s = o at *
  generalize splitS ts 59 = L at *
  clear he hts
  go_enter Tryd.func16, Tryd.ntmps16
  go_wp2_with fail
  refine (Q1'.out _).mono ?_
  rintro e w' ⟨rfl, rfl⟩
  clear Q1'
  go_wp2_with fail
  refine (Q2.out _ (Below.refl _ _)).mono ?_
  rintro e w3 ⟨⟨gw, n, rfl, hn, hgw, hrd⟩, hq⟩
  have HB3 := hide hq
  have Hn := hide hn
  have HR := hide hrd
  have hn2 : n ≤ 1048577 := by have := QN.out; omega
  have HGW := hide hgw.2
  clear hq hn hrd hgw Q2
  have HZ3 := hide (Nat.le_refl w3.heap.size)
  have HBZ := hide HB3.out.size
  generalize hN3 : w3.heap.size = N3 at HGW HBZ
  have HZ3 := hide (Nat.le_of_eq hN3.symm)
  go_wp2_with fail
  go_loopg [13, 4] n (fun g t b wr => ∃ (k : Nat) (A : Option Addr) (cap : Nat), t = .int .i64 (k : Int) ∧ b = .slice A k cap ∧ k ≤ n ∧ Hid (n ≤ g + k) ∧ Hid ((L.take k).all hokI = true) ∧ Hid (wr.ownsRow N3 40 2 (.slice A k cap) k (((L.take k).map hpI).flatMap hcells)) ∧ Hid (Rd wr (some ⟨gw, 0, none⟩) (L.map Value.string)) ∧ Hid (Below w.heap.size w wr) ∧ Hid (N3 ≤ wr.heap.size))
  case atStart => exact ⟨0, none, 0, rfl, rfl, by omega, hide (by omega), hide rfl, hide (World.ownsRow_nil _ _ _ _), HR, HB3, HZ3⟩
  case round =>
    obtain ⟨k, A, cap, rfl, rfl, hk, HGH, HAL, HO, HRR, HB, HZ⟩ := hrel
    by_cases hlt : k < n
    · obtain ⟨v, hv⟩ : ∃ v, L[k]? = some v := ⟨_, List.getElem?_eq_getElem (by rw [← Hn.out]; exact hlt)⟩
      have hvm := List.mem_of_getElem? hv
      have hvz := QW.out v hvm
      obtain ⟨b, off, e1, hbs, c0⟩ := HRR.out.get1 (k := k) (u := .string v) (by rw [List.getElem?_map, hv]; rfl)
      injection e1 with e1; injection e1 with e2 e3; subst e2; subst e3
      rw [Nat.zero_add] at c0
      by_cases hve : v = ⟨#[]⟩
      · subst hve
        have HN := hide (HBD.out _ hvm (by rfl))
        clear hv hvm hvz
        go_wp2
        go_ret2
        exact LineOut.no HN.out HB.out
      · have hne := texts_ne hve
        have hz1 : 0 < v.size := by
          rcases Nat.eq_zero_or_pos v.size with h0 | h0
          · exfalso
            apply hve
            apply bytes_eq
            exact List.eq_nil_of_length_eq_zero h0
          · exact h0
        have hie : v.toList.isEmpty = false := by
          rw [ByteArray.toList_eq, List.isEmpty_eq_false_iff]
          intro e
          have : v.data.toList.length = 0 := by rw [e]; rfl
          have h2 : v.data.toList.length = v.size := rfl
          omega
        have j1 : (1 : Int) ≤ (v.size : Int) := by omega
        have P1 := hide (readNumber_any (v.extract 1 v.size) wr (by rw [ByteArray.size_extract]; omega) (HE.out wr HB.out).num)
        have HMT := hide (map_take_succ hpI hv)
        have HKV := hide (show hokI v = rnOk (v.extract 1 v.size) by rw [hokI, decide_eq_true (by omega), Bool.true_and])
        have HAS := hide (fun h => all_take_succ hokI hv HAL.out h)
        have HVB := hide (HBD.out v hvm)
        have hb0 : (v[0].toNat : Int) < 256 := by have := v[0].toNat_lt; omega
        have HSV := hide (show hpI v = ((v[0].toNat : Int) - 97, rnV (v.extract 1 v.size)) by rw [hpI, head_at hz1])
        generalize hpI v = sv at *
        generalize hokI v = kv at *
        clear hv hvm hve
        go_wp2_with fail
        refine P1.out.mono ?_
        rintro e x1 ⟨rfl, hq⟩
        have HX := hide hq
        clear hq P1 c0
        generalize rnV (v.extract 1 v.size) = y1 at *
        generalize hk2 : rnOk (v.extract 1 v.size) = k2 at *
        clear hk2
        cases k2 with
        | false =>
          have HN := hide (HVB.out HKV.out)
          have HBX := hide (below_step HB.out HX.out)
          go_wp2
          go_ret2
          exact LineOut.no HN.out HBX.out
        | true =>
          have HRX := hide (HRR.out.below HX.out)
          have HOX := hide (own_below HO.out HX.out)
          have HBX := hide (below_step HB.out HX.out)
          have HX0 := hide HX.out.size
          clear HX HB HRR HO HVB
          have HOA := hide (World.ownsRow.alloc HOX.out (.cells #[.int .i64 ((v[0].toNat : Int) - 97), .int .i64 y1] 40))
          have HBA := hide (Row.new x1 #[.int .i64 ((v[0].toNat : Int) - 97), .int .i64 y1] 40)
          have HRA := hide (HRX.out.alloc (.cells #[.int .i64 ((v[0].toNat : Int) - 97), .int .i64 y1] 40))
          have HBW := hide (below_alloc HBX.out (.cells #[.int .i64 ((v[0].toNat : Int) - 97), .int .i64 y1] 40))
          have HSZ := hide (show N3 ≤ (x1.alloc (.cells #[.int .i64 ((v[0].toNat : Int) - 97), .int .i64 y1] 40)).heap.size from Nat.le_trans HZ.out (Nat.le_trans HX0.out (by simp)))
          clear HRX HOX HBX
          go_wp2_with (at_builtin; refine wpList_append_any rfl (.tmp 27) (.tmp 34) 26 rfl N3 40 i0 _ 2 16 Tryd.underlying26 Hi.out Hz.out.1 Hz.out.2.1 Hz.out.2.2 rfl (by decide) (.slice A k cap) k (((L.take k).map hpI).flatMap hcells) rfl HOA.out (some ⟨x1.heap.size, 0, none⟩) 1 1 (hcells ((v[0].toNat : Int) - 97, y1)) rfl rfl (fun e => by cases e) (fun ad e j u hu => by cases e; rw [Addr.add_lit, Nat.zero_add]; exact HBA.out.2.1 j u hu) (fun u hu => by simp [hcells] at hu; rcases hu with rfl | rfl <;> rfl) (by unfold maxLen; omega) (by omega) HSZ.out ?_)
          intro v6 w6 hown hgrow
          have HO6 : Hid (w6.ownsRow N3 40 2 v6 (k + 1) (((L.take (k + 1)).map hpI).flatMap hcells)) := hide (by rw [HMT.out, List.flatMap_append, HSV.out]; simpa using hown)
          have HNB := hide (fun q hq => (HOA.out.lt q hq).1)
          have HR6 := hide (HRA.out.grown hgrow (fun b off sp e e2 => by injection e with e; injection e with e3 e4 e5; subst e3; have h1 := HNB.out _ e2.symm; have h2 := HGW.out; omega))
          have HB6 := hide (HBW.out.grown hgrow HBW.out.size (fun q hq => by have h1 := HNB.out _ hq; have h2 := HBZ.out; omega))
          have HZ6 := hide (Nat.le_trans HSZ.out hgrow.size)
          clear hown hgrow HOA HBA HRA HBW HSZ
          obtain ⟨A6, c6, rfl, -⟩ := own_open HO6.out
          go_wp2
          go_roundg (gk - 1)
          case rel => exact ⟨k + 1, A6, c6, by go_num, rfl, by omega, hide (by have := HGH.out; omega), hide (HAS.out HKV.out), HO6, HR6, HB6, HZ6⟩
          case measure => have := HGH.out; omega
    · obtain rfl : k = n := by omega
      have HTA := hide (show L.all hokI = true by have h := HAL.out; rwa [List.take_of_length_le (by have := Hn.out; omega)] at h)
      have HTK := hide (show (L.take k).map hpI = L.map hpI by rw [List.take_of_length_le (by have := Hn.out; omega)])
      rw [HTK.out] at HO
      have HFL := hide (HGD.out HTA.out)
      have HLen := hide (show k = (L.map hpI).length by rw [List.length_map]; exact Hn.out)
      generalize hT : L.map hpI = T at *
      clear hT HTK HTA HAL HBD HGD QW QN HRR
      have QT := hide (isLineBig_any A k cap T wr HLen.out (by omega) (own_rd HO.out))
      have HOE := hide (own_le (B' := w.heap.size) HO.out HBZ.out)
      cases hb : lineB T with
      | false =>
        have HN := hide (show o = none by rw [HFL.out, hb]; rfl)
        rw [hb] at QT
        clear hb
        go_wp2_with fail
        refine QT.out.mono ?_
        rintro e w4 ⟨rfl, hq⟩
        have HB4 := hide (below_step HB.out hq)
        clear hq QT
        go_wp2
        go_ret2
        exact LineOut.no HN.out HB4.out
      | true =>
        rw [hb] at QT HFL
        have HK := hide hb
        clear hb
        have QX := hide (fun W (h : Below wr.heap.size wr W) => hosesText_any k cap A T W HLen.out HK.out ((own_rd HO.out).below h) (HE.out W (below_step HB.out h)).num.tab)
        have HTX := hide (show thN T k = lineText T by rw [lineText, ← HLen.out])
        go_wp2_with fail
        refine QT.out.mono ?_
        rintro e w4 ⟨rfl, hq⟩
        have HX := hide hq
        clear hq QT
        rw [HTX.out] at QX
        generalize lineText T = x at *
        go_wp2_with fail
        refine (QX.out _ HX.out).mono ?_
        rintro e w5 ⟨rfl, hq⟩
        have HX5 := hide (below_step HX.out hq)
        have HB5 := hide (below_step HB.out HX5.out)
        have HO5 := hide (own_below HOE.out HX5.out)
        clear hq QX HX HX5
        by_cases hx : x = s
        · subst hx
          have HS := hide (show o = some T by rw [HFL.out]; simp)
          go_wp2
          go_ret2
          exact LineOut.yes HS.out (by rw [← HLen.out]; exact HO5.out) HB5.out
        · have HN := hide (show o = none by rw [HFL.out]; simp [hx])
          have hne := texts_ne hx
          clear hx
          go_wp2
          go_ret2
          exact LineOut.no HN.out HB5.out
end Go.Proofs.YtmoelgbbgepckaaDoor

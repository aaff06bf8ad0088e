/- The program reads a town. -/
import Derived.Test.YtnbiknaihogknaaDoorPxPtO
import Derived.Deep.LoopGhost
namespace Go.Proofs.YtnbiknaihogknaaDoor
open Go.RowKit
set_option linter.unusedVariables false

def okW (s : ByteArray) (k : Nat) : Bool := rnOk (cutA s 58) && ((wordsI s).take k).all okI
theorem okW_succ {s v : ByteArray} {k : Nat} (h : (wordsI s)[k]? = some v) : okW s (k + 1) = (okW s k && okI v) := by
  rw [okW, okW, all_take_add okI h, Bool.and_assoc]
theorem ptI_eq (s : ByteArray) : ptI s = if okW s (wordsI s).length && townB (rnV (cutA s 58)) ((wordsI s).map strI) && decide (ttN (rnV (cutA s 58)).toNat ((wordsI s).map strI) ((wordsI s).map strI).length = s) then some (rnV (cutA s 58), (wordsI s).map strI) else none := by
  rw [okW, List.take_length]; rfl

set_option maxRecDepth 100000 in
set_option maxHeartbeats 8000000 in
theorem parseTown_any (s : ByteArray) (w : World) (hs : s.size ≤ 1048576) (he : TxtEnv w) (hf : FldEnv w) :
    Calls Tryd.prog 14 #[.string s] w (TownOut (ptI s) w) := by
  obtain ⟨i0, hi0, hz0, hz1, hz2⟩ := info_parts infoStreetP
  have Hi := hide hi0
  have Hz := hide (And.intro hz0 (And.intro hz1 hz2))
  clear hi0 hz0 hz1 hz2
  have hcs := cut_size s 58
  have HE := hide (fun W (h : Below w.heap.size w W) => he.below h)
  have HF := hide (fun W (h : Below w.heap.size w W) => hf.below h)
  have Q1 := hide (fun W (h : Below w.heap.size w W) => cut_any s 58 W (by omega) (HE.out W h).max)
  have Q2 := hide (fun W (h : Below w.heap.size w W) => readNumber_any (cutA s 58) W (by omega) (HE.out W h).num)
  have Q3 := hide (fun W (h : Below w.heap.size w W) => words_any (cutB s 58) W (by omega) (HF.out W h))
  have QW := hide (fun (v : ByteArray) (hv : v ∈ wordsI s) => Nat.le_trans (wordsF_size hv) (Nat.le_trans hcs.2 hs))
  have QN := hide (show (wordsI s).length ≤ 1048578 from Nat.le_trans (wordsF_length _) (by omega))
  have HV := hide (ptI_eq s)
  have HF0 := hide (Row.new w #[.int .i64 0, .slice none 0 0] 24)
  have H0 := hide (below_alloc (Below.refl w.heap.size w) (.cells #[.int .i64 0, .slice none 0 0] 24))
  have Q3' : Hid (∀ W, Below w.heap.size w W → Calls Tryd.prog 24 #[.string (cutB s 58)] W fun e w' => (∃ g n : Nat, e = .returned (.slice (some ⟨g, 0, none⟩) n n) ∧ n = (wordsI s).length ∧ (W.heap.size ≤ g ∧ g < w'.heap.size) ∧ Rd w' (some ⟨g, 0, none⟩) ((wordsI s).map Value.string)) ∧ Below W.heap.size W w') := Q3
  clear Q3
  have HOK0 := hide (show okW s 0 = rnOk (cutA s 58) by rw [okW]; simp)
  have HSU := hide (fun (v : ByteArray) (k : Nat) (h : (wordsI s)[k]? = some v) => okW_succ h)
  generalize ptI s = o at *
  generalize hWL : wordsI s = L at *
  clear hWL he hf hcs
  go_enter Tryd.func14, Tryd.ntmps14
  go_wp2_with fail
  refine (Q1.out _ H0.out).mono ?_
  rintro e w1 ⟨rfl, hq⟩
  have HB1 := hide (below_step H0.out hq)
  have HF1 := hide (HF0.out.below hq)
  clear hq Q1 HF0 H0
  go_wp2_with fail
  refine (Q2.out _ HB1.out).mono ?_
  rintro e w2 ⟨rfl, hq⟩
  have HB2 := hide (below_step HB1.out hq)
  have HF2 := hide (HF1.out.below hq)
  clear hq Q2 HF1
  generalize rnV (cutA s 58) = nd at *
  go_wp2_with fail
  have HG2 := hide (Row.new w2 #[.int .i64 nd, .slice none 0 0] 24)
  have HF2' := hide (HF2.out.alloc (.cells #[.int .i64 nd, .slice none 0 0] 24))
  have HB2' := hide (below_alloc HB2.out (.cells #[.int .i64 nd, .slice none 0 0] 24))
  have HN2 := hide (show w.heap.size < w2.heap.size from HF2.out.1)
  clear HF2
  refine (Q3'.out _ HB2'.out).mono ?_
  rintro e w3 ⟨⟨gw, n, rfl, hn, hgw, hrd⟩, hq⟩
  have HB3 := hide (below_step HB2'.out hq)
  have HF3 := hide (HF2'.out.below hq)
  have HG3 := hide (HG2.out.below hq)
  have Hn := hide hn
  have HR := hide hrd
  have hn2 : n ≤ 1048578 := by have := QN.out; omega
  replace hgw : w2.heap.size < gw ∧ gw < w3.heap.size := ⟨by have := hgw.1; simp at this; omega, hgw.2⟩
  clear hq hn hrd Q3' HF2' HB2' HG2
  generalize w2.heap.size = B9 at *
  have HLT := hide (show w.heap.size < B9 ∧ B9 < w3.heap.size ∧ B9 < gw ∧ gw < w3.heap.size from ⟨HN2.out, HG3.out.1, hgw⟩)
  have HBN := hide HB3.out.size
  clear hgw
  generalize hN3 : w3.heap.size = N3 at *
  go_wp2_with fail
  go_loopg [40, 8] n (fun g t b wr => ∃ (k : Nat) (A : Option Addr) (cap : Nat), t = .int .i64 (k : Int) ∧ b = .bool (okW s k) ∧ k ≤ n ∧ Hid (n ≤ g + k) ∧ Hid (Row wr B9 [.int .i64 nd, .slice A k cap]) ∧ Hid (wr.ownsRow N3 34 3 (.slice A k cap) k (((L.take k).map strI).flatMap tcells)) ∧ Hid (Row wr w.heap.size [.int .i64 0, .slice none 0 0]) ∧ Hid (Rd wr (some ⟨gw, 0, none⟩) (L.map Value.string)) ∧ Hid (Below w.heap.size w wr) ∧ Hid (N3 ≤ wr.heap.size))
  case atStart => exact ⟨0, none, 0, rfl, by rw [HOK0.out], by omega, hide (by omega), HG3, hide (World.ownsRow_nil _ _ _ _), HF3, HR, HB3, hide (by omega)⟩
  case round =>
    obtain ⟨k, A, cap, rfl, rfl, hk, HGH, HGB, HO, HFB, HRR, HB, HZ⟩ := hrel
    by_cases hlt : k < n
    · obtain ⟨v, hv⟩ : ∃ v, L[k]? = some v := ⟨_, List.getElem?_eq_getElem (by rw [← Hn.out]; exact hlt)⟩
      have hvz := QW.out v (List.mem_of_getElem? hv)
      have hc1 := cut_size v 61
      have hc2 := cut_size (cutA v 61) 45
      have HOK := hide (HSU.out v k hv)
      have HMT := hide (map_take_succ strI hv)
      obtain ⟨b, off, e1, hbs, c0⟩ := HRR.out.get1 (k := k) (u := .string v) (by rw [List.getElem?_map, hv]; rfl)
      injection e1 with e1; injection e1 with e2 e3; subst e2; subst e3
      rw [Nat.zero_add] at c0
      have P1 := hide (cut_any v 61 wr (by omega) (HE.out wr HB.out).max)
      have P2 := hide (fun W (h : Below w.heap.size w W) => cut_any (cutA v 61) 45 W (by omega) (HE.out W h).max)
      have P3 := hide (fun W (h : Below w.heap.size w W) => readNumber_any (cutA (cutA v 61) 45) W (by omega) (HE.out W h).num)
      have P4 := hide (fun W (h : Below w.heap.size w W) => readNumber_any (cutB (cutA v 61) 45) W (by omega) (HE.out W h).num)
      have P5 := hide (fun W (h : Below w.heap.size w W) => readNumber_any (cutB v 61) W (by omega) (HE.out W h).num)
      have HKV := hide (show okI v = (rnOk (cutA (cutA v 61) 45) && rnOk (cutB (cutA v 61) 45) && rnOk (cutB v 61)) from rfl)
      have HSV := hide (show strI v = (rnV (cutA (cutA v 61) 45), rnV (cutB (cutA v 61) 45), rnV (cutB v 61)) from rfl)
      generalize strI v = sv at *
      generalize okI v = kv at *
      clear hv hvz hc1 hc2
      go_wp2_with fail
      refine P1.out.mono ?_
      rintro e x1 ⟨rfl, hq⟩
      have HX := hide hq
      clear hq P1 c0
      go_wp2_with fail
      refine (P2.out _ (below_step HB.out HX.out)).mono ?_
      rintro e x2 ⟨rfl, hq⟩
      replace HX := hide (below_step HX.out hq)
      clear hq P2
      go_wp2_with fail
      refine (P3.out _ (below_step HB.out HX.out)).mono ?_
      rintro e x3 ⟨rfl, hq⟩
      replace HX := hide (below_step HX.out hq)
      clear hq P3
      go_wp2_with fail
      refine (P4.out _ (below_step HB.out HX.out)).mono ?_
      rintro e x4 ⟨rfl, hq⟩
      replace HX := hide (below_step HX.out hq)
      clear hq P4
      go_wp2_with fail
      refine (P5.out _ (below_step HB.out HX.out)).mono ?_
      rintro e x5 ⟨rfl, hq⟩
      replace HX := hide (below_step HX.out hq)
      clear hq P5
      generalize rnV (cutA (cutA v 61) 45) = y0 at *
      generalize rnV (cutB (cutA v 61) 45) = y1 at *
      generalize rnV (cutB v 61) = y2 at *
      generalize rnOk (cutA (cutA v 61) 45) = k0 at *
      generalize rnOk (cutB (cutA v 61) 45) = k1 at *
      generalize rnOk (cutB v 61) = k2 at *
      have HX0 := hide HX.out.size
      have HGX := hide (HGB.out.below HX.out)
      have HFX := hide (HFB.out.below HX.out)
      have HRX := hide (HRR.out.below HX.out)
      have HOX := hide (own_below HO.out HX.out)
      have HBX := hide (below_step HB.out HX.out)
      clear HX HB HRR HFB HGB HO
      have HOA := hide (World.ownsRow.alloc HOX.out (.cells #[.int .i64 y0, .int .i64 y1, .int .i64 y2] 34))
      have HBA := hide (Row.new x5 #[.int .i64 y0, .int .i64 y1, .int .i64 y2] 34)
      have HGA := hide (HGX.out.alloc (.cells #[.int .i64 y0, .int .i64 y1, .int .i64 y2] 34))
      have HFA := hide (HFX.out.alloc (.cells #[.int .i64 y0, .int .i64 y1, .int .i64 y2] 34))
      have HRA := hide (HRX.out.alloc (.cells #[.int .i64 y0, .int .i64 y1, .int .i64 y2] 34))
      have HBW := hide (below_alloc HBX.out (.cells #[.int .i64 y0, .int .i64 y1, .int .i64 y2] 34))
      have HSZ := hide (show N3 ≤ (x5.alloc (.cells #[.int .i64 y0, .int .i64 y1, .int .i64 y2] 34)).heap.size from Nat.le_trans HZ.out (Nat.le_trans HX0.out (by simp)))
      have a1 := HGX.out.at 1 rfl
      have f1 := HGX.out.free 1
      have z1 := HGX.out.1
      clear HGX HFX HRX HOX HBX
      generalize hbk : okW s k = b0 at *
      have HBK := hide hbk
      clear hbk
      have hsplit : b0 = false ∨ (b0 = true ∧ k0 = false) ∨ (b0 = true ∧ k0 = true ∧ k1 = false) ∨ (b0 = true ∧ k0 = true ∧ k1 = true) := by
        cases b0 <;> cases k0 <;> cases k1 <;> simp
      rcases hsplit with rfl | ⟨rfl, rfl⟩ | ⟨rfl, rfl, rfl⟩ | ⟨rfl, rfl, rfl⟩
      all_goals
        go_wp2_with (at_builtin; refine wpList_append_any rfl (.tmp 82) (.tmp 87) 22 rfl N3 34 i0 _ 3 24 Tryd.underlying22 Hi.out Hz.out.1 Hz.out.2.1 Hz.out.2.2 rfl (by decide) (.slice A k cap) k (((L.take k).map strI).flatMap tcells) rfl HOA.out (some ⟨x5.heap.size, 0, none⟩) 1 1 (tcells (y0, y1, y2)) rfl rfl (fun e => by cases e) (fun ad e j u hu => by cases e; rw [Addr.add_lit, Nat.zero_add]; exact HBA.out.2.1 j u hu) (fun u hu => by simp [tcells] at hu; rcases hu with rfl | rfl | rfl <;> rfl) (by unfold maxLen; omega) (by omega) HSZ.out ?_)
        intro v6 w6 hown hgrow
        have HO6 : Hid (w6.ownsRow N3 34 3 v6 (k + 1) (((L.take (k + 1)).map strI).flatMap tcells)) := hide (by rw [HMT.out, List.flatMap_append, HSV.out]; simpa using hown)
        have HNB := hide (fun q hq => (HOA.out.lt q hq).1)
        have HG6 := hide (HGA.out.grown hgrow (fun e => by have h1 := HNB.out _ e.symm; have h2 := HLT.out; omega))
        have HF6 := hide (HFA.out.grown hgrow (fun e => by have h1 := HNB.out _ e.symm; have h2 := HLT.out; omega))
        have HR6 := hide (HRA.out.grown hgrow (fun b off sp e e2 => by injection e with e; injection e with e3 e4 e5; subst e3; have h1 := HNB.out _ e2.symm; have h2 := HLT.out; omega))
        have HB6 := hide (HBW.out.grown hgrow HBW.out.size (fun q hq => by have h1 := HNB.out _ hq; have h2 := HLT.out; omega))
        have HZ6 := hide (Nat.le_trans HSZ.out hgrow.size)
        clear hown hgrow HOA HBA HGA HFA HRA HBW HSZ a1 f1 z1
        obtain ⟨A6, c6, rfl, -⟩ := own_open HO6.out
        have a1 := HG6.out.at 1 rfl
        have f1 := HG6.out.free 1
        have z1 := HG6.out.1
        go_wp2
        go_roundg (gk - 1)
        case rel =>
          have hn6 : ∀ q, (Value.slice A6 (k + 1) c6).ownBlock = some q → N3 ≤ q := fun q hq => (HO6.out.lt q hq).1
          refine ⟨k + 1, A6, c6, by go_num, by rw [HOK.out, HKV.out]; rfl, by omega, hide (by have := HGH.out; omega), hide ((HG6.out.set (by simp) _).cast rfl), hide (own_kept HO6.out (grown_set (g := B9) _ rfl) (fun q hq e => by injection e with e; have h1 := hn6 q hq; have h2 := HLT.out; omega)), hide (HF6.out.grown (grown_set (g := B9) _ rfl) (fun e => by injection e with e; have h2 := HLT.out; omega)), hide (HR6.out.grown (grown_set (g := B9) _ rfl) (fun b off sp e e2 => by injection e with e; injection e with e3 e4 e5; injection e2 with e2; subst e3; have h2 := HLT.out; omega)), hide (HB6.out.setCell (by have h2 := HLT.out; simp; omega) _), hide (by have := HZ6.out; simpa using this)⟩
        case measure => have := HGH.out; omega
    · obtain rfl : k = n := by omega
      have HTK := hide (show (L.take k).map strI = L.map strI by rw [List.take_of_length_le (by have := Hn.out; omega)])
      rw [HTK.out] at HO
      have HFL := hide (show o = if (okW s k && townB nd (L.map strI) && decide (ttN nd.toNat (L.map strI) k = s)) then some (nd, L.map strI) else none by rw [HV.out, ← Hn.out]; simp [← Hn.out])
      have HLen := hide (show k = (L.map strI).length by rw [List.length_map]; exact Hn.out)
      have e0 := HFB.out.at 0 rfl
      have e1 := HFB.out.at 1 rfl
      have f0 := HFB.out.free 0
      have f1 := HFB.out.free 1
      have QT := hide (implisTown_any B9 nd A k cap (L.map strI) wr HLen.out (by unfold maxLen; omega) (own_rd HO.out) HGB.out.1 (HGB.out.at 0 rfl) (HGB.out.at 1 rfl))
      generalize hT : L.map strI = T at *
      clear hT HTK HSU HV QW QN
      cases hk0 : okW s k with
      | false =>
        have HN := hide (show o = none by rw [HFL.out, hk0]; rfl)
        clear hk0 QT
        go_wp2
        exact bodyPost_ret (v := .tuple #[.agg #[.int .i64 0, .slice none 0 0], .bool false]) (by simp [results, Tryd.results14, go_sem, *]) rfl (TownOut.no HN.out ((HB.out.setCell (by simp) _).setCell (by simp) _))
      | true =>
        cases hb : townB nd T with
        | false =>
          have HN := hide (show o = none by rw [HFL.out, hk0, hb]; rfl)
          rw [hb] at QT
          clear hk0 hb e0 e1 f0 f1
          go_wp2_with fail
          refine QT.out.mono ?_
          rintro e w4 ⟨rfl, hq⟩
          have HB4 := hide (below_step HB.out hq)
          have HF4 := hide (HFB.out.below hq)
          have e0 := HF4.out.at 0 rfl
          have e1 := HF4.out.at 1 rfl
          have f0 := HF4.out.free 0
          have f1 := HF4.out.free 1
          clear hq QT
          go_wp2
          exact bodyPost_ret (v := .tuple #[.agg #[.int .i64 0, .slice none 0 0], .bool false]) (by simp [results, Tryd.results14, go_sem, *]) rfl (TownOut.no HN.out ((HB4.out.setCell (by simp) _).setCell (by simp) _))
        | true =>
          obtain ⟨kk, rfl, hK⟩ := townB_ok hb
          rw [hb] at QT
          rw [hk0, hb] at HFL
          have HKK := hide hK
          clear hk0 hb e0 e1 f0 f1 hK
          go_wp2_with fail
          refine QT.out.mono ?_
          rintro e w4 ⟨rfl, hq⟩
          have HB4 := hide (below_step HB.out hq)
          have HF4 := hide (HFB.out.below hq)
          have HG4 := hide (HGB.out.below hq)
          have HO4 := hide (own_below HO.out hq)
          clear hq QT HB HFB HGB HO
          have QX := hide (text_any B9 kk k cap A T w4 HLen.out HKK.out (own_rd HO4.out) (HG4.out.at 0 rfl) (HG4.out.at 1 rfl) (HE.out _ HB4.out).num.tab)
          rw [Int.toNat_natCast] at HFL
          generalize ttN kk T k = x at *
          go_wp2_with fail
          refine QX.out.mono ?_
          rintro e w5 ⟨rfl, hq⟩
          have HB5 := hide (below_step HB4.out hq)
          have HF5 := hide (HF4.out.below hq)
          have HG5 := hide (HG4.out.below hq)
          have HO5 := hide (own_below HO4.out hq)
          have e0 := HF5.out.at 0 rfl
          have e1 := HF5.out.at 1 rfl
          have f0 := HF5.out.free 0
          have f1 := HF5.out.free 1
          have d0 := HG5.out.at 0 rfl
          have d1 := HG5.out.at 1 rfl
          clear hq QX HB4 HF4 HG4 HO4
          by_cases hx : x = s
          · subst hx
            have HS := hide (show o = some ((kk : Int), T) by rw [HFL.out]; simp)
            have HOE := hide (own_le (B' := w.heap.size) HO5.out (by have := HLT.out; omega))
            have HOL := hide (fun q hq => (HO5.out.lt q hq).1)
            have HKP : Hid (∀ (W : World) (o : Nat) (u : Value), W.ownsRow w.heap.size 34 3 (.slice A k cap) k (T.flatMap tcells) → (W.setCell ⟨w.heap.size, o, none⟩ u).ownsRow w.heap.size 34 3 (.slice A k cap) k (T.flatMap tcells)) := hide (fun W o u h => own_kept h (grown_set (g := w.heap.size) u rfl) (fun q hq e => by injection e with e; have h1 := HOL.out q hq; have h2 := HLT.out; omega))
            clear HOL
            go_wp2
            exact bodyPost_ret (v := .tuple #[.agg #[.int .i64 (kk : Int), .slice A k cap], .bool true]) (by simp [results, Tryd.results14, go_sem, *]) rfl (TownOut.yes HS.out (by rw [← HLen.out]; exact HKP.out _ _ _ (HKP.out _ _ _ HOE.out)) ((HB5.out.setCell (by simp) _).setCell (by simp) _))
          · have HN := hide (show o = none by rw [HFL.out]; simp [hx])
            have hne := texts_ne hx
            clear hx
            go_wp2
            exact bodyPost_ret (v := .tuple #[.agg #[.int .i64 0, .slice none 0 0], .bool false]) (by simp [results, Tryd.results14, go_sem, *]) rfl (TownOut.no HN.out ((HB5.out.setCell (by simp) _).setCell (by simp) _))
end Go.Proofs.YtnbiknaihogknaaDoor

/- The reference reads a net. -/
import Derived.Test.YtmoelgbbgepckaaDoorPyPnO
import Derived.Test.YtmoelgbbgepckaaDoorPyNetWm
namespace Go.Proofs.YtmoelgbbgepckaaDoor
open Go.RowKit
set_option linter.unusedVariables false

theorem pnS_no1 {s : ByteArray} (h : 300 < s.size) : pnS s = none := by rw [pnS, decide_eq_false (by omega)]; rfl
theorem pnS_no2 {s : ByteArray} (h : 21 < (splitS s 32).length) : pnS s = none := by
  rw [pnS, decide_eq_false (show ¬ (splitS s 32).length ≤ 21 by omega)]
  simp
theorem pnS_eq {s : ByteArray} (h1 : s.size ≤ 300) (h2 : (splitS s 32).length ≤ 21) : pnS s = if netB (pnRun (splitS s 32)).M (pnRun (splitS s 32)).H && decide (nxT (pnRun (splitS s 32)).M (pnRun (splitS s 32)).H = s) then some ((pnRun (splitS s 32)).M, (pnRun (splitS s 32)).H) else none := by
  rw [pnS, decide_eq_true h1, decide_eq_true h2]
  rfl
theorem run_succ {L : List ByteArray} {k : Nat} {v : ByteArray} (h : L[k]? = some v) : pnRun (L.take (k + 1)) = pnStep (pnRun (L.take k)) v := by
  rw [pnRun, List.take_add_one, h, List.foldl_append]; rfl
theorem step_bar (st : PnSt) : pnStep st ⟨#[124]⟩ = ⟨true, st.M, st.H⟩ := by rw [pnStep, if_pos rfl]
theorem step_hyd {st : PnSt} {v : ByteArray} (h : v ≠ ⟨#[124]⟩) (hh : st.h = true) : pnStep st v = ⟨true, st.M, st.H ++ [pairS 58 v]⟩ := by
  rw [pnStep, if_neg h, if_pos hh]
  cases st
  simp only at hh
  rw [hh]
theorem step_main {st : PnSt} {v : ByteArray} (h : v ≠ ⟨#[124]⟩) (hh : st.h = false) : pnStep st v = ⟨false, st.M ++ [pairS 47 v], st.H⟩ := by
  rw [pnStep, if_neg h, if_neg (by rw [hh]; decide)]
  cases st
  simp only at hh
  rw [hh]

set_option maxRecDepth 100000 in
set_option maxHeartbeats 8000000 in
theorem specParseNet_any (s : ByteArray) (w : World) (hs : s.size ≤ 1048576) :
    Calls Tryd.prog 37 #[.string s] w (NetOut (pnS s) w) := by
  obtain ⟨i0, hi0, hz0, hz1, hz2⟩ := info_parts infoMainP
  have Hi := hide hi0
  have Hz := hide (And.intro hz0 (And.intro hz1 hz2))
  clear hi0 hz0 hz1 hz2
  obtain ⟨j0, hi0, hz0, hz1, hz2⟩ := info_parts infoHydP
  have Hj := hide hi0
  have Hy := hide (And.intro hz0 (And.intro hz1 hz2))
  clear hi0 hz0 hz1 hz2
  have Q := hide (fun W => split_any s 32 W (by omega))
  have HF0 := hide (Row.new w #[.slice none 0 0, .slice none 0 0] 57)
  have H0 := hide (below_alloc (Below.refl w.heap.size w) (.cells #[.slice none 0 0, .slice none 0 0] 57))
  have QW := hide (fun (v : ByteArray) (hv : v ∈ splitS s 32) => Nat.le_trans (splitS_size _ _ hv) hs)
  have QN := hide (splitS_len s 32)
  have N1 := hide (fun h => pnS_no1 (s := s) h)
  have N2 := hide (fun h => pnS_no2 (s := s) h)
  have N4 := hide (fun h1 h2 => pnS_eq (s := s) h1 h2)
  generalize pnS s = o at *
  generalize splitS s 32 = L at *
  go_enter Tryd.func37, Tryd.ntmps37
  go_wp2_with fail
  refine (Q.out _).mono ?_
  rintro e w1 ⟨⟨v, rfl, ho⟩, hq⟩
  obtain ⟨A0, c0, rfl, hrd, -⟩ := own_open ho
  have HR := hide hrd
  have HB := hide (below_step H0.out hq)
  have HF := hide (HF0.out.below hq)
  have HOW := hide ho
  obtain ⟨n, hn⟩ : ∃ n, n = L.length := ⟨_, rfl⟩
  rw [← hn]
  have Hn := hide hn
  have hnz : n ≤ s.size + 1 := by have := QN.out; omega
  clear hq ho hrd Q H0 HF0 hn QN
  by_cases h1 : 300 < s.size
  · have HN := hide (N1.out h1)
    have g1 : (300 : Int) < (s.size : Int) := by omega
    have e0 := HF.out.2.1 0 _ rfl
    have e1 := HF.out.2.1 1 _ rfl
    have f0 := HF.out.free 0
    have f1 := HF.out.free 1
    clear h1 N1 N2 N4
    go_wp2
    exact bodyPost_ret (v := .tuple #[.agg #[.slice none 0 0, .slice none 0 0], .bool false]) (by simp [results, Tryd.results37, go_sem, *]) rfl (NetOut.no HN.out ((HB.out.setCell (by simp) _).setCell (by simp) _))
  · have g1 : ¬ (300 : Int) < (s.size : Int) := by omega
    by_cases h2 : 21 < n
    · have HN := hide (N2.out (by have := Hn.out; omega))
      have g2 : (21 : Int) < (n : Int) := by omega
      have e0 := HF.out.2.1 0 _ rfl
      have e1 := HF.out.2.1 1 _ rfl
      have f0 := HF.out.free 0
      have f1 := HF.out.free 1
      clear h1 h2 N1 N2 N4
      go_wp2
      exact bodyPost_ret (v := .tuple #[.agg #[.slice none 0 0, .slice none 0 0], .bool false]) (by simp [results, Tryd.results37, go_sem, *]) rfl (NetOut.no HN.out ((HB.out.setCell (by simp) _).setCell (by simp) _))
    · have g2 : ¬ (21 : Int) < (n : Int) := by omega
      have HV := hide (N4.out (by omega) (by have := Hn.out; omega))
      have hn21 : n ≤ 21 := by omega
      clear h1 h2 N1 N2 N4 hnz
      have HT0 := hide (Row.new w1 #[.slice none 0 0, .slice none 0 0] 57)
      have HFA := hide (HF.out.alloc (.cells #[.slice none 0 0, .slice none 0 0] 57))
      have HRA := hide (HR.out.alloc (.cells #[.slice none 0 0, .slice none 0 0] 57))
      have HBA := hide (below_alloc HB.out (.cells #[.slice none 0 0, .slice none 0 0] 57))
      have HTW := hide (show w.heap.size < w1.heap.size from HF.out.1)
      have HAL := hide (fun b off sp (e : A0 = some ⟨b, off, sp⟩) => show b < w1.heap.size by
        have h := own_open HOW.out
        obtain ⟨A', c', hv, -, -, -, -, h7⟩ := h
        injection hv with hv1
        exact (h7 b off sp (hv1 ▸ e)).2.2.2.1)
      have e0 := HT0.out.2.1 0 _ rfl
      clear HF HR HB HOW e0
      go_wp2_with fail
      generalize hW : w1.alloc (.cells #[.slice none 0 0, .slice none 0 0] 57) = W1 at *
      have HSZ := hide (show W1.heap.size = w1.heap.size + 1 by rw [← hW]; simp)
      clear hW
      generalize w1.heap.size = tb at *
      obtain ⟨N3, hN3⟩ : ∃ N3, N3 = tb + 1 := ⟨_, rfl⟩
      have HN3 := hide hN3
      have HZ0 := hide (show N3 ≤ W1.heap.size by rw [HSZ.out, hN3]; exact Nat.le_refl _)
      clear hN3 HSZ
      go_loopg [27, 6] n (fun g t b wr => ∃ (k : Nat) (st : PnSt) (A B : Option Addr) (ca cb : Nat), t = .int .i64 (k : Int) ∧ b = .bool st.h ∧ k ≤ n ∧ Hid (n ≤ g + k) ∧ Hid (st = pnRun (L.take k)) ∧ st.M.length ≤ k ∧ st.H.length ≤ k ∧ Hid (Row wr tb [.slice A st.M.length ca, .slice B st.H.length cb]) ∧ Hid (wr.ownsRow N3 120 2 (.slice A st.M.length ca) st.M.length (st.M.flatMap mcells)) ∧ Hid (wr.ownsRow N3 118 2 (.slice B st.H.length cb) st.H.length (st.H.flatMap mcells)) ∧ Hid (Row wr w.heap.size [.slice none 0 0, .slice none 0 0]) ∧ Hid (Rd wr A0 (strV L)) ∧ Hid (Below w.heap.size w wr) ∧ Hid (N3 ≤ wr.heap.size))
      case atStart => exact ⟨0, ⟨false, [], []⟩, none, none, 0, 0, rfl, rfl, by omega, hide (by omega), hide rfl, Nat.le_refl _, Nat.le_refl _, HT0, hide (World.ownsRow_nil _ _ _ _), hide (World.ownsRow_nil _ _ _ _), HFA, HRA, HBA, HZ0⟩
      case round =>
        obtain ⟨k, ⟨h, M, H⟩, A, B, ca, cb, rfl, rfl, hk, HGH, HST, hML, hHL, HGB, HO, HP, HFB, HRR, HB, HZ⟩ := hrel
        dsimp only at hML hHL HGB HO HP ⊢
        by_cases hlt : k < n
        · obtain ⟨v, hv⟩ : ∃ v, L[k]? = some v := ⟨_, List.getElem?_eq_getElem (by rw [← Hn.out]; exact hlt)⟩
          have hvm := List.mem_of_getElem? hv
          have hvz := QW.out v hvm
          have HRS := hide (run_succ hv)
          obtain ⟨b, off, rfl, hbs, c0⟩ := HRR.out.get1 (k := k) (u := .string v) (strV_at hv)
          have HBT := hide (HAL.out b off none rfl)
          by_cases hbar : v = ⟨#[124]⟩
          · subst hbar
            have HS1 := hide (show (⟨true, M, H⟩ : PnSt) = pnRun (L.take (k + 1)) by rw [HRS.out, ← HST.out, step_bar])
            clear hv hvm hvz
            go_wp2
            go_roundg (gk - 1)
            case rel => exact ⟨k + 1, ⟨true, M, H⟩, A, B, ca, cb, by go_num, rfl, by omega, hide (by have := HGH.out; omega), HS1, by dsimp only; omega, by dsimp only; omega, HGB, HO, HP, HFB, HRR, HB, HZ⟩
            case measure => have := HGH.out; omega
          · have hne := texts_ne hbar
            have hne2 : (v.toList == [124]) = false := by
              rw [ByteArray.toList_eq, beq_eq_false_iff_ne]
              exact fun e => hbar (bytes_eq e)
            have HML := hide hML
            have HHL := hide hHL
            cases h with
            | true =>
              have P1 := hide (hyPair_any v 58 wr (by omega))
              have HS1 := hide (show (⟨true, M, H ++ [pairS 58 v]⟩ : PnSt) = pnRun (L.take (k + 1)) by rw [HRS.out, ← HST.out, step_hyd hbar rfl])
              clear hv hvm hvz hbar hML hHL
              generalize pairS 58 v = pr at *
              obtain ⟨y0, y1⟩ := pr
              dsimp only at P1
              go_wp2_with fail
              refine P1.out.mono ?_
              rintro e x1 ⟨rfl, hq⟩
              have HX := hide hq
              clear hq P1 c0
              have HGX := hide (HGB.out.below HX.out)
              have HFX := hide (HFB.out.below HX.out)
              have HRX := hide (HRR.out.below HX.out)
              have HOX := hide (own_below HO.out HX.out)
              have HPX := hide (own_below HP.out HX.out)
              have HBX := hide (below_step HB.out HX.out)
              have HX0 := hide HX.out.size
              clear HX HGB HFB HRR HO HP HB
              have HGA := hide (HGX.out.alloc (.cells #[.int .i64 y0, .int .i64 y1] 118))
              have HFA := hide (HFX.out.alloc (.cells #[.int .i64 y0, .int .i64 y1] 118))
              have HRA := hide (HRX.out.alloc (.cells #[.int .i64 y0, .int .i64 y1] 118))
              have HOA := hide (World.ownsRow.alloc HOX.out (.cells #[.int .i64 y0, .int .i64 y1] 118))
              have HPA := hide (World.ownsRow.alloc HPX.out (.cells #[.int .i64 y0, .int .i64 y1] 118))
              have HSB := hide (Row.new x1 #[.int .i64 y0, .int .i64 y1] 118)
              have HBW := hide (below_alloc HBX.out (.cells #[.int .i64 y0, .int .i64 y1] 118))
              have HSZ := hide (show N3 ≤ (x1.alloc (.cells #[.int .i64 y0, .int .i64 y1] 118)).heap.size from Nat.le_trans HZ.out (Nat.le_trans HX0.out (by simp)))
              have a1 := HGX.out.2.1 1 _ rfl
              have z1 := HGX.out.1
              have hlen : H.length ≤ 20 := by have h1 := HML.out; have h2 := HHL.out; omega
              clear HGX HFX HRX HOX HPX HBX HZ
              go_wp2_with (at_builtin; refine wpList_append_any rfl (.tmp 55) (.tmp 59) 55 rfl N3 118 j0 _ 2 16 Tryd.underlying55 Hj.out Hy.out.1 Hy.out.2.1 Hy.out.2.2 rfl (by decide) (.slice B H.length cb) H.length (H.flatMap mcells) rfl HPA.out (some ⟨x1.heap.size, 0, none⟩) 1 1 (mcells (y0, y1)) rfl rfl (fun e => by cases e) (fun ad e j u hu => by cases e; rw [Addr.add_lit, Nat.zero_add]; exact HSB.out.2.1 j u hu) (fun u hu => by simp [mcells] at hu; rcases hu with rfl | rfl <;> rfl) (by unfold maxLen; omega) (by omega) HSZ.out ?_)
              intro v6 w6 hown hgrow
              have HNB := hide (fun q hq => (HPA.out.lt q hq).1)
              have HN6 := hide (show w6.ownsRow N3 118 2 v6 (H ++ [(y0, y1)]).length ((H ++ [(y0, y1)]).flatMap mcells) by rw [List.flatMap_append, List.length_append]; simpa using hown)
              have HE6 := hide (own_kept HOA.out hgrow (fun q hq e => own_two HOA.out HPA.out q _ hq e.symm rfl))
              have HG6 := hide (HGA.out.grown hgrow (fun e => by have h1 := HNB.out _ e.symm; have h2 := HN3.out; omega))
              have HF6 := hide (HFA.out.grown hgrow (fun e => by have h1 := HNB.out _ e.symm; have h2 := HN3.out; have h3 := HTW.out; omega))
              have HR6 := hide (HRA.out.grown hgrow (fun b off sp e e2 => by injection e with e; injection e with e3 e4 e5; subst e3; have h1 := HNB.out _ e2.symm; have h2 := HN3.out; have h3 := HBT.out; omega))
              have HB6 := hide (HBW.out.grown hgrow HBW.out.size (fun q hq => by have h1 := HNB.out _ hq; have h2 := HN3.out; have h3 := HTW.out; omega))
              have HZ6 := hide (Nat.le_trans HSZ.out hgrow.size)
              have HLN := hide (show (H ++ [(y0, y1)]).length = H.length + 1 by simp)
              clear hown hgrow HOA HPA HGA HFA HRA HBW HSB HSZ a1 z1
              obtain ⟨A6, c6, rfl, -⟩ := own_open HN6.out
              have a1 := HG6.out.2.1 1 _ rfl
              have f1 := HG6.out.free 1
              have z1 := HG6.out.1
              generalize hLL : H ++ [(y0, y1)] = LL at *
              clear hLL
              go_wp2
              go_roundg (gk - 1)
              case rel =>
                refine ⟨k + 1, ⟨true, M, LL⟩, A, A6, ca, c6, by go_num, rfl, by omega, hide (by have := HGH.out; omega), HS1, by dsimp only; have h1 := HML.out; have h2 := HLN.out; omega, by dsimp only; have h1 := HHL.out; have h2 := HLN.out; omega, hide ((HG6.out.set (by simp) _).cast rfl), hide (own_kept HE6.out (grown_set (g := tb) _ rfl) (fun q hq e => by injection e with e; have h1 := (HE6.out.lt q hq).1; have h2 := HN3.out; omega)), hide (own_kept HN6.out (grown_set (g := tb) _ rfl) (fun q hq e => by injection e with e; have h1 := (HN6.out.lt q hq).1; have h2 := HN3.out; omega)), hide (HF6.out.grown (grown_set (g := tb) _ rfl) (fun e => by injection e with e; have h2 := HTW.out; omega)), hide (HR6.out.grown (grown_set (g := tb) _ rfl) (fun b off sp e e2 => by injection e with e; injection e with e3 e4 e5; injection e2 with e2; subst e3; have h2 := HBT.out; omega)), hide (HB6.out.setCell (by have h2 := HTW.out; simp; omega) _), hide (by have := HZ6.out; simpa using this)⟩
              case measure => have := HGH.out; omega
            | false =>
              have P1 := hide (hyPair_any v 47 wr (by omega))
              have HS1 := hide (show (⟨false, M ++ [pairS 47 v], H⟩ : PnSt) = pnRun (L.take (k + 1)) by rw [HRS.out, ← HST.out, step_main hbar rfl])
              clear hv hvm hvz hbar hML hHL
              generalize pairS 47 v = pr at *
              obtain ⟨y0, y1⟩ := pr
              dsimp only at P1
              go_wp2_with fail
              refine P1.out.mono ?_
              rintro e x1 ⟨rfl, hq⟩
              have HX := hide hq
              clear hq P1 c0
              have HGX := hide (HGB.out.below HX.out)
              have HFX := hide (HFB.out.below HX.out)
              have HRX := hide (HRR.out.below HX.out)
              have HOX := hide (own_below HO.out HX.out)
              have HPX := hide (own_below HP.out HX.out)
              have HBX := hide (below_step HB.out HX.out)
              have HX0 := hide HX.out.size
              clear HX HGB HFB HRR HO HP HB
              have HGA := hide (HGX.out.alloc (.cells #[.int .i64 y0, .int .i64 y1] 120))
              have HFA := hide (HFX.out.alloc (.cells #[.int .i64 y0, .int .i64 y1] 120))
              have HRA := hide (HRX.out.alloc (.cells #[.int .i64 y0, .int .i64 y1] 120))
              have HOA := hide (World.ownsRow.alloc HOX.out (.cells #[.int .i64 y0, .int .i64 y1] 120))
              have HPA := hide (World.ownsRow.alloc HPX.out (.cells #[.int .i64 y0, .int .i64 y1] 120))
              have HSB := hide (Row.new x1 #[.int .i64 y0, .int .i64 y1] 120)
              have HBW := hide (below_alloc HBX.out (.cells #[.int .i64 y0, .int .i64 y1] 120))
              have HSZ := hide (show N3 ≤ (x1.alloc (.cells #[.int .i64 y0, .int .i64 y1] 120)).heap.size from Nat.le_trans HZ.out (Nat.le_trans HX0.out (by simp)))
              have a1 := HGX.out.2.1 0 _ rfl
              have z1 := HGX.out.1
              have hlen : M.length ≤ 20 := by have h1 := HML.out; have h2 := HHL.out; omega
              clear HGX HFX HRX HOX HPX HBX HZ
              go_wp2_with (at_builtin; refine wpList_append_any rfl (.tmp 37) (.tmp 41) 54 rfl N3 120 i0 _ 2 16 Tryd.underlying54 Hi.out Hz.out.1 Hz.out.2.1 Hz.out.2.2 rfl (by decide) (.slice A M.length ca) M.length (M.flatMap mcells) rfl HOA.out (some ⟨x1.heap.size, 0, none⟩) 1 1 (mcells (y0, y1)) rfl rfl (fun e => by cases e) (fun ad e j u hu => by cases e; rw [Addr.add_lit, Nat.zero_add]; exact HSB.out.2.1 j u hu) (fun u hu => by simp [mcells] at hu; rcases hu with rfl | rfl <;> rfl) (by unfold maxLen; omega) (by omega) HSZ.out ?_)
              intro v6 w6 hown hgrow
              have HNB := hide (fun q hq => (HOA.out.lt q hq).1)
              have HN6 := hide (show w6.ownsRow N3 120 2 v6 (M ++ [(y0, y1)]).length ((M ++ [(y0, y1)]).flatMap mcells) by rw [List.flatMap_append, List.length_append]; simpa using hown)
              have HE6 := hide (own_kept HPA.out hgrow (fun q hq e => own_two HOA.out HPA.out _ q e.symm hq rfl))
              have HG6 := hide (HGA.out.grown hgrow (fun e => by have h1 := HNB.out _ e.symm; have h2 := HN3.out; omega))
              have HF6 := hide (HFA.out.grown hgrow (fun e => by have h1 := HNB.out _ e.symm; have h2 := HN3.out; have h3 := HTW.out; omega))
              have HR6 := hide (HRA.out.grown hgrow (fun b off sp e e2 => by injection e with e; injection e with e3 e4 e5; subst e3; have h1 := HNB.out _ e2.symm; have h2 := HN3.out; have h3 := HBT.out; omega))
              have HB6 := hide (HBW.out.grown hgrow HBW.out.size (fun q hq => by have h1 := HNB.out _ hq; have h2 := HN3.out; have h3 := HTW.out; omega))
              have HZ6 := hide (Nat.le_trans HSZ.out hgrow.size)
              have HLN := hide (show (M ++ [(y0, y1)]).length = M.length + 1 by simp)
              clear hown hgrow HOA HPA HGA HFA HRA HBW HSB HSZ a1 z1
              obtain ⟨A6, c6, rfl, -⟩ := own_open HN6.out
              have a1 := HG6.out.2.1 0 _ rfl
              have f1 := HG6.out.free 0
              have z1 := HG6.out.1
              generalize hLL : M ++ [(y0, y1)] = LL at *
              clear hLL
              go_wp2
              go_roundg (gk - 1)
              case rel =>
                refine ⟨k + 1, ⟨false, LL, H⟩, A6, B, c6, cb, by go_num, rfl, by omega, hide (by have := HGH.out; omega), HS1, by dsimp only; have h1 := HML.out; have h2 := HLN.out; omega, by dsimp only; have h1 := HHL.out; have h2 := HLN.out; omega, hide ((HG6.out.set (by simp) _).cast rfl), hide (own_kept HN6.out (grown_set (g := tb) _ rfl) (fun q hq e => by injection e with e; have h1 := (HN6.out.lt q hq).1; have h2 := HN3.out; omega)), hide (own_kept HE6.out (grown_set (g := tb) _ rfl) (fun q hq e => by injection e with e; have h1 := (HE6.out.lt q hq).1; have h2 := HN3.out; omega)), hide (HF6.out.grown (grown_set (g := tb) _ rfl) (fun e => by injection e with e; have h2 := HTW.out; omega)), hide (HR6.out.grown (grown_set (g := tb) _ rfl) (fun b off sp e e2 => by injection e with e; injection e with e3 e4 e5; injection e2 with e2; subst e3; have h2 := HBT.out; omega)), hide (HB6.out.setCell (by have h2 := HTW.out; simp; omega) _), hide (by have := HZ6.out; simpa using this)⟩
              case measure => have := HGH.out; omega
        · obtain rfl : k = n := by omega
          have HTK := hide (show (⟨h, M, H⟩ : PnSt) = pnRun L by rw [HST.out, List.take_of_length_le (by have := Hn.out; omega)])
          have HFL := hide (show o = if netB M H && decide (nxT M H = s) then some (M, H) else none by rw [HV.out, ← HTK.out])
          have QT := hide (fun W (hb : Below wr.heap.size wr W) => hyGood_any A B M.length ca H.length cb M H W rfl rfl (by unfold maxLen; omega) (by unfold maxLen; omega) ⟨(own_rd HO.out).below hb, (own_rd HP.out).below hb⟩)
          have d0 := HGB.out.2.1 0 _ rfl
          have d1 := HGB.out.2.1 1 _ rfl
          have z1 := HGB.out.1
          clear HST HRR HV QW HTK HAL
          generalize hml : M.length = lm at *
          generalize hhl : H.length = lh at *
          have HLM := hide hml
          have HLH := hide hhl
          clear hml hhl
          cases hb : netB M H with
          | false =>
            have HN := hide (show o = none by rw [HFL.out, hb]; rfl)
            rw [hb] at QT
            clear hb
            go_wp2_with fail
            refine (QT.out _ (Below.refl _ _)).mono ?_
            rintro e w5 ⟨rfl, hq⟩
            have HB6 := hide (below_step HB.out hq)
            have HF6 := hide (HFB.out.below hq)
            clear hq QT d0 d1 z1
            have e0 := HF6.out.2.1 0 _ rfl
            have e1 := HF6.out.2.1 1 _ rfl
            have f0 := HF6.out.free 0
            have f1 := HF6.out.free 1
            go_wp2
            exact bodyPost_ret (v := .tuple #[.agg #[.slice none 0 0, .slice none 0 0], .bool false]) (by simp [results, Tryd.results37, go_sem, *]) rfl (NetOut.no HN.out ((HB6.out.setCell (by simp) _).setCell (by simp) _))
          | true =>
            have HKK := hide (netB_ok hb)
            rw [hb] at QT HFL
            clear hb
            have QX := hide (fun W (hb : Below wr.heap.size wr W) => hyText_any lm ca lh cb A B M H W HLM.out.symm HLH.out.symm HKK.out ⟨(own_rd HO.out).below hb, (own_rd HP.out).below hb⟩)
            generalize nxT M H = x at *
            go_wp2_with fail
            refine (QT.out _ (Below.refl _ _)).mono ?_
            rintro e w5 ⟨rfl, hq⟩
            have HX := hide hq
            have HG6 := hide (HGB.out.below hq)
            clear hq QT d0 d1 z1
            have d0 := HG6.out.2.1 0 _ rfl
            have d1 := HG6.out.2.1 1 _ rfl
            have z1 := HG6.out.1
            go_wp2_with fail
            refine (QX.out _ HX.out).mono ?_
            rintro e w6 ⟨rfl, hq⟩
            have HX7 := hide (below_step HX.out hq)
            have HB7 := hide (below_step HB.out HX7.out)
            have HF7 := hide (HFB.out.below HX7.out)
            have HG7 := hide (HGB.out.below HX7.out)
            have HO7 := hide (own_below HP.out HX7.out)
            have HM7 := hide (own_below HO.out HX7.out)
            clear hq QX HX HX7 d0 d1 z1 HB HFB HGB HO HP HG6
            have e0 := HF7.out.2.1 0 _ rfl
            have e1 := HF7.out.2.1 1 _ rfl
            have f0 := HF7.out.free 0
            have f1 := HF7.out.free 1
            have d0 := HG7.out.2.1 0 _ rfl
            have d1 := HG7.out.2.1 1 _ rfl
            by_cases hx : x = s
            · subst hx
              have HS := hide (show o = some (M, H) by rw [HFL.out]; simp)
              have HBN := hide (show w.heap.size ≤ N3 by have h1 := HTW.out; have h2 := HN3.out; omega)
              have HOE := hide (own_le (B' := w.heap.size) HO7.out HBN.out)
              have HME := hide (own_le (B' := w.heap.size) HM7.out HBN.out)
              have HK1 : Hid (∀ (W : World) (o1 : Nat) (u : Value), W.ownsRow w.heap.size 118 2 (.slice B lh cb) lh (H.flatMap mcells) → (W.setCell ⟨w.heap.size, o1, none⟩ u).ownsRow w.heap.size 118 2 (.slice B lh cb) lh (H.flatMap mcells)) := hide (fun W o1 u h => own_kept h (grown_set (g := w.heap.size) u rfl) (fun q hq e => by injection e with e; have h1 := (HO7.out.lt q hq).1; have h2 := HN3.out; have h3 := HTW.out; omega))
              have HK2 : Hid (∀ (W : World) (o1 : Nat) (u : Value), W.ownsRow w.heap.size 120 2 (.slice A lm ca) lm (M.flatMap mcells) → (W.setCell ⟨w.heap.size, o1, none⟩ u).ownsRow w.heap.size 120 2 (.slice A lm ca) lm (M.flatMap mcells)) := hide (fun W o1 u h => own_kept h (grown_set (g := w.heap.size) u rfl) (fun q hq e => by injection e with e; have h1 := (HM7.out.lt q hq).1; have h2 := HN3.out; have h3 := HTW.out; omega))
              clear HO7 HM7
              go_wp2
              exact bodyPost_ret (v := .tuple #[.agg #[.slice A lm ca, .slice B lh cb], .bool true]) (by simp [results, Tryd.results37, go_sem, *]) rfl (NetOut.yes HS.out (by rw [HLM.out]; exact HK2.out _ _ _ (HK2.out _ _ _ HME.out)) (by rw [HLH.out]; exact HK1.out _ _ _ (HK1.out _ _ _ HOE.out)) ((HB7.out.setCell (by simp) _).setCell (by simp) _))
            · have HN := hide (show o = none by rw [HFL.out]; simp [hx])
              have hne := texts_ne hx
              clear hx
              go_wp2
              exact bodyPost_ret (v := .tuple #[.agg #[.slice none 0 0, .slice none 0 0], .bool false]) (by simp [results, Tryd.results37, go_sem, *]) rfl (NetOut.no HN.out ((HB7.out.setCell (by simp) _).setCell (by simp) _))
end Go.Proofs.YtmoelgbbgepckaaDoor

/- Filled flows: what the program's and the reference's return. -/
import Derived.Test.YtangiabihgohcaaNetGs
import Derived.Test.YtangiabihgohcaaNetX
import Derived.Test.YtangiabihgohcaaNetI
import Derived.Test.YtangiabihgohcaaRegionsS
namespace Go.Proofs.Ytangiabihgohcaa
open Go.RowKit
set_option linter.unusedVariables false

theorem fill_feas {M H : List (Int × Int)} (hk : NetOk M H) {F : List Int} (hr : risB 0 ((H.length : Int) - 1) F = true) : ∀ j, j ≤ F.length → Feas M H (fillD M H F j)
  | 0, _ => feas_zero hk
  | j + 1, hj => by
    have ih := fill_feas hk hr j (by omega)
    have hx : F[j]? = some F[j] := List.getElem?_eq_getElem (by omega)
    obtain ⟨x0, x1⟩ := risB_mem hr (List.mem_of_getElem? hx)
    obtain ⟨i, hi⟩ := Int.eq_ofNat_of_zero_le x0
    rw [hi] at hx x1
    have hh : H[i]? = some (H[i]'(by omega)) := List.getElem?_eq_getElem (by omega)
    rw [fillD_succ hx hh]
    refine feas_step hk ih hh (fillD_out j (fun q hq e => ?_) (fun x h => (risB_mem hr h).1))
    have := risB_lt hr (j - q - 1) q _ _ e (show F[q + (j - q - 1) + 1]? = some (i : Int) by rw [show q + (j - q - 1) + 1 = j by omega]; exact hx)
    omega
theorem feas_flows {M H : List (Int × Int)} (hk : NetOk M H) {d : Nat → Int} (hf : Feas M H d) : ∀ (i : Nat) (h : Int × Int) (f : Int), H[i]? = some h → (listD H.length d)[i]? = some f → 0 ≤ f ∧ f ≤ 5000 := by
  intro i h f hh hd
  have hil := (List.getElem?_eq_some_iff.1 hh).1
  rw [listD_get hil] at hd
  injection hd with hd
  have h1 := hf.each i hil
  rw [most_some hh] at h1
  have h2 := hk.hyd i h hh
  omega
theorem listD_rd {w : World} {B g m : Nat} {d : Nat → Int} (h : OwnD w B g m d) : Rd w (some ⟨g, 0, none⟩) ((listD m d).map (Value.int .i64)) := by
  have := own_rd h
  rwa [show rowOf m d = (listD m d).map (Value.int .i64) from by simp [rowOf, listD]] at this

def fiL (M H : List (Int × Int)) (F : List Int) : List Int := if openB M H F then listD H.length (fillD M H F F.length) else []
theorem fiL_length (M H : List (Int × Int)) (F : List Int) : (fiL M H F).length ≤ 1048576 := by
  unfold fiL
  split
  · next h =>
    rw [openB, Bool.and_eq_true] at h
    have := (netB_ok h.1).h10
    rw [listD_length]; omega
  · simp
theorem fi_no {M H : List (Int × Int)} {F : List Int} (h : openB M H F = false) : fiL M H F = [] := by rw [fiL, h]; rfl
theorem fi_yes {M H : List (Int × Int)} {F : List Int} (h : openB M H F = true) : fiL M H F = listD H.length (fillD M H F F.length) := by rw [fiL, h]; rfl

set_option maxRecDepth 100000 in
set_option maxHeartbeats 8000000 in
theorem implFilledFlows_any (A B C : Option Addr) (n c m d k ecap : Nat) (M H : List (Int × Int)) (F : List Int) (w : World) (hn : n = M.length) (hm : m = H.length) (hnm : n ≤ maxLen) (hmm : m ≤ maxLen) (hkF : k = F.length) (hkm : k ≤ maxLen) (hr : NetRd w A B M H) (hf : Rd w C (F.map (Value.int .i64))) :
    Calls Try.prog 33 #[.agg #[.slice A n c, .slice B m d], .slice C k ecap] w (AskPost (openB M H F) (fiL M H F) w) := by
  have hc := cell_new2 w (.slice A n c) (.slice B m d) 31
  have Q := hide (implisNet_any w.heap.size A B n c m d M H (w.alloc (.cells #[.slice A n c, .slice B m d] 31)) hn hm hnm hmm (hr.alloc _) hc.1 hc.2)
  have Hn := hide hn
  have Hm := hide hm
  have HkF := hide hkF
  have Hr := hide hr
  have Hf := hide hf
  clear hn hm hkF hr hf
  cases hN : netB M H with
  | false =>
    rw [hN] at Q
    have HE := hide (openB_no (F := F) hN)
    clear hN hc
    go_enter Try.func33, Try.ntmps33
    go_wp2_with (go_at_call 54; ((with_reducible refine (Q.out).mono ?_); rintro e w1 ⟨rfl, hb1⟩); obtain ⟨hc1, hf1⟩ := bcell hb1)
    go_ret2
    exact AskPost.no HE.out (fi_no HE.out) (by repeat (first | exact Below.refl _ _ | refine below_step ?_ (by assumption) | refine below_step ?_ (Later.below _) | refine below_alloc ?_ _ | refine Below.drew ?_ | refine Below.setCell ?_ (by first | (simp; done) | (simp; omega)) _))
  | true =>
    have hk := netB_ok hN
    have HK := hide hk
    have HE := hide (show openB M H F = risB 0 ((m : Int) - 1) F by rw [openB_eq hN, ← show m = H.length from Hm.out])
    rw [hN] at Q
    have hm10 : m ≤ 10 := by have := hk.h10; have := Hm.out; omega
    have hn10 : n ≤ 10 := by have := hk.m10; have := Hn.out; omega
    clear hN hk
    go_enter Try.func33, Try.ntmps33
    go_wp2_with fail
    refine Q.out.mono ?_
    rintro e w1 ⟨rfl, hq⟩
    have HW1 : Hid (Below w.heap.size w w1) := hide (below_step (below_alloc (Below.refl _ _) _) hq)
    have a0 := cell_on hc.1 hq
    have a1 := cell_on hc.2 hq
    clear hq Q hc
    have QA := areOpen_any w.heap.size B m d C k ecap F w1 (by omega) HkF.out hkm (Hf.out.below HW1.out) a1
    cases hff : risB 0 ((m : Int) - 1) F with
    | false =>
      rw [hff] at QA
      have HE' := hide (show openB M H F = false by rw [HE.out, hff])
      clear hff
      go_wp2_with fail
      refine QA.mono ?_
      rintro e w' ⟨rfl, rfl⟩
      go_wp2
      go_ret2
      exact AskPost.no HE'.out (fi_no HE'.out) HW1.out
    | true =>
      rw [hff] at QA
      have HE' := hide (show openB M H F = true by rw [HE.out, hff])
      have HL := hide (risB_length hff)
      have hk10 : k ≤ 10 := by have := HL.out; have := HkF.out; omega
      have HF := hide (fun (x : Int) (hx : x ∈ F) => show 0 ≤ x ∧ x < (m : Int) by have := risB_mem hff hx; omega)
      have HFE := hide (fun (j : Nat) (hj : j ≤ F.length) => fill_feas HK.out (F := F) (by rw [← show m = H.length from Hm.out]; exact hff) j hj)
      have HPY := hide (fun (w' : World) (e' : Ending) (h : AskPost true (fiL M H F) w e' w') => (show AskPost (openB M H F) (fiL M H F) w e' w' by rw [HE'.out]; exact h))
      obtain ⟨i0, hi, hz0, hz1, hz2⟩ := info_parts infoIntT
      have hmk := fun W => run_makeN (P := Try.prog) 35 3 Try.underlying35 hi hz0 m (by rw [hz2]; omega) (by omega) W
      rw [hz1] at hmk
      simp only [Value.cells, Nat.mul_one] at hmk
      have HO0 := hide (OwnD.new (d := fun _ => 0) w1 w.heap.size m HW1.out.size (by unfold maxLen; omega) _ (made_zero m))
      have HB0 : Hid (Below w.heap.size w (w1.alloc (.cells (madeCells #[.int .i64 0] m) 3))) := hide (below_alloc HW1.out _)
      have HC0 := hide a0
      have HC1 := hide a1
      clear hff hi hz0 hz1 hz2
      go_wp2_with fail
      refine QA.mono ?_
      rintro e w' ⟨rfl, rfl⟩
      clear QA
      go_wp2_with fail
      clear hmk a0
      have HB1 : Hid (Below w1.heap.size w1 (w1.alloc (.cells (madeCells #[.int .i64 0] m) 3))) := hide (below_alloc (Below.refl _ _) _)
      generalize w1.alloc (.cells (madeCells #[.int .i64 0] m) 3) = W at *
      have hbz : w.heap.size < w1.heap.size := World.block_lt_of_cell? w1 _ HC0.out
      go_loopw [26] (fun t wr => ∃ j : Nat, j ≤ k ∧ t = .int .i64 j ∧ Hid (OwnD wr w.heap.size w1.heap.size m (fillD M H F j)) ∧ Hid (Below w1.heap.size w1 wr)) (fun t _ => k - (intOf t).toNat)
      case atStart => exact ⟨0, by omega, rfl, HO0, HB1⟩
      case round =>
        obtain ⟨j, hj, rfl, HO, HB⟩ := hrel
        clear HO0 HB0 HB1
        by_cases hlt : j < k
        · obtain ⟨x, hh⟩ : ∃ f, F[j]? = some f := ⟨_, List.getElem?_eq_getElem (by rw [← HkF.out]; exact hlt)⟩
          obtain ⟨x00, x01⟩ := HF.out x (List.mem_of_getElem? hh)
          obtain ⟨i, rfl⟩ := Int.eq_ofNat_of_zero_le x00
          have him : i < m := by omega
          obtain ⟨⟨y0, y1⟩, hy⟩ : ∃ h, H[i]? = some h := ⟨_, List.getElem?_eq_getElem (by rw [← Hm.out]; exact him)⟩
          obtain ⟨z0, z1, z2, z3⟩ := HK.out.hyd i _ hy
          have HWB := hide (below_step HW1.out HB.out)
          obtain ⟨b, off, rfl, hbs, c0⟩ := (Hf.out.below HWB.out).get1 (u := .int .i64 (i : Int)) (by rw [List.getElem?_map, hh]; rfl)
          have HS := hide (fillD_succ (M := M) hh hy)
          have HFS := hide (feas_flows HK.out (HFE.out j (by have := HkF.out; omega)))
          have HFD := hide (loadsN_bd HK.out HFS.out)
          have HY := hide hy
          have q0 := cell_on HC0.out HB.out
          have q1 := cell_on HC1.out HB.out
          have hx0 : y0 < n := by have := Hn.out; dsimp only at z1; omega
          have HMEM := hide (fun (x : Nat) (h : x ∈ wayL M y0) => wayL_mem HK.out (by have := Hn.out; omega) h)
          have HWL : Hid ((wayL M y0).length ≤ 10) := hide (by have := wayL_length M y0; omega)
          dsimp only at z0 z1 z2 z3 HS
          clear hh hy x00 x01 z1
          go_wp2_with fail
          refine (loads_any w.heap.size A B (some ⟨w1.heap.size, 0, none⟩) n c m d m _ M H (listD m (fillD M H F j)) wr Hn.out Hm.out HK.out listD_length.symm (Nat.le_refl _) (by rw [show m = H.length from Hm.out]; exact HFS.out) (Hr.out.below HWB.out) (listD_rd HO.out) q0 q1).mono ?_
          rintro e w2 ⟨⟨g2, rfl, ho2⟩, hq2⟩
          have HO2 := hide ho2
          have HB2 := hide (below_step HB.out hq2)
          have HO1 := hide (HO.out.below hq2)
          have q0 := cell_on q0 hq2
          have q1 := cell_on q1 hq2
          have hg2 : w1.heap.size < g2 := by have h1 := HO2.out.lt.1; have h2 := HO.out.lt.2; omega
          obtain ⟨b', off', rfl, hbs', d0, d1⟩ := (Hr.out.below (below_step HW1.out HB2.out)).2.get2 (fun _ => rfl) HY.out rfl
          dsimp only at d0 d1
          clear ho2 hq2 HO
          go_wp2_with fail
          refine (way_any w.heap.size A (some ⟨b', off', none⟩) n c m d i M H y0 y1 w2 Hn.out Hm.out HK.out HY.out (Hr.out.below (below_step HW1.out HB2.out)) q0 q1).mono ?_
          rintro e w3 ⟨⟨v, rfl, ho⟩, hq3⟩
          obtain ⟨A', cap, rfl, -⟩ := own_open ho
          have HV := hide ho
          have HO3 := hide (HO2.out.below hq3)
          have HO4 := hide (HO1.out.below hq3)
          have HB3 := hide (below_step HB2.out hq3)
          have hg3 : w.heap.size < w2.heap.size := by have := HB2.out.size; omega
          clear ho hq3 q0 q1 d0 d1 c0 HO2 HO1
          generalize hL : (wayL M y0).length = L at *
          have HLL := hide hL
          have hL10 : L ≤ 10 := HWL.out
          clear hL
          go_wp2_with fail
          have HFLT : Hid (w1.heap.size < w3.heap.size) := hide (HO4.out.lt.2)
          go_loopw [10, 41] (fun v t wr => ∃ i : Nat, i ≤ L ∧ t = .int .i64 i ∧ v = .int .i64 (capL M (loadsF M H (listD m (fillD M H F j))) ((wayL M y0).take i) y1) ∧ Hid (Below w3.heap.size w3 wr)) (fun _ t _ => L - (intOf t).toNat)
          case atStart => exact ⟨0, by omega, rfl, by simp [capL], hide (Below.refl _ _)⟩
          case round =>
            obtain ⟨p, hp, rfl, rfl, HBi⟩ := hrel
            by_cases hil : p < L
            · obtain ⟨q, hq⟩ : ∃ q, (wayL M y0)[p]? = some q := ⟨_, List.getElem?_eq_getElem (by rw [HLL.out]; exact hil)⟩
              have hqn : q < n := by rw [show n = M.length from Hn.out]; exact HMEM.out q (List.mem_of_getElem? hq)
              obtain ⟨b2, off2, rfl, hbs2, c1⟩ := ((own_rd HV.out).below HBi.out).get1 (natL_get hq)
              have HT := hide (show (wayL M y0).take (p + 1) = (wayL M y0).take p ++ [q] by rw [List.take_add_one, hq]; rfl)
              obtain ⟨⟨p0, p1⟩, hpm⟩ : ∃ h, M[q]? = some h := ⟨_, List.getElem?_eq_getElem (by rw [← Hn.out]; exact hqn)⟩
              have HBA := hide (below_step HB3.out HBi.out)
              obtain ⟨b3, off3, rfl, hbs3, e0, e1⟩ := (Hr.out.below (below_step HW1.out HBA.out)).1.get2 (fun _ => rfl) hpm rfl
              obtain ⟨-, -, l0, l1⟩ := HK.out.main q _ hpm
              have HLM := hide (lim_some hpm)
              have q0 := cell_on HC0.out HBA.out
              have g0 := (HO3.out.below HBi.out).cell hqn
              have hz3 := (HO3.out.below HBi.out).lt.2
              have hbd := HFD.out (listD m (fillD M H F j)).length q
              rw [listD_length, ← show m = H.length from Hm.out] at hbd
              rw [show loadsN M H (listD m (fillD M H F j)) m = loadsF M H (listD m (fillD M H F j)) by rw [loadsF, listD_length]] at hbd
              have hbz3 := World.block_lt_of_cell? wr _ q0
              dsimp only at e0 e1 l0 l1 HLM hbz3
              have HSN := hide (capL_snoc M (loadsF M H (listD m (fillD M H F j))) ((wayL M y0).take p) q y1)
              generalize hD : loadsF M H (listD m (fillD M H F j)) q = D at *
              have HD := hide hD
              have e5 : IntKind.i64.wrap (p1 - D) = p1 - D := IntWalk.i64_in _ (by omega)
              clear hq hpm hD hbd
              generalize hCC : capL M (loadsF M H (listD m (fillD M H F j))) ((wayL M y0).take p) y1 = cc at *
              have HCC := hide hCC
              clear hCC
              go_wp2_with fail
              go_region
              all_goals go_wp2
              all_goals go_roundw
              case rel => exact ⟨p + 1, by omega, by go_num, by rw [HT.out, HSN.out, HLM.out]; simp only [Value.int.injEq, true_and]; split <;> omega, hide HBi.out.drew⟩
              case measure => simp [intOf]; omega
            · have HE := hide (show capL M (loadsF M H (listD m (fillD M H F j))) ((wayL M y0).take p) y1 = capL M (loadsF M H (listD m (fillD M H F j))) (wayL M y0) y1 by rw [List.take_of_length_le (by have := HLL.out; omega)])
              have HOi := hide (HO4.out.below HBi.out)
              have HBA := hide (below_step HB3.out HBi.out)
              have g0 := HOi.out.cell him
              have g1 := HOi.out.free i
              have hz4 := HOi.out.lt.2
              rw [HE.out]
              have HS' := hide (show fillD M H F (j + 1) = upd (fillD M H F j) i (capL M (loadsF M H (listD m (fillD M H F j))) (wayL M y0) y1) by rw [HS.out, ← show m = H.length from Hm.out])
              generalize capL M (loadsF M H (listD m (fillD M H F j))) (wayL M y0) y1 = cc at *
              have HSET := hide (HOi.out.set him cc)
              have HBS : Hid (Below w1.heap.size w1 (wr.setCell ⟨w1.heap.size, i, none⟩ (.int .i64 cc))) := hide (HBA.out.setCell (Nat.le_refl _) _)
              go_wp2
              go_roundw
              case rel => exact ⟨j + 1, by omega, by go_num, hide (by rw [HS'.out]; exact HSET.out), HBS⟩
              case measure => simp [intOf]; omega
        · have HE := hide (show fillD M H F j = fillD M H F F.length by rw [← show k = F.length from HkF.out, show j = k by omega])
          go_wp2
          go_ret2
          refine HPY.out _ _ ?_
          exact AskPost.yes (by rw [fi_yes HE'.out, ← HE.out, ← show m = H.length from Hm.out]; rfl) HO.out (Nat.le_refl _) (below_step HW1.out HB.out)
end Go.Proofs.Ytangiabihgohcaa

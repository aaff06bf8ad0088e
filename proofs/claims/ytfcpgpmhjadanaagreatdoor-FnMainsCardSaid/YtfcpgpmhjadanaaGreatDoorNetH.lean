/- Nets' loads: the reference's loop. -/
import Derived.Test.YtfcpgpmhjadanaaGreatDoorNetG
namespace Go.Proofs.YtfcpgpmhjadanaaGreatDoor
open Go.RowKit
set_option linter.unusedVariables false

set_option maxRecDepth 100000 in
set_option maxHeartbeats 8000000 in
theorem hyLoads_any (A B C : Option Addr) (n c m d k e : Nat) (M H : List (Int × Int)) (F : List Int) (w : World) (hn : n = M.length) (hm : m = H.length) (hk : NetOk M H) (hkF : k = F.length) (hkm : k ≤ m) (hF : ∀ (i : Nat) (h : Int × Int) (f : Int), H[i]? = some h → F[i]? = some f → 0 ≤ f ∧ f ≤ 5000) (hr : NetRd w A B M H) (hf : Rd w C (F.map (Value.int .i64))) :
    Calls Tryz.prog 33 #[.agg #[.slice A n c, .slice B m d], .slice C k e] w (LoadsPost (loadsF M H F) n w) := by
  have h1 := hk.m1
  have h2 := hk.m10
  have h3 := hk.h10
  have hn10 : n ≤ 10 := by omega
  have hk10 : k ≤ 10 := by omega
  obtain ⟨i0, hi, hz0, hz1, hz2⟩ := info_parts infoIntT
  have hmk := fun W => run_makeN (P := Tryz.prog) 28 3 Tryz.underlying28 hi hz0 n (by rw [hz2]; omega) (by omega) W
  rw [hz1] at hmk
  simp only [Value.cells, Nat.mul_one] at hmk
  have hcA := cell_new2 w (.slice A n c) (.slice B m d) 27
  have HBA : Hid (Below w.heap.size w (w.alloc (.cells #[.slice A n c, .slice B m d] 27))) := hide (below_alloc (Below.refl _ _) _)
  have HRA := hide (hr.alloc (.cells #[.slice A n c, .slice B m d] 27))
  have HFA := hide (hf.alloc (.cells #[.slice A n c, .slice B m d] 27))
  have HZA := hide (show (w.alloc (.cells #[.slice A n c, .slice B m d] 27)).heap.size = w.heap.size + 1 by simp)
  have hzA : w.heap.size < (w.alloc (.cells #[.slice A n c, .slice B m d] 27)).heap.size := by simp
  have Hn := hide hn
  have Hm := hide hm
  have HK := hide hk
  have HkF := hide hkF
  have HF := hide hF
  have HBD := hide (loadsN_bd hk hF)
  clear hn hm hk hkF hF hr hf hi hz0 hz1 hz2 h1 h2 h3
  go_enter Tryz.func33, Tryz.ntmps33
  go_wp2_with fail
  generalize w.alloc (.cells #[.slice A n c, .slice B m d] 27) = W0 at *
  have HO0 := hide (OwnD.new (d := fun _ => 0) W0 w.heap.size n (by have := HZA.out; omega) (by unfold maxLen; omega) _ (made_zero n))
  have HB0 : Hid (Below w.heap.size w (W0.alloc (.cells (madeCells #[.int .i64 0] n) 3))) := hide (below_alloc HBA.out _)
  have HB1 : Hid (Below W0.heap.size W0 (W0.alloc (.cells (madeCells #[.int .i64 0] n) 3))) := hide (below_alloc (Below.refl _ _) _)
  clear hmk
  rw [HZA.out] at HO0
  generalize W0.alloc (.cells (madeCells #[.int .i64 0] n) 3) = W at *
  go_loopw [15] (fun t wr => ∃ j : Nat, j ≤ k ∧ t = .int .i64 j ∧ Hid (OwnD wr w.heap.size (w.heap.size + 1) n (loadsN M H F j)) ∧ Hid (Below w.heap.size w wr ∧ Below W0.heap.size W0 wr)) (fun t _ => k - (intOf t).toNat)
  case atStart => exact ⟨0, by omega, rfl, HO0, hide ⟨HB0.out, HB1.out⟩⟩
  case round =>
    obtain ⟨j, hj, rfl, HO, HB⟩ := hrel
    clear HO0 HB0 HB1
    by_cases hlt : j < k
    · obtain ⟨f, hh⟩ : ∃ f, F[j]? = some f := ⟨_, List.getElem?_eq_getElem (by rw [← HkF.out]; exact hlt)⟩
      obtain ⟨⟨x0, x1⟩, hx⟩ : ∃ h, H[j]? = some h := ⟨_, List.getElem?_eq_getElem (by rw [← Hm.out]; omega)⟩
      obtain ⟨b, off, rfl, hbs, c0⟩ := (HFA.out.below HB.out.2).get1 (u := .int .i64 f) (by rw [List.getElem?_map, hh]; rfl)
      obtain ⟨bh, oh, rfl, hbh, d0, d1⟩ := (HRA.out.2.below HB.out.2).get2 (fun _ => rfl) hx rfl
      obtain ⟨f0, f1⟩ := HF.out j _ f hx hh
      have HS := hide (loadsN_succ (M := M) hx hh)
      obtain ⟨y0, y1, -, -⟩ := HK.out.hyd j _ hx
      have hx0 : x0 < n := by have := Hn.out; dsimp only at y1; omega
      have hx00 : 0 ≤ x0 := y0
      have HWL : Hid ((wayL M x0).length ≤ 10) := hide (by have := wayL_length M x0; omega)
      have HMEM := hide (fun (x : Nat) (h : x ∈ wayL M x0) => wayL_mem HK.out (by have := Hn.out; omega) h)
      have q0 := cell_on hcA.1 HB.out.2
      have q1 := cell_on hcA.2 HB.out.2
      have hjm : j < m := by omega
      have hwz := Nat.lt_of_lt_of_le hzA HB.out.2.size
      clear hx hh y1 y0
      dsimp only at HS d0 d1
      obtain ⟨wo, rfl⟩ : ∃ wo, wo = wr := ⟨_, rfl⟩
      go_wp2_with fail
      go_loopw [8] (fun t wr => ∃ (P : List Nat) (a : Int), t = .int .i64 a ∧ -1 ≤ a ∧ a < n ∧ Hid (P ++ wayL M a = wayL M x0) ∧ Hid (OwnD wr w.heap.size (w.heap.size + 1) n (addAll (loadsN M H F j) f P)) ∧ Hid (Below w.heap.size w wr ∧ Below W0.heap.size W0 wr)) (fun t _ => (intOf t + 1).toNat)
      case atStart => exact ⟨[], x0, rfl, by omega, by omega, hide rfl, HO, HB⟩
      case round =>
        obtain ⟨P, a, rfl, ha0, ha1, HP, HOi, HBi⟩ := hrel
        clear q0 q1 d0 d1 c0 hwz
        by_cases h0 : 0 ≤ a
        · obtain ⟨q, rfl⟩ := Int.eq_ofNat_of_zero_le h0
          have hqn : q < n := by omega
          obtain ⟨⟨p0, p1⟩, hp⟩ : ∃ h, M[q]? = some h := ⟨_, List.getElem?_eq_getElem (by rw [← Hn.out]; exact hqn)⟩
          have hpl := HK.out.par_lt (k := q) (by rw [← Hn.out]; exact hqn)
          rw [par_some hp] at hpl
          obtain ⟨hp1, hp2⟩ := hpl
          dsimp only at hp1 hp2
          have HW := hide (show wayL M q = q :: wayL M p0 by rw [wayL_step HK.out (by rw [← Hn.out]; exact hqn), par_some hp])
          have hbd := (Bd.addAll f0 f1 P (HBD.out j)) q
          have hlen : P.length ≤ 10 := by have := HWL.out; rw [← HP.out, List.length_append] at this; omega
          have HSN := hide (addAll_snoc (loadsN M H F j) f P q)
          have HPN : Hid ((P ++ [q]) ++ wayL M p0 = wayL M x0) := hide (by rw [List.append_assoc, List.singleton_append, ← HW.out]; exact HP.out)
          have hzi := HOi.out.lt.2
          generalize hD : addAll (loadsN M H F j) f P = D at *
          have Hp := hide hp
          have dd0 := HOi.out.cell hqn
          have dd1 := HOi.out.free q
          have e1 : IntKind.i64.wrap (D q + f) = D q + f := IntWalk.i64_in _ (by omega)
          have HSET := hide (HOi.out.set hqn (D q + f))
          have HBS1 : Hid (Below w.heap.size w (wr.setCell ⟨w.heap.size + 1, q, none⟩ (.int .i64 (D q + f)))) := hide (HBi.out.1.setCell (by simp) _)
          have HBS2 : Hid (Below W0.heap.size W0 (wr.setCell ⟨w.heap.size + 1, q, none⟩ (.int .i64 (D q + f)))) := hide (HBi.out.2.setCell (by rw [HZA.out]; exact Nat.le_refl _) _)
          obtain ⟨b', off', rfl, hbs', c0', c1'⟩ := (HRA.out.1.below HBS2.out).get2 (fun _ => rfl) Hp.out rfl
          have q0 := cell_on hcA.1 HBS2.out
          have hwz := Nat.lt_of_lt_of_le hzA HBS2.out.size
          dsimp only at c0' c1'
          clear hp h0 hbd hlen HOi hD
          go_wp2
          go_roundw
          case rel => exact ⟨P ++ [q], p0, rfl, by omega, by omega, HPN, hide (by rw [HSN.out]; exact HSET.out), hide ⟨HBS1.out, HBS2.out⟩⟩
          case measure => simp [intOf]; omega
        · have HE := hide (show loadsN M H F (j + 1) = addAll (loadsN M H F j) f P by
            have := HP.out
            rw [wayL_neg M a (by omega), List.append_nil] at this
            rw [HS.out, this])
          go_wp2
          go_roundw
          case rel => exact ⟨j + 1, by omega, by go_num, hide (by rw [HE.out]; exact HOi.out), HBi⟩
          case measure => simp [intOf]; omega
    · have HE := hide (show loadsN M H F j = loadsF M H F by rw [loadsF, ← show k = F.length from HkF.out, show j = k by omega])
      go_wp2
      go_ret
      exact ⟨⟨_, rfl, by rw [← HE.out]; exact HO.out⟩, HB.out.1⟩
end Go.Proofs.YtfcpgpmhjadanaaGreatDoor

/- Greatest sums: the program's walk. -/
import Derived.Test.YtfcpgpmhjadanaaNetU
import Derived.Test.YtfcpgpmhjadanaaNetQ
import Derived.Test.YtfcpgpmhjadanaaNetT
namespace Go.Proofs.Ytfcpgpmhjadanaa
open Go.RowKit
set_option linter.unusedVariables false

set_option maxRecDepth 100000 in
set_option maxHeartbeats 8000000 in
theorem greatest_any (b0 : Nat) (A B C : Option Addr) (n c m d k e : Nat) (M H : List (Int × Int)) (F : List Int) (w : World) (hn : n = M.length) (hm : m = H.length) (hk : NetOk M H) (hkF : k = F.length) (hk10 : k ≤ 10) (hF : ∀ x ∈ F, 0 ≤ x ∧ x < m) (hr : NetRd w A B M H) (hf : Rd w C (F.map (Value.int .i64))) (hc0 : w.cell? ⟨b0, 0, none⟩ = some (.slice A n c)) (hc1 : w.cell? ⟨b0, 1, none⟩ = some (.slice B m d)) :
    Calls Try.prog 30 #[.pointer (some ⟨b0, 0, none⟩), .slice C k e] w fun e w' => e = .returned (.int .i64 (sumM M H F 0)) ∧ Below w.heap.size w w' := by
  have h1 := hk.m1
  have h2 := hk.m10
  have h3 := hk.h10
  have hn1 : 1 ≤ n := by omega
  have hn10 : n ≤ 10 := by omega
  have hm10 : m ≤ 10 := by omega
  obtain ⟨i0, hi, hz0, hz1, hz2⟩ := info_parts infoIntT
  have hmk := fun W => run_makeN (P := Try.prog) 28 3 Try.underlying28 hi hz0 n (by rw [hz2]; omega) (by omega) W
  rw [hz1] at hmk
  simp only [Value.cells, Nat.mul_one] at hmk
  have HO0 := hide (OwnD.new (d := fun _ => 0) w w.heap.size n (Nat.le_refl _) (by unfold maxLen; omega) _ (made_zero n))
  have HB0 : Hid (Below w.heap.size w (w.alloc (.cells (madeCells #[.int .i64 0] n) 3))) := hide (below_alloc (Below.refl _ _) _)
  have Hn := hide hn
  have Hm := hide hm
  have HK := hide hk
  have HkF := hide hkF
  have HF := hide hF
  have HBB := hide (fun q => baseN_bd hk F q)
  have HDB := hide (fun (k i : Nat) (h1 : k ≤ n) (h2 : i < n) => downN_bd hk F (by omega) (k := k) (i := i) (by omega) (by omega))
  have Hr := hide hr
  have Hf := hide hf
  have HC0 := hide hc0
  have HC1 := hide hc1
  have hb0 := World.block_lt_of_cell? w _ hc0
  dsimp only at hb0
  clear hn hm hk hkF hF hr hf hc1 hi hz0 hz1 hz2 h1 h2 h3
  go_enter Try.func30, Try.ntmps30
  go_wp2_with fail
  clear hmk hc0
  generalize w.alloc (.cells (madeCells #[.int .i64 0] n) 3) = W at *
  go_loopw [18] (fun t wr => ∃ j : Nat, j ≤ k ∧ t = .int .i64 j ∧ Hid (OwnD wr w.heap.size w.heap.size n (fun i => if i < n then baseN H F j i else 0)) ∧ Hid (Below w.heap.size w wr)) (fun t _ => k - (intOf t).toNat)
  case atStart => exact ⟨0, by omega, rfl, hide (HO0.out.congr (fun i hi => by simp [baseN])), HB0⟩
  case round =>
    obtain ⟨j, hj, rfl, HO, HB⟩ := hrel
    clear HO0 HB0
    by_cases hlt : j < k
    · obtain ⟨x, hh⟩ : ∃ f, F[j]? = some f := ⟨_, List.getElem?_eq_getElem (by rw [← HkF.out]; exact hlt)⟩
      obtain ⟨x00, x01⟩ := HF.out x (List.mem_of_getElem? hh)
      obtain ⟨i, rfl⟩ := Int.eq_ofNat_of_zero_le x00
      have him : i < m := by omega
      obtain ⟨⟨y0, y1⟩, hy⟩ : ∃ h, H[i]? = some h := ⟨_, List.getElem?_eq_getElem (by rw [← Hm.out]; exact him)⟩
      obtain ⟨z0, z1, z2, z3⟩ := HK.out.hyd i _ hy
      obtain ⟨q, rfl⟩ := Int.eq_ofNat_of_zero_le z0
      have hqn : q < n := by have := Hn.out; dsimp only at z1; omega
      obtain ⟨b, off, rfl, hbs, c0⟩ := (Hf.out.below HB.out).get1 (u := .int .i64 (i : Int)) (by rw [List.getElem?_map, hh]; rfl)
      obtain ⟨b', off', rfl, hbs', d0, d1⟩ := (Hr.out.below HB.out).2.get2 (fun _ => rfl) hy rfl
      have HS := hide (baseN_upd hh hy (q := q) rfl)
      have hbd := HBB.out q j
      have q0 := cell_on HC0.out HB.out
      have q1 := cell_on HC1.out HB.out
      have g0 := HO.out.cell hqn
      have g1 := HO.out.free q
      have hzi := HO.out.lt.2
      have hbz := Nat.lt_of_lt_of_le hb0 HB.out.size
      rw [if_pos hqn] at g0
      dsimp only at d0 d1 z2 z3 HS
      have e1 : IntKind.i64.wrap (baseN H F j q + y1) = baseN H F j q + y1 := IntWalk.i64_in _ (by omega)
      have HSET := hide (HO.out.set hqn (baseN H F j q + y1))
      have HBS : Hid (Below w.heap.size w (wr.setCell ⟨w.heap.size, q, none⟩ (.int .i64 (baseN H F j q + y1)))) := hide (HB.out.setCell (Nat.le_refl _) _)
      generalize baseN H F j q = s at *
      clear hh hy x00 x01 z0 z1 hbd HO
      go_wp2_with fail
      go_region
      go_wp2
      go_roundw
      case rel =>
        refine ⟨j + 1, by omega, by go_num, hide ?_, hide HBS.out.drew⟩
        rw [HS.out]
        refine HSET.out.congr (fun i hi => ?_)
        unfold upd
        by_cases hiq : i = q
        · subst hiq; simp [hi]
        · simp [hiq, hi]
      case measure => simp [intOf]; omega
    · have hjk : j = F.length := by have := HkF.out; omega
      have HO1 : Hid (OwnD wr w.heap.size w.heap.size n (downN M H F n)) := hide (HO.out.congr (fun i hi => by rw [if_pos hi, hjk, show n = M.length from Hn.out, downN_top (by have := Hn.out; omega)]))
      have HB1 := hide HB.out
      clear HO hjk HB
      obtain ⟨wo, rfl⟩ : ∃ wo, wo = wr := ⟨_, rfl⟩
      have e2 : IntKind.i64.wrap ((n : Int) - 1) = (n : Int) - 1 := IntWalk.i64_in _ (by omega)
      go_wp2_with fail
      go_loopw [8] (fun t wr => ∃ (k : Nat) (a : Int), k ≤ n ∧ a = (k : Int) - 1 ∧ t = .int .i64 a ∧ Hid (OwnD wr w.heap.size w.heap.size n (downN M H F k)) ∧ Hid (Below w.heap.size w wr)) (fun t _ => (intOf t + 1).toNat)
      case atStart => exact ⟨n, _, by omega, rfl, rfl, HO1, HB1⟩
      case round =>
        obtain ⟨k, a, hk, ha, rfl, HO, HB⟩ := hrel
        clear HO1 HB1
        by_cases hlt : 0 < k
        · obtain ⟨q, rfl⟩ : ∃ q, k = q + 1 := ⟨k - 1, by omega⟩
          obtain rfl : a = (q : Int) := by omega
          clear ha hlt
          have hqn : q < n := by omega
          obtain ⟨⟨p0, p1⟩, hp⟩ : ∃ h, M[q]? = some h := ⟨_, List.getElem?_eq_getElem (by rw [← Hn.out]; exact hqn)⟩
          obtain ⟨b', off', rfl, hbs', d0, d1⟩ := (Hr.out.below HB.out).1.get2 (fun _ => rfl) hp rfl
          have hpl := HK.out.par_lt (k := q) (by rw [← Hn.out]; exact hqn)
          have HPAR := hide (par_some hp)
          have HL := hide (downN_at HK.out F (k := q) (by rw [← Hn.out]; exact hqn))
          rw [par_some hp] at hpl
          rw [lim_some hp] at HL
          obtain ⟨hpl0, hpl1⟩ := hpl
          have q0 := cell_on HC0.out HB.out
          have g0 := HO.out.cell hqn
          have g1 := HO.out.free q
          have hzi := HO.out.lt.2
          have hbz := Nat.lt_of_lt_of_le hb0 HB.out.size
          have e3 : IntKind.i64.wrap ((q : Int) - 1) = (q : Int) - 1 := IntWalk.i64_in _ (by omega)
          dsimp only at d0 d1 hpl0 hpl1 HL HPAR
          have HSET := hide (HO.out.set hqn (sumM M H F q))
          have HBS : Hid (Below w.heap.size w (wr.setCell ⟨w.heap.size, q, none⟩ (.int .i64 (sumM M H F q)))) := hide (HB.out.setCell (Nat.le_refl _) _)
          have hbd := HDB.out q q (by omega) (by omega)
          have HSB := hide (sumM_bd HK.out F (m := q) (by rw [← Hn.out]; exact hqn))
          clear hp
          go_wp2_with fail
          go_region
          have hmin : (if p1 < downN M H F (q + 1) q then p1 else downN M H F (q + 1) q) = sumM M H F q := by rw [← HL.out]; split <;> omega
          rw [hmin]
          clear hmin
          have HS1 : Hid (OwnD (wr.setCell ⟨w.heap.size, q, none⟩ (.int .i64 (sumM M H F q))).drew w.heap.size w.heap.size n (upd (downN M H F (q + 1)) q (sumM M H F q))) := hide HSET.out.drew
          have HB1 : Hid (Below w.heap.size w (wr.setCell ⟨w.heap.size, q, none⟩ (.int .i64 (sumM M H F q))).drew) := hide HBS.out.drew
          have HR1 := hide (Hr.out.below HB1.out)
          generalize (wr.setCell ⟨w.heap.size, q, none⟩ (.int .i64 (sumM M H F q))).drew = W1 at *
          have q0 := cell_on HC0.out HB1.out
          have q1 := cell_on HC1.out HB1.out
          have hbz := Nat.lt_of_lt_of_le hb0 HB1.out.size
          obtain ⟨⟨p0', p1'⟩, hp⟩ : ∃ h, M[q]? = some h := ⟨_, List.getElem?_eq_getElem (by rw [← Hn.out]; exact hqn)⟩
          obtain ⟨rfl⟩ : p0' = p0 := by rw [← HPAR.out, par_some hp]
          obtain ⟨b2, off2, hA2, hbs2, d2, d3⟩ := HR1.out.1.get2 (fun _ => rfl) hp rfl
          simp only [Option.some.injEq, Addr.mk.injEq, and_true] at hA2
          obtain ⟨rfl, rfl⟩ := hA2
          dsimp only at d2 d3
          clear d0 d1 g0 g1 HSET HBS HO hp hbs'
          by_cases hp0 : 0 ≤ p0
          · obtain ⟨r, rfl⟩ := Int.eq_ofNat_of_zero_le hp0
            have hrn : r < n := by omega
            have g0 := HS1.out.cell hrn
            have g1 := HS1.out.free r
            have g2 := HS1.out.cell hqn
            have hb1 := HDB.out (q + 1) r (by omega) hrn
            have hz1 := HS1.out.lt.2
            have hne : ¬ r = q := by omega
            have HST := hide (fun i => downN_step1 HK.out F (k := q) (q := r) (by rw [← Hn.out]; exact hqn) HPAR.out (i := i))
            have hsb := HSB.out
            simp only [upd, if_neg hne] at g0
            simp only [upd, if_true] at g2
            have e4 : IntKind.i64.wrap (downN M H F (q + 1) r + sumM M H F q) = downN M H F (q + 1) r + sumM M H F q := IntWalk.i64_in _ (by omega)
            have HSET := hide (HS1.out.set hrn (downN M H F (q + 1) r + sumM M H F q))
            have HBS : Hid (Below w.heap.size w (W1.setCell ⟨w.heap.size, r, none⟩ (.int .i64 (downN M H F (q + 1) r + sumM M H F q)))) := hide (HB1.out.setCell (Nat.le_refl _) _)
            clear hb1 hsb hbd
            generalize downN M H F (q + 1) r = s at *
            generalize sumM M H F q = t at *
            go_wp2_with fail
            go_region
            go_wp2
            go_roundw
            case rel => exact ⟨q, _, by omega, rfl, by go_num, hide ((HSET.out.congr (fun i hi => HST.out i)).drew), hide HBS.out.drew⟩
            case measure => simp [intOf]
          · have HST := hide (fun i => downN_step0 HK.out F (k := q) (by rw [← Hn.out]; exact hqn) (by rw [HPAR.out]; omega) (i := i))
            go_wp2
            go_roundw
            case rel => exact ⟨q, _, by omega, rfl, by go_num, hide (HS1.out.congr (fun i hi => HST.out i)), HB1⟩
            case measure => simp [intOf]
        · obtain rfl : k = 0 := by omega
          subst ha
          have HZ := hide (HO.out.cell (i := 0) (by omega))
          have g0 := HZ.out
          clear HZ
          rw [show downN M H F 0 0 = sumM M H F 0 from rfl] at g0
          have hzi := HO.out.lt.2
          go_wp2
          go_ret
          exact ⟨rfl, HB.out⟩
end Go.Proofs.Ytfcpgpmhjadanaa

/- Greatest sums: the reference's recursion. -/
import Derived.Test.YtfcpgpmhjadanaaNetS
import Derived.Test.YtfcpgpmhjadanaaNetQ
namespace Go.Proofs.Ytfcpgpmhjadanaa
open Go.RowKit
set_option linter.unusedVariables false

set_option maxRecDepth 100000 in
set_option maxHeartbeats 8000000 in
theorem hySum_any (A B C : Option Addr) (n c m d k ecap : Nat) (M H : List (Int × Int)) (F : List Int) (hn : n = M.length) (hm : m = H.length) (hk : NetOk M H) (hkF : k = F.length) (hk10 : k ≤ 10) (hF : ∀ x ∈ F, 0 ≤ x ∧ x < m) : ∀ (f q : Nat) (w : World), n - q ≤ f → q < n → NetRd w A B M H → Rd w C (F.map (Value.int .i64)) →
    Calls Try.prog 31 #[.agg #[.slice A n c, .slice B m d], .slice C k ecap, .int .i64 (q : Int)] w fun e w' => e = .returned (.int .i64 (sumM M H F q)) ∧ Below w.heap.size w w' := by
  intro f
  induction f with
  | zero => intro q w h1 h2; omega
  | succ f ih =>
    intro q w hf hq hr hfl
    have IH := hide ih
    have hn10 : n ≤ 10 := by have := hk.m10; omega
    have hm10 : m ≤ 10 := by have := hk.h10; omega
    have hc := cell_new2 w (.slice A n c) (.slice B m d) 27
    have HBA : Hid (Below w.heap.size w (w.alloc (.cells #[.slice A n c, .slice B m d] 27))) := hide (below_alloc (Below.refl _ _) _)
    have hzA : w.heap.size < (w.alloc (.cells #[.slice A n c, .slice B m d] 27)).heap.size := by simp
    have Hn := hide hn
    have Hm := hide hm
    have HK := hide hk
    have HkF := hide hkF
    have HF := hide hF
    have HRA := hide (hr.alloc (.cells #[.slice A n c, .slice B m d] 27))
    have HFA := hide (hfl.alloc (.cells #[.slice A n c, .slice B m d] 27))
    have HBB := hide (baseN_bd hk F q)
    have HBN := hide (fun (S : Nat → Int) (h : ∀ c, c < n → 0 ≤ S c ∧ S c ≤ 5000) (j : Nat) (hj : j ≤ n) => kidsN_bd (M := M) (S := S) (m := q) j (fun c hc => h c (by omega)))
    have HSB := hide (fun (c : Nat) (hc : c < n) => sumM_bd hk F (m := c) (by rw [← hn]; exact hc))
    have HEQ := hide (sumM_eq hk F (m := q) (by rw [← hn]; exact hq))
    clear hn hm hk hkF hF hr hfl ih
    go_enter Try.func31, Try.ntmps31
    go_wp2_with fail
    generalize w.alloc (.cells #[.slice A n c, .slice B m d] 27) = W at *
    go_loopw [7, 14] (fun s t wr => ∃ j : Nat, j ≤ k ∧ t = .int .i64 j ∧ s = .int .i64 (baseN H F j q) ∧ wr = W) (fun _ t _ => k - (intOf t).toNat)
    case atStart => exact ⟨0, by omega, rfl, by simp [baseN], rfl⟩
    case round =>
      obtain ⟨j, hj, rfl, rfl, rfl⟩ := hrel
      obtain ⟨hc0, hc1⟩ := hc
      by_cases hlt : j < k
      · obtain ⟨x, hh⟩ : ∃ f, F[j]? = some f := ⟨_, List.getElem?_eq_getElem (by rw [← HkF.out]; exact hlt)⟩
        obtain ⟨x00, x01⟩ := HF.out x (List.mem_of_getElem? hh)
        obtain ⟨i, rfl⟩ := Int.eq_ofNat_of_zero_le x00
        have him : i < m := by omega
        obtain ⟨⟨y0, y1⟩, hy⟩ : ∃ h, H[i]? = some h := ⟨_, List.getElem?_eq_getElem (by rw [← Hm.out]; exact him)⟩
        obtain ⟨b, off, rfl, hbs, c0⟩ := HFA.out.get1 (u := .int .i64 (i : Int)) (by rw [List.getElem?_map, hh]; rfl)
        obtain ⟨b', off', rfl, hbs', d0, d1⟩ := HRA.out.2.get2 (fun _ => rfl) hy rfl
        obtain ⟨-, -, z0, z1⟩ := HK.out.hyd i _ hy
        have HBS := hide (baseN_succ hh hy)
        have hbd := HBB.out j
        clear hh hy x00 x01
        dsimp only at d0 d1 HBS z0 z1
        generalize hs : baseN H F j q = s at *
        have e1 : IntKind.i64.wrap (s + y1) = s + y1 := IntWalk.i64_in _ (by omega)
        have HSj := hide hs
        clear hs
        cases hb : (y0 == (q : Int)) with
        | true =>
          have HN := hide (show baseN H F (j + 1) q = s + y1 by rw [HBS.out]; dsimp only; rw [if_pos (by simpa using hb), HSj.out])
          go_wp2
          go_roundw
          case rel => exact ⟨j + 1, by omega, by go_num, by rw [HN.out], trivial⟩
          case measure => simp [intOf]; omega
        | false =>
          have HN := hide (show baseN H F (j + 1) q = s by rw [HBS.out]; dsimp only; rw [if_neg (by simpa using hb), HSj.out])
          go_wp2
          go_roundw
          case rel => exact ⟨j + 1, by omega, by go_num, by rw [HN.out], trivial⟩
          case measure => simp [intOf]; omega
      · have HJ := hide (show baseN H F j q = baseN H F F.length q by rw [← show k = F.length from HkF.out, show j = k by omega])
        rw [HJ.out]
        have hbd := HBB.out F.length
        have hkl : F.length ≤ 10 := by rw [← show k = F.length from HkF.out]; exact hk10
        obtain ⟨wo, rfl⟩ : ∃ wo, wo = wr := ⟨_, rfl⟩
        go_wp2_with fail
        go_loopw [7, 38] (fun s t wr => ∃ i : Nat, i ≤ n ∧ t = .int .i64 i ∧ s = .int .i64 (baseN H F F.length q + kidsN M (sumM M H F) q i) ∧ Hid (Below wo.heap.size wo wr)) (fun _ t _ => n - (intOf t).toNat)
        case atStart => exact ⟨0, by omega, rfl, by simp [kidsN], hide (Below.refl _ _)⟩
        case round =>
          obtain ⟨i, hi, rfl, rfl, HB⟩ := hrel
          by_cases hil : i < n
          · obtain ⟨⟨y0, y1⟩, hy⟩ : ∃ h, M[i]? = some h := ⟨_, List.getElem?_eq_getElem (by rw [← Hn.out]; exact hil)⟩
            obtain ⟨b, off, rfl, hbs, c0, c1⟩ := (HRA.out.1.below HB.out).get2 (fun _ => rfl) hy rfl
            have hpl := HK.out.par_lt (k := i) (by rw [← Hn.out]; exact hil)
            have hpar := par_some hy
            dsimp only at c0 c1 hpar
            rw [hpar] at hpl
            have HPAR := hide hpar
            have q0 := cell_on hc0 HB.out
            have q1 := cell_on hc1 HB.out
            have hwz := Nat.lt_of_lt_of_le hzA HB.out.size
            have hkb := HBN.out (sumM M H F) HSB.out i (by omega)
            have hsb := HSB.out i hil
            clear hy hpar
            cases hb : (y0 == (q : Int)) with
            | true =>
              have hyq : y0 = (q : Int) := by simpa using hb
              have HN := hide (show kidsN M (sumM M H F) q (i + 1) = kidsN M (sumM M H F) q i + sumM M H F i by rw [kidsN, if_pos (by rw [HPAR.out]; exact hyq)])
              have hqi : q < i := by omega
              have HC := hide (IH.out i (wr.alloc (.cells #[.int .i64 y0, .int .i64 y1] 52)) (by omega) hil ((NetRd.below HRA.out HB.out).alloc _) ((HFA.out.below HB.out).alloc _))
              clear hyq
              generalize hs : kidsN M (sumM M H F) q i = s at *
              generalize ht : sumM M H F i = t at *
              generalize baseN H F F.length q = u at *
              have e1 : IntKind.i64.wrap (u + s + t) = u + s + t := IntWalk.i64_in _ (by omega)
              go_wp2_with fail
              refine HC.out.mono ?_
              rintro e w2 ⟨rfl, hq2⟩
              have HB2 : Hid (Below wo.heap.size wo w2) := hide (below_step (below_alloc HB.out _) hq2)
              clear hq2 HC
              go_wp2
              go_roundw
              case rel => exact ⟨i + 1, by omega, by go_num, by rw [HN.out]; simp; omega, HB2⟩
              case measure => simp [intOf]; omega
            | false =>
              have HN := hide (show kidsN M (sumM M H F) q (i + 1) = kidsN M (sumM M H F) q i by rw [kidsN, if_neg (by rw [HPAR.out]; simpa using hb)])
              go_wp2
              go_roundw
              case rel => exact ⟨i + 1, by omega, by go_num, by rw [HN.out], hide (below_alloc HB.out _)⟩
              case measure => simp [intOf]; omega
          · have hin : i = n := by omega
            obtain ⟨⟨y0, y1⟩, hy⟩ : ∃ h, M[q]? = some h := ⟨_, List.getElem?_eq_getElem (by rw [← Hn.out]; exact hq)⟩
            obtain ⟨b, off, rfl, hbs, c0, c1⟩ := (HRA.out.1.below HB.out).get2 (fun _ => rfl) hy rfl
            have HL := hide (lim_some hy)
            have q0 := cell_on hc0 HB.out
            have hwz := Nat.lt_of_lt_of_le hzA HB.out.size
            have HE := hide (show sumM M H F q = min (baseN H F F.length q + kidsN M (sumM M H F) q i) y1 by rw [HEQ.out, HL.out, show i = M.length by rw [hin]; exact Hn.out])
            dsimp only at c0 c1
            clear hy hin
            go_wp2_with (go_at_call 52; ((with_reducible refine (l1Least_any _ _ _).mono ?_); rintro e w' ⟨rfl, rfl⟩))
            go_ret
            exact ⟨ret_int HE.out.symm, HBA.out.trans (HB.out.mono (by have := HBA.out.size; omega))⟩
end Go.Proofs.Ytfcpgpmhjadanaa

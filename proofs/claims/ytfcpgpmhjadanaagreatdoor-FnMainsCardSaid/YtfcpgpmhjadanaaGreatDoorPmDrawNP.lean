/- Draws of nets: a text to read. -/
import Derived.Test.YtfcpgpmhjadanaaGreatDoorPmI
import Derived.Test.YtfcpgpmhjadanaaGreatDoorPmO
import Derived.Test.YtfcpgpmhjadanaaGreatDoorPmM
namespace Go.Proofs.YtfcpgpmhjadanaaGreatDoor
open Go.RowKit
set_option linter.unusedVariables false
set_option linter.unusedSimpArgs false

theorem drw_startN (w : World) (A : Option Addr) (n c : Nat) (code : List Int) (t : TypeId) (hn : n = code.length) (hm : n ≤ maxLen) (hb : ∀ x ∈ code, 0 ≤ x ∧ x ≤ 255) (hr : Rd w A (code.map (Value.int .u8))) :
    (Drw.mk w w.heap.size A n c code).ok ∧ (Drw.mk w w.heap.size A n c code).st 0 (w.alloc (.cells #[.slice A n c, .int .i64 0, .int .u64 0] t)) :=
  ⟨⟨hn, hm, hb, hr, Nat.le_refl _⟩, (Below.refl _ _).alloc (Nat.le_refl _) _, 0, 0, Nat.le_refl _, ⟨by omega, by omega⟩, Row.new w _ t⟩

set_option maxRecDepth 100000 in
set_option maxHeartbeats 8000000 in
theorem DrawParseNet_any (A : Option Addr) (n c : Nat) (code : List Int) (w : World) (hn : n = code.length) (hm : n ≤ maxLen) (hb : ∀ x ∈ code, 0 ≤ x ∧ x ≤ 255) (hr : Rd w A (code.map (Value.int .u8))) :
    Calls Tryz.prog 18 #[.slice A n c] w fun e w' => (∃ s : ByteArray, e = .returned (.string s) ∧ s.size ≤ 4000) ∧ Below w.heap.size w w' := by
  have HD := hide (drw_startN w A n c code 52 hn hm hb hr)
  clear hn hm hb hr
  obtain ⟨d, hd⟩ : ∃ d, d = Drw.mk w w.heap.size A n c code := ⟨_, rfl⟩
  rw [← hd] at HD
  have HGE := hide (show w.heap.size = d.g by rw [hd])
  have HWE := hide (show d.W0 = w by rw [hd])
  clear hd
  go_enter Tryz.func18, Tryz.ntmps18
  go_wp2_with fail
  rw [HGE.out]
  refine (net_any d 0 _ HD.out.1 HD.out.2 (by omega)).mono ?_
  rintro e w1 ⟨⟨A1, c1, M, B1, k1, H, rfl, hk, hoM, hoH, -⟩, hs, hg⟩
  have HK := hide hk
  have HS := hide hs
  have HO := hide (And.intro (own_rd hoM) (own_rd hoH))
  clear hk hs hg hoM hoH
  go_wp2_with fail
  refine (hyText_any M.length c1 H.length k1 A1 B1 M H _ rfl rfl HK.out HO.out).mono ?_
  rintro e w2 ⟨rfl, hq⟩
  have HV : Hid ((nxT M H).size ≤ 300) := hide (nxT_size HK.out)
  replace HS := hide (HS.out.below hq)
  clear hq
  generalize nxT M H = v at *
  go_wp2_with fail
  refine (pick_any d 400 6 _ HD.out.1 HS.out (by omega) (by omega)).mono ?_
  rintro e w3 ⟨⟨p, rfl, hp0, hp1, hp2⟩, hs, hg⟩
  replace HS := hide hs
  clear hs hg hp0 hp1 hp2
  by_cases h01 : p = 0 ∨ p = 1
  · rcases h01 with h0 | h0
    · have hp : (p == 0) = true := by simpa using h0
      have hpz : p ≠ 0 ∨ p = 0 := by omega
      subst h0
      clear hp hpz
      go_wp2_with fail
      refine (spoilt_any d 402 v ⟨#[45, 47, 58, 124, 32, 48, 49]⟩ _ HD.out.1 HS.out (by omega) (by have := HV.out; omega) (by decide) (by decide)).mono ?_
      rintro e w4 ⟨⟨u, rfl, hu⟩, hs, hg⟩
      have HB : Hid (Below w.heap.size w w4) := hide (by have := hs.1; rwa [HWE.out] at this)
      clear hs hg
      go_wp2
      go_ret
      exact ⟨⟨u, rfl, by have := HV.out; omega⟩, HB.out⟩
    · have hp : (p == 1) = true := by simpa using h0
      have hpz : p ≠ 0 ∨ p = 0 := by omega
      subst h0
      clear hp hpz
      go_wp2_with fail
      refine (spoilt_any d 402 v ⟨#[45, 47, 58, 124, 32, 48, 49]⟩ _ HD.out.1 HS.out (by omega) (by have := HV.out; omega) (by decide) (by decide)).mono ?_
      rintro e w4 ⟨⟨u, rfl, hu⟩, hs, hg⟩
      have HB : Hid (Below w.heap.size w w4) := hide (by have := hs.1; rwa [HWE.out] at this)
      clear hs hg
      go_wp2
      go_ret
      exact ⟨⟨u, rfl, by have := HV.out; omega⟩, HB.out⟩
  · have hp0 : (p == 0) = false := by simpa using (fun e => h01 (.inl e))
    have hp1 : (p == 1) = false := by simpa using (fun e => h01 (.inr e))
    by_cases h2 : p = 2
    · have hp2 : (p == 2) = true := by simpa using h2
      clear h01 h2
      go_wp2_with fail
      refine (of_lit d 402 [⟨#[]⟩, ⟨#[45, 49, 47, 50, 48, 48, 48, 32, 124]⟩, ⟨#[45, 49, 47, 50, 48, 48, 48]⟩, ⟨#[48, 47, 50, 48, 48, 48, 32, 124]⟩, ⟨#[45, 49, 47, 50, 48, 48, 48, 32, 48, 47, 57, 48, 48, 32, 124, 32, 49, 58, 53]⟩, ⟨#[45, 49, 47, 50, 48, 48, 48, 32, 49, 47, 57, 48, 48, 32, 124]⟩, ⟨#[45, 49, 47, 50, 48, 48, 48, 32, 124, 32, 49, 58, 53]⟩, ⟨#[45, 49, 47, 50, 48, 48, 48, 32, 124, 32, 48, 58, 48]⟩, ⟨#[45, 49, 47, 48, 50, 48, 48, 48, 32, 124]⟩] _ _ rfl HD.out.1 HS.out (by omega) (by simp) (by simp)).mono ?_
      rintro e w4 ⟨⟨u, rfl, hu⟩, hs, hg⟩
      have HU : Hid (u.size ≤ 30) := hide (by
        simp only [List.mem_cons, List.not_mem_nil, or_false] at hu
        rcases hu with rfl | rfl | rfl | rfl | rfl | rfl | rfl | rfl | rfl <;> decide)
      have HB : Hid (Below w.heap.size w w4) := hide (by have := hs.1; rwa [HWE.out] at this)
      clear hs hg hu
      go_wp2
      go_ret
      exact ⟨⟨u, rfl, by have := HU.out; omega⟩, HB.out⟩
    · have hp2 : (p == 2) = false := by simpa using h2
      clear h01 h2
      have HB : Hid (Below w.heap.size w w3) := hide (by have := HS.out.1; rwa [HWE.out] at this)
      go_wp2
      go_ret
      exact ⟨⟨v, rfl, by have := HV.out; omega⟩, HB.out⟩
end Go.Proofs.YtfcpgpmhjadanaaGreatDoor

/- The overloaded and the tight mains: what the calls return. -/
import Derived.Test.YtfcpgpmhjadanaaGreatDoorNetN
namespace Go.Proofs.YtfcpgpmhjadanaaGreatDoor
open Go.RowKit
set_option linter.unusedVariables false

def ovL (p : Int → Int → Bool) (M H : List (Int × Int)) (F : List Int) : List Int := if askB M H F then withN p M (loadsF M H F) M.length else []
theorem ovL_length (p : Int → Int → Bool) (M H : List (Int × Int)) (F : List Int) : (ovL p M H F).length ≤ 1048576 := by
  unfold ovL
  split
  · next h =>
    rw [askB, Bool.and_eq_true] at h
    have := (netB_ok h.1).m10
    have := withN_length p M (loadsF M H F) M.length
    omega
  · simp
theorem ov_no {p : Int → Int → Bool} {M H : List (Int × Int)} {F : List Int} (h : askB M H F = false) : ovL p M H F = [] := by rw [ovL, h]; rfl
theorem ov_yes {p : Int → Int → Bool} {M H : List (Int × Int)} {F : List Int} (h : askB M H F = true) : ovL p M H F = withN p M (loadsF M H F) M.length := by rw [ovL, h]; rfl
theorem AskPost.val {L L' : List Int} {w w' : World} {B : Nat} {v : Value} (hL : L = L') (ho : w'.ownsRow B 3 1 v L'.length (L'.map (Value.int .i64))) (hB : w.heap.size ≤ B) (hb : Below w.heap.size w w') : AskPost true L w (.returned (.tuple #[v, .bool true])) w' := by
  subst hL
  exact ⟨⟨_, rfl, own_le ho hB⟩, hb⟩

set_option maxRecDepth 100000 in
set_option maxHeartbeats 4000000 in
theorem implOverloadedMains_any (A B C : Option Addr) (n c m d k ecap : Nat) (M H : List (Int × Int)) (F : List Int) (w : World) (hn : n = M.length) (hm : m = H.length) (hnm : n ≤ maxLen) (hmm : m ≤ maxLen) (hkF : k = F.length) (hkm : k ≤ maxLen) (hr : NetRd w A B M H) (hf : Rd w C (F.map (Value.int .i64))) :
    Calls Tryz.prog 8 #[.agg #[.slice A n c, .slice B m d], .slice C k ecap] w (AskPost (askB M H F) (ovL overP M H F) w) := by
  have hc := cell_new2 w (.slice A n c) (.slice B m d) 27
  have Q := hide (implisNet_any w.heap.size A B n c m d M H (w.alloc (.cells #[.slice A n c, .slice B m d] 27)) hn hm hnm hmm (hr.alloc _) hc.1 hc.2)
  have Hn := hide hn
  have Hm := hide hm
  have HkF := hide hkF
  have Hr := hide hr
  have Hf := hide hf
  clear hn hm hkF hr hf
  cases hN : netB M H with
  | false =>
    rw [hN] at Q
    have HE := hide (show askB M H F = false by rw [askB, hN]; rfl)
    clear hN hc
    go_enter Tryz.func8, Tryz.ntmps8
    go_wp2_with (go_at_call 29; ((with_reducible refine (Q.out).mono ?_); rintro e w1 ⟨rfl, hb1⟩); obtain ⟨hc1, hf1⟩ := bcell hb1)
    go_ret2
    exact AskPost.no HE.out (ov_no HE.out) (by repeat (first | exact Below.refl _ _ | refine below_step ?_ (by assumption) | refine below_step ?_ (Later.below _) | refine below_alloc ?_ _ | refine Below.drew ?_ | refine Below.setCell ?_ (by first | (simp; done) | (simp; omega)) _))
  | true =>
    have hk := netB_ok hN
    have HK := hide hk
    have HE := hide (show askB M H F = flowsB H F by rw [askB, hN]; rfl)
    rw [hN] at Q
    have hm10 : m ≤ 10 := by have := hk.h10; have := Hm.out; omega
    clear hN hk
    go_enter Tryz.func8, Tryz.ntmps8
    go_wp2_with fail
    refine Q.out.mono ?_
    rintro e w1 ⟨rfl, hq⟩
    have HW1 : Hid (Below w.heap.size w w1) := hide (below_step (below_alloc (Below.refl _ _) _) hq)
    have a0 := cell_on hc.1 hq
    have a1 := cell_on hc.2 hq
    clear hq Q hc
    have QA := areFlows_any w.heap.size A B C n c m d k ecap M H F w1 Hm.out hm10 HkF.out hkm (Hr.out.below HW1.out) (Hf.out.below HW1.out) a0 a1
    cases hff : flowsB H F with
    | false =>
      rw [hff] at QA
      have HE' := hide (show askB M H F = false by rw [HE.out, hff])
      clear hff
      go_wp2_with fail
      refine QA.mono ?_
      rintro e w' ⟨rfl, rfl⟩
      go_wp2
      go_ret2
      exact AskPost.no HE'.out (ov_no HE'.out) HW1.out
    | true =>
      rw [hff] at QA
      have HE' := hide (show askB M H F = true by rw [HE.out, hff])
      have HF := hide (flowsB_5000 HK.out hff)
      have HL := hide ((flowsB_get hff).1)
      have HPY := hide (fun (w' : World) (e' : Ending) (h : AskPost true (ovL overP M H F) w e' w') => (show AskPost (askB M H F) (ovL overP M H F) w e' w' by rw [HE'.out]; exact h))
      clear hff
      go_wp2_with fail
      refine QA.mono ?_
      rintro e w' ⟨rfl, rfl⟩
      go_wp2_with fail
      refine (overWith_any w.heap.size A B C n c m d k _ M H F w1 Hn.out Hm.out HK.out HkF.out (by rw [show k = F.length from HkF.out, show m = H.length from Hm.out, HL.out]; exact Nat.le_refl _) HF.out (Hr.out.below HW1.out) (Hf.out.below HW1.out) a0 a1).mono ?_
      rintro e w2 ⟨⟨v, rfl, ho⟩, hq⟩
      obtain ⟨A9, k9, rfl, -⟩ := own_open ho
      go_wp2
      go_ret2
      refine HPY.out _ _ ?_
      exact AskPost.val (by rw [ov_yes HE'.out, ← show n = M.length from Hn.out]) ho HW1.out.size (below_step HW1.out hq)

set_option maxRecDepth 100000 in
set_option maxHeartbeats 4000000 in
theorem specOverloadedMains_any (A B C : Option Addr) (n c m d k ecap : Nat) (M H : List (Int × Int)) (F : List Int) (w : World) (hn : n = M.length) (hm : m = H.length) (hnm : n ≤ maxLen) (hmm : m ≤ maxLen) (hkF : k = F.length) (hkm : k ≤ maxLen) (hr : NetRd w A B M H) (hf : Rd w C (F.map (Value.int .i64))) :
    Calls Tryz.prog 9 #[.agg #[.slice A n c, .slice B m d], .slice C k ecap] w (AskPost (askB M H F) (ovL overP M H F) w) := by
  have hc := cell_new2 w (.slice A n c) (.slice B m d) 27
  have Q := hide (hyAsked_any A B C n c m d k ecap M H F (w.alloc (.cells #[.slice A n c, .slice B m d] 27)) hn hm hnm hmm hkF hkm (hr.alloc _) (hf.alloc _))
  have Hn := hide hn
  have Hm := hide hm
  have HkF := hide hkF
  have Hr := hide hr
  have Hf := hide hf
  clear hn hm hkF hr hf
  cases hA : askB M H F with
  | false =>
    rw [hA] at Q
    have HE := hide hA
    clear hA hc
    go_enter Tryz.func9, Tryz.ntmps9
    go_wp2_with (go_at_call 32; ((with_reducible refine (Q.out).mono ?_); rintro e w1 ⟨rfl, hb1⟩); obtain ⟨hc1, hf1⟩ := bcell hb1)
    go_ret2
    exact AskPost.no rfl (ov_no HE.out) (by repeat (first | exact Below.refl _ _ | refine below_step ?_ (by assumption) | refine below_step ?_ (Later.below _) | refine below_alloc ?_ _ | refine Below.drew ?_ | refine Below.setCell ?_ (by first | (simp; done) | (simp; omega)) _))
  | true =>
    rw [hA] at Q
    have HE' := hide hA
    rw [askB, Bool.and_eq_true] at hA
    have HK := hide (netB_ok hA.1)
    have HF := hide (flowsB_5000 HK.out hA.2)
    have HL := hide ((flowsB_get hA.2).1)
    clear hA
    go_enter Tryz.func9, Tryz.ntmps9
    go_wp2_with fail
    refine Q.out.mono ?_
    rintro e w1 ⟨rfl, hq⟩
    have HW1 : Hid (Below w.heap.size w w1) := hide (below_step (below_alloc (Below.refl _ _) _) hq)
    have a0 := cell_on hc.1 hq
    have a1 := cell_on hc.2 hq
    have z0 := World.block_lt_of_cell? w1 _ a0
    clear hq Q hc
    dsimp only at z0
    go_wp2_with fail
    refine (hyOver_any A B C n c m d k _ M H F w1 Hn.out Hm.out HK.out HkF.out (by rw [show k = F.length from HkF.out, show m = H.length from Hm.out, HL.out]; exact Nat.le_refl _) HF.out (Hr.out.below HW1.out) (Hf.out.below HW1.out)).mono ?_
    rintro e w2 ⟨⟨v, rfl, ho⟩, hq⟩
    obtain ⟨A9, k9, rfl, -⟩ := own_open ho
    go_wp2
    go_ret2
    exact AskPost.val (by rw [ov_yes HE'.out, ← show n = M.length from Hn.out]) ho HW1.out.size (below_step HW1.out hq)

set_option maxRecDepth 100000 in
set_option maxHeartbeats 4000000 in
theorem implTightMains_any (A B C : Option Addr) (n c m d k ecap : Nat) (M H : List (Int × Int)) (F : List Int) (w : World) (hn : n = M.length) (hm : m = H.length) (hnm : n ≤ maxLen) (hmm : m ≤ maxLen) (hkF : k = F.length) (hkm : k ≤ maxLen) (hr : NetRd w A B M H) (hf : Rd w C (F.map (Value.int .i64))) :
    Calls Tryz.prog 10 #[.agg #[.slice A n c, .slice B m d], .slice C k ecap] w (AskPost (askB M H F) (ovL tightP M H F) w) := by
  have hc := cell_new2 w (.slice A n c) (.slice B m d) 27
  have Q := hide (implisNet_any w.heap.size A B n c m d M H (w.alloc (.cells #[.slice A n c, .slice B m d] 27)) hn hm hnm hmm (hr.alloc _) hc.1 hc.2)
  have Hn := hide hn
  have Hm := hide hm
  have HkF := hide hkF
  have Hr := hide hr
  have Hf := hide hf
  clear hn hm hkF hr hf
  cases hN : netB M H with
  | false =>
    rw [hN] at Q
    have HE := hide (show askB M H F = false by rw [askB, hN]; rfl)
    clear hN hc
    go_enter Tryz.func10, Tryz.ntmps10
    go_wp2_with (go_at_call 29; ((with_reducible refine (Q.out).mono ?_); rintro e w1 ⟨rfl, hb1⟩); obtain ⟨hc1, hf1⟩ := bcell hb1)
    go_ret2
    exact AskPost.no HE.out (ov_no HE.out) (by repeat (first | exact Below.refl _ _ | refine below_step ?_ (by assumption) | refine below_step ?_ (Later.below _) | refine below_alloc ?_ _ | refine Below.drew ?_ | refine Below.setCell ?_ (by first | (simp; done) | (simp; omega)) _))
  | true =>
    have hk := netB_ok hN
    have HK := hide hk
    have HE := hide (show askB M H F = flowsB H F by rw [askB, hN]; rfl)
    rw [hN] at Q
    have hm10 : m ≤ 10 := by have := hk.h10; have := Hm.out; omega
    clear hN hk
    go_enter Tryz.func10, Tryz.ntmps10
    go_wp2_with fail
    refine Q.out.mono ?_
    rintro e w1 ⟨rfl, hq⟩
    have HW1 : Hid (Below w.heap.size w w1) := hide (below_step (below_alloc (Below.refl _ _) _) hq)
    have a0 := cell_on hc.1 hq
    have a1 := cell_on hc.2 hq
    clear hq Q hc
    have QA := areFlows_any w.heap.size A B C n c m d k ecap M H F w1 Hm.out hm10 HkF.out hkm (Hr.out.below HW1.out) (Hf.out.below HW1.out) a0 a1
    cases hff : flowsB H F with
    | false =>
      rw [hff] at QA
      have HE' := hide (show askB M H F = false by rw [HE.out, hff])
      clear hff
      go_wp2_with fail
      refine QA.mono ?_
      rintro e w' ⟨rfl, rfl⟩
      go_wp2
      go_ret2
      exact AskPost.no HE'.out (ov_no HE'.out) HW1.out
    | true =>
      rw [hff] at QA
      have HE' := hide (show askB M H F = true by rw [HE.out, hff])
      have HF := hide (flowsB_5000 HK.out hff)
      have HL := hide ((flowsB_get hff).1)
      have HPY := hide (fun (w' : World) (e' : Ending) (h : AskPost true (ovL tightP M H F) w e' w') => (show AskPost (askB M H F) (ovL tightP M H F) w e' w' by rw [HE'.out]; exact h))
      clear hff
      go_wp2_with fail
      refine QA.mono ?_
      rintro e w' ⟨rfl, rfl⟩
      go_wp2_with fail
      refine (tightWith_any w.heap.size A B C n c m d k _ M H F w1 Hn.out Hm.out HK.out HkF.out (by rw [show k = F.length from HkF.out, show m = H.length from Hm.out, HL.out]; exact Nat.le_refl _) HF.out (Hr.out.below HW1.out) (Hf.out.below HW1.out) a0 a1).mono ?_
      rintro e w2 ⟨⟨v, rfl, ho⟩, hq⟩
      obtain ⟨A9, k9, rfl, -⟩ := own_open ho
      go_wp2
      go_ret2
      refine HPY.out _ _ ?_
      exact AskPost.val (by rw [ov_yes HE'.out, ← show n = M.length from Hn.out]) ho HW1.out.size (below_step HW1.out hq)

set_option maxRecDepth 100000 in
set_option maxHeartbeats 4000000 in
theorem specTightMains_any (A B C : Option Addr) (n c m d k ecap : Nat) (M H : List (Int × Int)) (F : List Int) (w : World) (hn : n = M.length) (hm : m = H.length) (hnm : n ≤ maxLen) (hmm : m ≤ maxLen) (hkF : k = F.length) (hkm : k ≤ maxLen) (hr : NetRd w A B M H) (hf : Rd w C (F.map (Value.int .i64))) :
    Calls Tryz.prog 11 #[.agg #[.slice A n c, .slice B m d], .slice C k ecap] w (AskPost (askB M H F) (ovL tightP M H F) w) := by
  have hc := cell_new2 w (.slice A n c) (.slice B m d) 27
  have Q := hide (hyAsked_any A B C n c m d k ecap M H F (w.alloc (.cells #[.slice A n c, .slice B m d] 27)) hn hm hnm hmm hkF hkm (hr.alloc _) (hf.alloc _))
  have Hn := hide hn
  have Hm := hide hm
  have HkF := hide hkF
  have Hr := hide hr
  have Hf := hide hf
  clear hn hm hkF hr hf
  cases hA : askB M H F with
  | false =>
    rw [hA] at Q
    have HE := hide hA
    clear hA hc
    go_enter Tryz.func11, Tryz.ntmps11
    go_wp2_with (go_at_call 32; ((with_reducible refine (Q.out).mono ?_); rintro e w1 ⟨rfl, hb1⟩); obtain ⟨hc1, hf1⟩ := bcell hb1)
    go_ret2
    exact AskPost.no rfl (ov_no HE.out) (by repeat (first | exact Below.refl _ _ | refine below_step ?_ (by assumption) | refine below_step ?_ (Later.below _) | refine below_alloc ?_ _ | refine Below.drew ?_ | refine Below.setCell ?_ (by first | (simp; done) | (simp; omega)) _))
  | true =>
    rw [hA] at Q
    have HE' := hide hA
    rw [askB, Bool.and_eq_true] at hA
    have HK := hide (netB_ok hA.1)
    have HF := hide (flowsB_5000 HK.out hA.2)
    have HL := hide ((flowsB_get hA.2).1)
    clear hA
    go_enter Tryz.func11, Tryz.ntmps11
    go_wp2_with fail
    refine Q.out.mono ?_
    rintro e w1 ⟨rfl, hq⟩
    have HW1 : Hid (Below w.heap.size w w1) := hide (below_step (below_alloc (Below.refl _ _) _) hq)
    have a0 := cell_on hc.1 hq
    have a1 := cell_on hc.2 hq
    have z0 := World.block_lt_of_cell? w1 _ a0
    clear hq Q hc
    dsimp only at z0
    go_wp2_with fail
    refine (hyTight_any A B C n c m d k _ M H F w1 Hn.out Hm.out HK.out HkF.out (by rw [show k = F.length from HkF.out, show m = H.length from Hm.out, HL.out]; exact Nat.le_refl _) HF.out (Hr.out.below HW1.out) (Hf.out.below HW1.out)).mono ?_
    rintro e w2 ⟨⟨v, rfl, ho⟩, hq⟩
    obtain ⟨A9, k9, rfl, -⟩ := own_open ho
    go_wp2
    go_ret2
    exact AskPost.val (by rw [ov_yes HE'.out, ← show n = M.length from Hn.out]) ho HW1.out.size (below_step HW1.out hq)
end Go.Proofs.YtfcpgpmhjadanaaGreatDoor

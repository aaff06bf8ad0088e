/- Loads: what LoadsOf returns. -/
import Derived.Test.YtfcpgpmhjadanaaGreatDoorNetH
namespace Go.Proofs.YtfcpgpmhjadanaaGreatDoor
open Go.RowKit
set_option linter.unusedVariables false

def askB (M H : List (Int × Int)) (F : List Int) : Bool := netB M H && flowsB H F
def loL (M H : List (Int × Int)) (F : List Int) : List Int := if askB M H F then (List.range M.length).map (loadsF M H F) else []
theorem loL_length (M H : List (Int × Int)) (F : List Int) : (loL M H F).length ≤ 1048576 := by
  unfold loL
  split
  · next h =>
    rw [askB, Bool.and_eq_true] at h
    have := (netB_ok h.1).m10
    simp; omega
  · simp
/-- A list of numbers in a row of the call's own, and a Bool. -/
def AskPost (ok : Bool) (L : List Int) (w : World) (e : Ending) (w' : World) : Prop :=
  (∃ v, e = .returned (.tuple #[v, .bool ok]) ∧ w'.ownsRow w.heap.size 3 1 v L.length (L.map (Value.int .i64))) ∧ Below w.heap.size w w'
theorem AskPost.no {ok : Bool} {L : List Int} {w w' : World} (h1 : ok = false) (h2 : L = []) (hb : Below w.heap.size w w') : AskPost ok L w (.returned (.tuple #[.slice none 0 0, .bool false])) w' := by
  subst h1 h2
  exact ⟨⟨_, rfl, World.ownsRow_nil _ _ _ _⟩, hb⟩
theorem ownD_list {w : World} {B g n : Nat} {D : Nat → Int} (h : OwnD w B g n D) : w.ownsRow B 3 1 (.slice (some ⟨g, 0, none⟩) n n) ((List.range n).map D).length (((List.range n).map D).map (Value.int .i64)) := by
  rw [List.length_map, List.length_range, List.map_map]
  exact h
theorem lo_no {M H : List (Int × Int)} {F : List Int} (h : askB M H F = false) : loL M H F = [] := by rw [loL, h]; rfl
theorem lo_yes {M H : List (Int × Int)} {F : List Int} (h : askB M H F = true) : loL M H F = (List.range M.length).map (loadsF M H F) := by rw [loL, h]; rfl
theorem AskPost.yes {L : List Int} {w w' : World} {B g n : Nat} {D : Nat → Int} (hL : L = (List.range n).map D) (ho : OwnD w' B g n D) (hB : w.heap.size ≤ B) (hb : Below w.heap.size w w') : AskPost true L w (.returned (.tuple #[.slice (some ⟨g, 0, none⟩) n n, .bool true])) w' := by
  subst hL
  exact ⟨⟨_, rfl, own_le (ownD_list ho) hB⟩, hb⟩

set_option maxHeartbeats 2000000 in
theorem hyAsked_any (A B C : Option Addr) (n c m d k ecap : Nat) (M H : List (Int × Int)) (F : List Int) (w : World) (hn : n = M.length) (hm : m = H.length) (hnm : n ≤ maxLen) (hmm : m ≤ maxLen) (hkF : k = F.length) (hkm : k ≤ maxLen) (hr : NetRd w A B M H) (hf : Rd w C (F.map (Value.int .i64))) :
    Calls Tryz.prog 32 #[.agg #[.slice A n c, .slice B m d], .slice C k ecap] w fun e w' => e = .returned (.bool (askB M H F)) ∧ Below w.heap.size w w' := by
  have hc := cell_new2 w (.slice A n c) (.slice B m d) 27
  have Q := hide (hyGood_any A B n c m d M H (w.alloc (.cells #[.slice A n c, .slice B m d] 27)) hn hm hnm hmm (hr.alloc _))
  have Hn := hide hn
  have Hm := hide hm
  have HkF := hide hkF
  have Hr := hide hr
  have Hf := hide hf
  clear hn hm hkF hr hf
  cases hN : netB M H with
  | false =>
    rw [hN] at Q
    have HE := hide (show askB M H F = false by rw [askB, hN]; rfl)
    clear hN hc
    go_enter Tryz.func32, Tryz.ntmps32
    go_wp2_with (go_at_call 41; ((with_reducible refine (Q.out).mono ?_); rintro e w1 ⟨rfl, hb1⟩); obtain ⟨hc1, hf1⟩ := bcell hb1)
    go_ret
    exact ⟨ret_bool HE.out.symm, (by repeat (first | exact Below.refl _ _ | refine below_step ?_ (by assumption) | refine below_step ?_ (Later.below _) | refine below_alloc ?_ _ | refine Below.drew ?_ | refine Below.setCell ?_ (by first | (simp; done) | (simp; omega)) _))⟩
  | true =>
    have hk := netB_ok hN
    have HE := hide (show askB M H F = flowsB H F by rw [askB, hN]; rfl)
    rw [hN] at Q
    have hm10 : m ≤ 10 := by have := hk.h10; have := Hm.out; omega
    clear hN hk
    go_enter Tryz.func32, Tryz.ntmps32
    go_wp2_with fail
    refine Q.out.mono ?_
    rintro e w1 ⟨rfl, hq⟩
    have HW1 : Hid (Below w.heap.size w w1) := hide (below_step (below_alloc (Below.refl _ _) _) hq)
    have a0 := cell_on hc.1 hq
    have a1 := cell_on hc.2 hq
    have z0 := World.block_lt_of_cell? w1 _ a0
    clear hq Q hc
    dsimp only at z0
    go_wp2_with fail
    refine (hyFlows_any A B C n c m d k _ M H F w1 Hm.out hm10 HkF.out hkm (Hr.out.below HW1.out) (Hf.out.below HW1.out)).mono ?_
    rintro e w2 ⟨rfl, hq⟩
    have HW2 : Hid (Below w.heap.size w w2) := hide (below_step HW1.out hq)
    clear hq
    go_wp2
    go_ret
    exact ⟨ret_bool HE.out.symm, HW2.out⟩

set_option maxRecDepth 100000 in
set_option maxHeartbeats 4000000 in
theorem implLoadsOf_any (A B C : Option Addr) (n c m d k ecap : Nat) (M H : List (Int × Int)) (F : List Int) (w : World) (hn : n = M.length) (hm : m = H.length) (hnm : n ≤ maxLen) (hmm : m ≤ maxLen) (hkF : k = F.length) (hkm : k ≤ maxLen) (hr : NetRd w A B M H) (hf : Rd w C (F.map (Value.int .i64))) :
    Calls Tryz.prog 6 #[.agg #[.slice A n c, .slice B m d], .slice C k ecap] w (AskPost (askB M H F) (loL M H F) w) := by
  have hc := cell_new2 w (.slice A n c) (.slice B m d) 27
  have Q := hide (implisNet_any w.heap.size A B n c m d M H (w.alloc (.cells #[.slice A n c, .slice B m d] 27)) hn hm hnm hmm (hr.alloc _) hc.1 hc.2)
  have Hn := hide hn
  have Hm := hide hm
  have HkF := hide hkF
  have Hr := hide hr
  have Hf := hide hf
  clear hn hm hkF hr hf
  cases hN : netB M H with
  | false =>
    rw [hN] at Q
    have HE := hide (show askB M H F = false by rw [askB, hN]; rfl)
    clear hN hc
    go_enter Tryz.func6, Tryz.ntmps6
    go_wp2_with (go_at_call 29; ((with_reducible refine (Q.out).mono ?_); rintro e w1 ⟨rfl, hb1⟩); obtain ⟨hc1, hf1⟩ := bcell hb1)
    go_ret2
    exact AskPost.no HE.out (lo_no HE.out) (by repeat (first | exact Below.refl _ _ | refine below_step ?_ (by assumption) | refine below_step ?_ (Later.below _) | refine below_alloc ?_ _ | refine Below.drew ?_ | refine Below.setCell ?_ (by first | (simp; done) | (simp; omega)) _))
  | true =>
    have hk := netB_ok hN
    have HK := hide hk
    have HE := hide (show askB M H F = flowsB H F by rw [askB, hN]; rfl)
    rw [hN] at Q
    have hm10 : m ≤ 10 := by have := hk.h10; have := Hm.out; omega
    clear hN hk
    go_enter Tryz.func6, Tryz.ntmps6
    go_wp2_with fail
    refine Q.out.mono ?_
    rintro e w1 ⟨rfl, hq⟩
    have HW1 : Hid (Below w.heap.size w w1) := hide (below_step (below_alloc (Below.refl _ _) _) hq)
    have a0 := cell_on hc.1 hq
    have a1 := cell_on hc.2 hq
    clear hq Q hc
    have QA := areFlows_any w.heap.size A B C n c m d k ecap M H F w1 Hm.out hm10 HkF.out hkm (Hr.out.below HW1.out) (Hf.out.below HW1.out) a0 a1
    cases hff : flowsB H F with
    | false =>
      rw [hff] at QA
      have HE' := hide (show askB M H F = false by rw [HE.out, hff])
      clear hff
      go_wp2_with fail
      refine QA.mono ?_
      rintro e w' ⟨rfl, rfl⟩
      go_wp2
      go_ret2
      exact AskPost.no HE'.out (lo_no HE'.out) HW1.out
    | true =>
      rw [hff] at QA
      have HE' := hide (show askB M H F = true by rw [HE.out, hff])
      have HF := hide (flowsB_5000 HK.out hff)
      have HL := hide ((flowsB_get hff).1)
      have HPY := hide (fun (w' : World) (e' : Ending) (h : AskPost true (loL M H F) w e' w') => (show AskPost (askB M H F) (loL M H F) w e' w' by rw [HE'.out]; exact h))
      clear hff
      go_wp2_with fail
      refine QA.mono ?_
      rintro e w' ⟨rfl, rfl⟩
      go_wp2_with fail
      refine (loads_any w.heap.size A B C n c m d k _ M H F w1 Hn.out Hm.out HK.out HkF.out (by rw [show k = F.length from HkF.out, show m = H.length from Hm.out, HL.out]; exact Nat.le_refl _) HF.out (Hr.out.below HW1.out) (Hf.out.below HW1.out) a0 a1).mono ?_
      rintro e w2 ⟨⟨g, rfl, ho⟩, hq⟩
      go_wp2
      go_ret2
      refine HPY.out _ _ ?_
      exact AskPost.yes (by rw [lo_yes HE'.out, ← show n = M.length from Hn.out]) ho HW1.out.size (below_step HW1.out hq)

set_option maxRecDepth 100000 in
set_option maxHeartbeats 4000000 in
theorem specLoadsOf_any (A B C : Option Addr) (n c m d k ecap : Nat) (M H : List (Int × Int)) (F : List Int) (w : World) (hn : n = M.length) (hm : m = H.length) (hnm : n ≤ maxLen) (hmm : m ≤ maxLen) (hkF : k = F.length) (hkm : k ≤ maxLen) (hr : NetRd w A B M H) (hf : Rd w C (F.map (Value.int .i64))) :
    Calls Tryz.prog 7 #[.agg #[.slice A n c, .slice B m d], .slice C k ecap] w (AskPost (askB M H F) (loL M H F) w) := by
  have hc := cell_new2 w (.slice A n c) (.slice B m d) 27
  have Q := hide (hyAsked_any A B C n c m d k ecap M H F (w.alloc (.cells #[.slice A n c, .slice B m d] 27)) hn hm hnm hmm hkF hkm (hr.alloc _) (hf.alloc _))
  have Hn := hide hn
  have Hm := hide hm
  have HkF := hide hkF
  have Hr := hide hr
  have Hf := hide hf
  clear hn hm hkF hr hf
  cases hA : askB M H F with
  | false =>
    rw [hA] at Q
    have HE := hide hA
    clear hA hc
    go_enter Tryz.func7, Tryz.ntmps7
    go_wp2_with (go_at_call 32; ((with_reducible refine (Q.out).mono ?_); rintro e w1 ⟨rfl, hb1⟩); obtain ⟨hc1, hf1⟩ := bcell hb1)
    go_ret2
    exact AskPost.no rfl (lo_no HE.out) (by repeat (first | exact Below.refl _ _ | refine below_step ?_ (by assumption) | refine below_step ?_ (Later.below _) | refine below_alloc ?_ _ | refine Below.drew ?_ | refine Below.setCell ?_ (by first | (simp; done) | (simp; omega)) _))
  | true =>
    rw [hA] at Q
    have HE' := hide hA
    rw [askB, Bool.and_eq_true] at hA
    have HK := hide (netB_ok hA.1)
    have HF := hide (flowsB_5000 HK.out hA.2)
    have HL := hide ((flowsB_get hA.2).1)
    clear hA
    go_enter Tryz.func7, Tryz.ntmps7
    go_wp2_with fail
    refine Q.out.mono ?_
    rintro e w1 ⟨rfl, hq⟩
    have HW1 : Hid (Below w.heap.size w w1) := hide (below_step (below_alloc (Below.refl _ _) _) hq)
    have a0 := cell_on hc.1 hq
    have a1 := cell_on hc.2 hq
    have z0 := World.block_lt_of_cell? w1 _ a0
    clear hq Q hc
    dsimp only at z0
    go_wp2_with fail
    refine (hyLoads_any A B C n c m d k _ M H F w1 Hn.out Hm.out HK.out HkF.out (by rw [show k = F.length from HkF.out, show m = H.length from Hm.out, HL.out]; exact Nat.le_refl _) HF.out (Hr.out.below HW1.out) (Hf.out.below HW1.out)).mono ?_
    rintro e w2 ⟨⟨g, rfl, ho⟩, hq⟩
    go_wp2
    go_ret2
    exact AskPost.yes (by rw [lo_yes HE'.out, ← show n = M.length from Hn.out]) ho HW1.out.size (below_step HW1.out hq)
end Go.Proofs.YtfcpgpmhjadanaaGreatDoor

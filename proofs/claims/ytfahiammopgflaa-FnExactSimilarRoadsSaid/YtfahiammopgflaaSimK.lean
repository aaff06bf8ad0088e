/- SimilarRoads: what the program's and the reference's return. -/
import Derived.Test.YtfahiammopgflaaSimI
namespace Go.Proofs.Ytfahiammopgflaa
open Go.RowKit
set_option linter.unusedVariables false

def srOk (l : List StrT) (s : ByteArray) : Bool := strsB l && roadB s
def srL (l : List StrT) (s : ByteArray) : List ByteArray := if srOk l s then roadsK l s l.length else []
theorem srL_length (l : List StrT) (s : ByteArray) : (srL l s).length ≤ 30 := by
  unfold srL
  split
  · next h =>
    rw [srOk, Bool.and_eq_true] at h
    have := strsB_len h.1
    have := roadsK_length l s l.length
    omega
  · simp
def SrPost (l : List StrT) (s : ByteArray) (w : World) (e : Ending) (w' : World) : Prop := (∃ v, e = .returned (.tuple #[v, .bool (srOk l s)]) ∧ OwnS w' w.heap.size (srL l s) v) ∧ Below w.heap.size w w'
theorem SrPost.no {l : List StrT} {s : ByteArray} {w w' : World} (h : srOk l s = false) (hb : Below w.heap.size w w') : SrPost l s w (.returned (.tuple #[.slice none 0 0, .bool false])) w' := by
  refine ⟨⟨_, by rw [h], ?_⟩, hb⟩
  rw [srL, h]
  exact World.ownsRow_nil _ _ _ _
theorem SrPost.yes {l : List StrT} {s : ByteArray} {v : Value} {w w' : World} (h : srOk l s = true) (ho : OwnS w' w.heap.size (roadsK l s l.length) v) (hb : Below w.heap.size w w') : SrPost l s w (.returned (.tuple #[v, .bool true])) w' := by
  refine ⟨⟨v, by rw [h], ?_⟩, hb⟩
  rw [srL, h]
  exact ho
set_option maxHeartbeats 4000000 in
theorem implSimilarRoads_any (A : Option Addr) (n c : Nat) (l : List (ByteArray × Int × Int × Int × Int)) (s : ByteArray) (w : World) (hn : n = l.length) (hm : n ≤ 1048576) (hs : ∀ x ∈ l, x.1.size ≤ maxLen) (hr : Rd w A (l.flatMap scells)) (hz : s.size ≤ maxLen) :
    Calls Try.prog 10 #[.slice A n c, .string s] w (SrPost l s w) := by
  have Q := hide (areStretches_any A n c l w hn hm hs hr)
  have QR := hide (fun W => isRoad_any s W hz)
  have Hn := hide hn
  have Hr := hide hr
  have HOK := hide (show srOk l s = (strsB l && roadB s) from rfl)
  clear hs hr hn hz
  cases h1 : strsB l with
  | false =>
    rw [h1] at Q
    have HE := hide (show srOk l s = false by rw [HOK.out, h1]; rfl)
    go_enter Try.func10, Try.ntmps10
    go_wp2_with fail
    refine Q.out.mono ?_
    rintro e w1 ⟨rfl, hq⟩
    go_wp2
    go_ret2
    exact SrPost.no HE.out hq
  | true =>
    rw [h1] at Q
    have HL := hide h1
    cases h2 : roadB s with
    | false =>
      have HE := hide (show srOk l s = false by rw [HOK.out, h1, h2]; rfl)
      have q2 := QR.out
      rw [h2] at q2
      clear h1 h2
      go_enter Try.func10, Try.ntmps10
      go_wp2_with fail
      refine Q.out.mono ?_
      rintro e w1 ⟨rfl, hq⟩
      go_wp2_with (go_at_call 29; ((with_reducible refine (q2 _).mono ?_); rintro e w' ⟨rfl, rfl⟩))
      go_ret2
      exact SrPost.no HE.out hq
    | true =>
      have q2 := QR.out
      rw [h2] at q2
      have HE := hide (show srOk l s = true by rw [HOK.out, h1, h2]; rfl)
      have hz10 : s.size ≤ 10 := by
        simp only [roadB, Bool.and_eq_true, inB_iff] at h2
        omega
      clear h1 h2 HOK
      go_enter Try.func10, Try.ntmps10
      go_wp2_with fail
      refine Q.out.mono ?_
      rintro e w1 ⟨rfl, hq⟩
      have HB1 := hide hq
      clear hq
      go_wp2_with (go_at_call 29; ((with_reducible refine (q2 _).mono ?_); rintro e w' ⟨rfl, rfl⟩))
      refine (similarRoads_any A n c l s _ Hn.out HL.out (Hr.out.below HB1.out) hz10).mono ?_
      rintro e w2 ⟨⟨v, rfl, ho⟩, hq⟩
      obtain ⟨A2, k2, rfl, -⟩ := own_open ho
      have HO := hide (own_le (B' := w.heap.size) ho HB1.out.size)
      have HB2 := hide (below_step HB1.out hq)
      clear ho hq
      go_wp2
      go_ret2
      exact SrPost.yes HE.out HO.out HB2.out
set_option maxHeartbeats 4000000 in
theorem specSimilarRoads_any (A : Option Addr) (n c : Nat) (l : List (ByteArray × Int × Int × Int × Int)) (s : ByteArray) (w : World) (hn : n = l.length) (hm : n ≤ 1048576) (hs : ∀ x ∈ l, x.1.size ≤ maxLen) (hr : Rd w A (l.flatMap scells)) (hz : s.size ≤ maxLen) :
    Calls Try.prog 8 #[.slice A n c, .string s] w (SrPost l s w) := by
  have Q := hide (adGood_any A n c l w hn hm hs hr)
  have QR := hide (fun W => adName_any s W hz)
  have Hn := hide hn
  have Hr := hide hr
  have HOK := hide (show srOk l s = (strsB l && roadB s) from rfl)
  clear hs hr hn hz
  cases h1 : strsB l with
  | false =>
    rw [h1] at Q
    have HE := hide (show srOk l s = false by rw [HOK.out, h1]; rfl)
    go_enter Try.func8, Try.ntmps8
    go_wp2_with fail
    refine Q.out.mono ?_
    rintro e w1 ⟨rfl, hq⟩
    go_wp2
    go_ret2
    exact SrPost.no HE.out hq
  | true =>
    rw [h1] at Q
    have HL := hide h1
    cases h2 : roadB s with
    | false =>
      have HE := hide (show srOk l s = false by rw [HOK.out, h1, h2]; rfl)
      have q2 := QR.out
      rw [h2] at q2
      clear h1 h2
      go_enter Try.func8, Try.ntmps8
      go_wp2_with fail
      refine Q.out.mono ?_
      rintro e w1 ⟨rfl, hq⟩
      go_wp2_with (go_at_call 26; ((with_reducible refine (q2 _).mono ?_); rintro e w' ⟨rfl, rfl⟩))
      go_ret2
      exact SrPost.no HE.out hq
    | true =>
      have q2 := QR.out
      rw [h2] at q2
      have HE := hide (show srOk l s = true by rw [HOK.out, h1, h2]; rfl)
      have hz10 : s.size ≤ 10 := by
        simp only [roadB, Bool.and_eq_true, inB_iff] at h2
        omega
      clear h1 h2 HOK
      go_enter Try.func8, Try.ntmps8
      go_wp2_with fail
      refine Q.out.mono ?_
      rintro e w1 ⟨rfl, hq⟩
      have HB1 := hide hq
      clear hq
      go_wp2_with (go_at_call 26; ((with_reducible refine (q2 _).mono ?_); rintro e w' ⟨rfl, rfl⟩))
      refine (adRoads_any A n c l s _ Hn.out HL.out (Hr.out.below HB1.out) hz10).mono ?_
      rintro e w2 ⟨⟨v, rfl, ho⟩, hq⟩
      obtain ⟨A2, k2, rfl, -⟩ := own_open ho
      have HO := hide (own_le (B' := w.heap.size) ho HB1.out.size)
      have HB2 := hide (below_step HB1.out hq)
      clear ho hq
      go_wp2
      go_ret2
      exact SrPost.yes HE.out HO.out HB2.out
end Go.Proofs.Ytfahiammopgflaa

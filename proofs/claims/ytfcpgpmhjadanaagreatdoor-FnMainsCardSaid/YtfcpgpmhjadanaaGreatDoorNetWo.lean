/- WithoutMain: what the program's and the reference's return. -/
import Derived.Test.YtfcpgpmhjadanaaGreatDoorNetCm
import Derived.Test.YtfcpgpmhjadanaaGreatDoorNetGs
namespace Go.Proofs.YtfcpgpmhjadanaaGreatDoor
open Go.RowKit
set_option linter.unusedVariables false

def woOk (M H : List (Int × Int)) (i : Int) : Bool := netB M H && inB i 0 ((M.length : Int) - 1)
def woM (M H : List (Int × Int)) (i : Int) : List (Int × Int) := if woOk M H i then closeM M i.toNat else []
def woH (M H : List (Int × Int)) (i : Int) : List (Int × Int) := if woOk M H i then H else []
def WoPost (M H : List (Int × Int)) (i : Int) (w : World) (e : Ending) (w' : World) : Prop :=
  (∃ v v', e = .returned (.tuple #[.agg #[v, v'], .bool (woOk M H i)]) ∧ OwnN w' w.heap.size (woM M H i) (woH M H i) v v') ∧ Below w.heap.size w w'
theorem WoPost.no {M H : List (Int × Int)} {i : Int} {w w' : World} (h : woOk M H i = false) (hb : Below w.heap.size w w') : WoPost M H i w (.returned (.tuple #[.agg #[.slice none 0 0, .slice none 0 0], .bool false])) w' := by
  refine ⟨⟨.slice none 0 0, .slice none 0 0, by rw [h], ?_⟩, hb⟩
  rw [woM, woH, h]
  exact ⟨World.ownsRow_nil _ _ _ _, World.ownsRow_nil _ _ _ _⟩
theorem WoPost.yes {M H : List (Int × Int)} {i : Nat} {w w' : World} {v v' : Value} (h : woOk M H i = true) (ho : OwnN w' w.heap.size (closeM M i) H v v') (hb : Below w.heap.size w w') : WoPost M H i w (.returned (.tuple #[.agg #[v, v'], .bool true])) w' := by
  refine ⟨⟨v, v', by rw [h], ?_⟩, hb⟩
  rw [woM, woH, h]
  exact ho
theorem closeM_length (M : List (Int × Int)) (i : Nat) : (closeM M i).length = M.length := by simp [closeM]
theorem wo_length (M H : List (Int × Int)) (i : Int) : (woM M H i).length + (woH M H i).length ≤ 1048576 := by
  unfold woM woH
  split
  · next h =>
    rw [woOk, Bool.and_eq_true] at h
    have := netB_ok h.1
    have h1 := this.m10
    have h2 := this.h10
    rw [closeM_length]
    omega
  · simp

set_option maxRecDepth 100000 in
set_option maxHeartbeats 4000000 in
theorem implWithoutMain_any (A B : Option Addr) (n c m d : Nat) (i : Int) (M H : List (Int × Int)) (w : World) (hn : n = M.length) (hm : m = H.length) (hnm : n ≤ maxLen) (hmm : m ≤ maxLen) (hr : NetRd w A B M H) :
    Calls Tryz.prog 22 #[.agg #[.slice A n c, .slice B m d], .int .i64 i] w (WoPost M H i w) := by
  have Hn := hide hn
  have Hm := hide hm
  have Hr := hide hr
  have HF0 := hide ((Row.new w #[.slice A n c, .slice B m d] 27).alloc (.cells #[.slice none 0 0, .slice none 0 0] 27))
  have hg0 := Row.new (w.alloc (.cells #[.slice A n c, .slice B m d] 27)) #[.slice none 0 0, .slice none 0 0] 27
  rw [show (w.alloc (.cells #[.slice A n c, .slice B m d] 27)).heap.size = w.heap.size + 1 by simp] at hg0
  have HG0 := hide hg0
  have Q := hide (implisNet_any w.heap.size A B n c m d M H _ hn hm hnm hmm ((NetRd.alloc hr _).alloc _) (HF0.out.2.1 0 _ rfl) (HF0.out.2.1 1 _ rfl))
  clear hn hm hr hg0
  go_enter Tryz.func22, Tryz.ntmps22
  go_wp2_with fail
  refine Q.out.mono ?_
  rintro e w1 ⟨rfl, hq⟩
  have HF1 := hide (HF0.out.below hq)
  have HG1 := hide (HG0.out.below hq)
  have HW1 : Hid (Below w.heap.size w w1) := hide (below_step (below_alloc (below_alloc (Below.refl _ _) _) _) hq)
  clear hq Q HF0 HG0
  have a0 := HF1.out.2.1 0 _ rfl
  have a1 := HF1.out.2.1 1 _ rfl
  have e0 := HG1.out.2.1 0 _ rfl
  have e1 := HG1.out.2.1 1 _ rfl
  have f0 := HG1.out.free 0
  have f1 := HG1.out.free 1
  have z0 := HF1.out.1
  cases hN : netB M H with
  | false =>
    have HN : Hid (woOk M H i = false) := hide (by rw [woOk, hN]; rfl)
    clear hN
    go_wp2
    exact bodyPost_ret (v := .tuple #[.agg #[.slice none 0 0, .slice none 0 0], .bool false]) (by simp [results, Tryz.results22, go_sem, *]) rfl (WoPost.no HN.out ((HW1.out.setCell (by simp) _).setCell (by simp) _))
  | true =>
    have hk := netB_ok hN
    have h1 := hk.m1
    have h2 := hk.m10
    have h3 := hk.h10
    have hn10 : n ≤ 10 := by have := Hn.out; omega
    have hm10 : m ≤ 10 := by have := Hm.out; omega
    have e6 : IntKind.i64.wrap ((n : Int) - 1) = (n : Int) - 1 := IntWalk.i64_in _ (by omega)
    have HE : Hid (woOk M H i = inB i 0 ((n : Int) - 1)) := hide (by rw [woOk, hN, ← show n = M.length from Hn.out]; rfl)
    have q1 := fun W => inside_any i 0 ((n : Int) - 1) W
    clear hN hk h1 h2 h3
    cases hi : inB i 0 ((n : Int) - 1) with
    | false =>
      have HN : Hid (woOk M H i = false) := hide (by rw [HE.out, hi])
      rw [hi] at q1
      clear hi
      go_wp2_with (go_at_call 51; ((with_reducible refine (q1 _).mono ?_); rintro e w' ⟨rfl, rfl⟩))
      exact bodyPost_ret (v := .tuple #[.agg #[.slice none 0 0, .slice none 0 0], .bool false]) (by simp [results, Tryz.results22, go_sem, *]) rfl (WoPost.no HN.out ((HW1.out.setCell (by simp) _).setCell (by simp) _))
    | true =>
      have HY : Hid (woOk M H i = true) := hide (by rw [HE.out, hi])
      rw [hi] at q1
      obtain ⟨i1, i2⟩ := inB_iff.1 hi
      obtain ⟨k, rfl⟩ := Int.eq_ofNat_of_zero_le i1
      have hkn : k < n := by omega
      clear hi i1 i2
      go_wp2_with (go_at_call 51; ((with_reducible refine (q1 _).mono ?_); rintro e w' ⟨rfl, rfl⟩))
      refine (withoutMain_any w.heap.size A B n c m d k M H w1 Hn.out Hm.out hn10 hm10 hkn (NetRd.below Hr.out HW1.out) a0 a1).mono ?_
      rintro e w2 ⟨⟨v, v', rfl, ho⟩, hq⟩
      have HW2 : Hid (Below w.heap.size w w2) := hide (below_step HW1.out hq)
      have HG2 := hide (HG1.out.below hq)
      obtain ⟨A2, k2, rfl, -⟩ := own_open ho.1
      obtain ⟨A3, k3, rfl, -⟩ := own_open ho.2
      have HZ := hide HG1.out.1
      have HO := hide ho
      clear hq ho a0 a1 e0 e1 f0 f1
      have e0 := HG2.out.2.1 0 _ rfl
      have e1 := HG2.out.2.1 1 _ rfl
      have f0 := HG2.out.free 0
      have f1 := HG2.out.free 1
      have hlm := closeM_length M k
      go_wp2
      exact bodyPost_ret (v := .tuple #[.agg #[.slice A2 (closeM M k).length k2, .slice A3 H.length k3], .bool true]) (by simp [results, Tryz.results22, go_sem, *]) rfl (WoPost.yes HY.out ⟨own_le (own_far_any (own_far_any HO.out.1 HZ.out) HZ.out) (HW1.out.size), own_le (own_far_any (own_far_any HO.out.2 HZ.out) HZ.out) (HW1.out.size)⟩ ((HW2.out.setCell (by simp) _).setCell (by simp) _))
set_option maxRecDepth 100000 in
set_option maxHeartbeats 4000000 in
theorem specWithoutMain_any (bA oA bB oB n c m d : Nat) (i : Int) (M H : List (Int × Int)) (w : World) (hn : n = M.length) (hm : m = H.length) (hnm : n ≤ maxLen) (hmm : m ≤ maxLen) (hr : NetRd w (some ⟨bA, oA, none⟩) (some ⟨bB, oB, none⟩) M H) :
    Calls Tryz.prog 23 #[.agg #[.slice (some ⟨bA, oA, none⟩) n c, .slice (some ⟨bB, oB, none⟩) m d], .int .i64 i] w (WoPost M H i w) := by
  have Hn := hide hn
  have Hm := hide hm
  have Hr := hide hr
  have HF0 := hide ((Row.new w #[.slice (some ⟨bA, oA, none⟩) n c, .slice (some ⟨bB, oB, none⟩) m d] 27).alloc (.cells #[.slice none 0 0, .slice none 0 0] 27))
  have hg0 := Row.new (w.alloc (.cells #[.slice (some ⟨bA, oA, none⟩) n c, .slice (some ⟨bB, oB, none⟩) m d] 27)) #[.slice none 0 0, .slice none 0 0] 27
  rw [show (w.alloc (.cells #[.slice (some ⟨bA, oA, none⟩) n c, .slice (some ⟨bB, oB, none⟩) m d] 27)).heap.size = w.heap.size + 1 by simp] at hg0
  have HG0 := hide hg0
  have Q := hide (hyGood_any (some ⟨bA, oA, none⟩) (some ⟨bB, oB, none⟩) n c m d M H _ hn hm hnm hmm ((NetRd.alloc hr (.cells #[.slice (some ⟨bA, oA, none⟩) n c, .slice (some ⟨bB, oB, none⟩) m d] 27)).alloc (.cells #[.slice none 0 0, .slice none 0 0] 27)))
  clear hn hm hr hg0
  go_enter Tryz.func23, Tryz.ntmps23
  go_wp2_with fail
  refine Q.out.mono ?_
  rintro e w1 ⟨rfl, hq⟩
  have HF1 := hide (HF0.out.below hq)
  have HG1 := hide (HG0.out.below hq)
  have HW1 : Hid (Below w.heap.size w w1) := hide (below_step (below_alloc (below_alloc (Below.refl _ _) _) _) hq)
  clear hq Q HF0 HG0
  have a0 := HF1.out.2.1 0 _ rfl
  have a1 := HF1.out.2.1 1 _ rfl
  have e0 := HG1.out.2.1 0 _ rfl
  have e1 := HG1.out.2.1 1 _ rfl
  have f0 := HG1.out.free 0
  have f1 := HG1.out.free 1
  have z0 := HF1.out.1
  cases hN : netB M H with
  | false =>
    have HN : Hid (woOk M H i = false) := hide (by rw [woOk, hN]; rfl)
    clear hN
    go_wp2
    exact bodyPost_ret (v := .tuple #[.agg #[.slice none 0 0, .slice none 0 0], .bool false]) (by simp [results, Tryz.results23, go_sem, *]) rfl (WoPost.no HN.out ((HW1.out.setCell (by simp) _).setCell (by simp) _))
  | true =>
    have hk := netB_ok hN
    have h1 := hk.m1
    have h2 := hk.m10
    have h3 := hk.h10
    have hn10 : n ≤ 10 := by have := Hn.out; omega
    have hm10 : m ≤ 10 := by have := Hm.out; omega
    have e6 : IntKind.i64.wrap ((n : Int) - 1) = (n : Int) - 1 := IntWalk.i64_in _ (by omega)
    have HE : Hid (woOk M H i = inB i 0 ((n : Int) - 1)) := hide (by rw [woOk, hN, ← show n = M.length from Hn.out]; rfl)
    have q1 := fun W => l1In_any i 0 ((n : Int) - 1) W
    clear hN hk h1 h2 h3
    cases hi : inB i 0 ((n : Int) - 1) with
    | false =>
      have HN : Hid (woOk M H i = false) := hide (by rw [HE.out, hi])
      rw [hi] at q1
      clear hi
      go_wp2_with (go_at_call 53; ((with_reducible refine (q1 _).mono ?_); rintro e w' ⟨rfl, rfl⟩))
      exact bodyPost_ret (v := .tuple #[.agg #[.slice none 0 0, .slice none 0 0], .bool false]) (by simp [results, Tryz.results23, go_sem, *]) rfl (WoPost.no HN.out ((HW1.out.setCell (by simp) _).setCell (by simp) _))
    | true =>
      have HY : Hid (woOk M H i = true) := hide (by rw [HE.out, hi])
      rw [hi] at q1
      obtain ⟨i1, i2⟩ := inB_iff.1 hi
      obtain ⟨k, rfl⟩ := Int.eq_ofNat_of_zero_le i1
      have hkn : k < n := by omega
      clear hi i1 i2
      go_wp2_with (go_at_call 53; ((with_reducible refine (q1 _).mono ?_); rintro e w' ⟨rfl, rfl⟩))
      refine (hyWithout_any bA oA bB oB n c m d k M H w1 Hn.out Hm.out hn10 hm10 hkn (NetRd.below Hr.out HW1.out)).mono ?_
      rintro e w2 ⟨⟨v, v', rfl, ho⟩, hq⟩
      have HW2 : Hid (Below w.heap.size w w2) := hide (below_step HW1.out hq)
      have HG2 := hide (HG1.out.below hq)
      obtain ⟨A2, k2, rfl, -⟩ := own_open ho.1
      obtain ⟨A3, k3, rfl, -⟩ := own_open ho.2
      have HZ := hide HG1.out.1
      have HO := hide ho
      clear hq ho a0 a1 e0 e1 f0 f1
      have e0 := HG2.out.2.1 0 _ rfl
      have e1 := HG2.out.2.1 1 _ rfl
      have f0 := HG2.out.free 0
      have f1 := HG2.out.free 1
      have hlm := closeM_length M k
      go_wp2
      exact bodyPost_ret (v := .tuple #[.agg #[.slice A2 (closeM M k).length k2, .slice A3 H.length k3], .bool true]) (by simp [results, Tryz.results23, go_sem, *]) rfl (WoPost.yes HY.out ⟨own_le (own_far_any (own_far_any HO.out.1 HZ.out) HZ.out) (HW1.out.size), own_le (own_far_any (own_far_any HO.out.2 HZ.out) HZ.out) (HW1.out.size)⟩ ((HW2.out.setCell (by simp) _).setCell (by simp) _))
end Go.Proofs.YtfcpgpmhjadanaaGreatDoor

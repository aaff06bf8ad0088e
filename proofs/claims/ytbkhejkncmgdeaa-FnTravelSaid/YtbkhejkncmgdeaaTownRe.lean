/- RouteBetween: both sides. -/
import Derived.Test.YtbkhejkncmgdeaaTownRd
namespace Go.Proofs.Ytbkhejkncmgdeaa
open Go.RowKit
set_option linter.unusedVariables false

def lowC (k : Nat) (D : Nat → Int) (a : Nat) : Nat := (List.range k).countP fun v => decide (0 ≤ D v) && decide (D v < D a)
theorem rest_short {k : Nat} {l : List (Int × Int × Int)} {D : Nat → Int} {to : Nat} (h : Fits k l) (hc : chainB (fitB k) befB l = true) (hd : IsDist (edges l) to D) : ∀ (m a : Nat), 0 ≤ D a → D a ≤ m → (restF k l D to a).length ≤ lowC k D a + 1 := by
  intro m
  induction m with
  | zero =>
    intro a h0 hm
    have : (D a).toNat = 0 := by omega
    rw [restF, this]
    simp [routeL]
  | succ m ih =>
    intro a h0 hm
    by_cases ha : a = to
    · subst ha; rw [rest_end hd]; simp
    · obtain ⟨h1, h2, h3⟩ := nextF_spec (next_some h hc hd h0 ha)
      obtain ⟨h4, h5, h6⟩ := rest_step h hc hd h0 ha h1 h2 h3
      rw [h4, List.length_cons]
      have hl := ih _ h5 (by omega)
      have : lowC k D (nextF k l D a) < lowC k D a := by
        refine countP_lt _ (fun v hv hq => ?_) ⟨nextF k l D a, by simpa using h1, by simp; omega, by simp⟩
        simp only [Bool.and_eq_true, decide_eq_true_eq] at hq ⊢
        omega
      omega
theorem lowC_le (k : Nat) (D : Nat → Int) (a : Nat) : lowC k D a ≤ k := by
  have := List.countP_le_length (p := fun v => decide (0 ≤ D v) && decide (D v < D a)) (l := List.range k)
  simpa [lowC] using this

def rbOk (nd : Int) (l : List (Int × Int × Int)) (i j : Int) : Bool := bothB nd l i j && decide (0 ≤ timesF nd.toNat l j.toNat i.toNat)
def rbL (nd : Int) (l : List (Int × Int × Int)) (i j : Int) : List Int := if rbOk nd l i j then (restF nd.toNat l (timesF nd.toNat l j.toNat) j.toNat i.toNat).map (fun (a : Nat) => (a : Int)) else []
theorem natL_ints (L : List Nat) : natL L = (L.map (fun (a : Nat) => (a : Int))).map (Value.int .i64) := by simp [natL, Function.comp_def]
theorem rbL_length (nd : Int) (l : List (Int × Int × Int)) (i j : Int) : (rbL nd l i j).length ≤ 1048576 := by
  unfold rbL
  split
  · rename_i h
    rw [rbOk, Bool.and_eq_true, bothB, Bool.and_eq_true, decide_eq_true_eq] at h
    obtain ⟨k, x, rfl, rfl, hx, hk⟩ := goodB_ok h.1.1
    obtain ⟨y, rfl, hy⟩ := nodeB_ok h.1.2
    have hd := times_dist hk.fits hy
    simp only [Int.toNat_natCast] at *
    have h1 := rest_short hk.fits hk.chain hd (timesF k l y x).toNat x h.2 (by omega)
    have h2 := lowC_le k (timesF k l y) x
    have := hk.hi
    simp only [List.length_map]
    omega
  · simp
def RbPost (nd : Int) (l : List (Int × Int × Int)) (i j : Int) (w : World) (e : Ending) (w' : World) : Prop :=
  (∃ v, e = .returned (.tuple #[v, .bool (rbOk nd l i j)]) ∧ w'.ownsRow w.heap.size 3 1 v (rbL nd l i j).length ((rbL nd l i j).map (Value.int .i64))) ∧ Below w.heap.size w w'
theorem RbPost.no {nd : Int} {l : List (Int × Int × Int)} {i j : Int} {w w' : World} (h : rbOk nd l i j = false) (hb : Below w.heap.size w w') : RbPost nd l i j w (.returned (.tuple #[.slice none 0 0, .bool false])) w' := by
  refine ⟨⟨.slice none 0 0, by rw [h], ?_⟩, hb⟩
  rw [rbL, h]
  exact World.ownsRow_nil _ _ _ _
theorem RbPost.of {k x y : Nat} {l : List (Int × Int × Int)} {B : Nat} {w w' : World} {v : Value} {b : Bool} (hB : bothB k l x y = true) (hb' : decide (0 ≤ timesF k l y x) = b) (ho : w'.ownsRow B 3 1 v (if 0 ≤ timesF k l y x then restF k l (timesF k l y) y x else []).length (natL (if 0 ≤ timesF k l y x then restF k l (timesF k l y) y x else []))) (hBB : w.heap.size ≤ B) (hb : Below w.heap.size w w') : RbPost k l x y w (.returned (.tuple #[v, .bool b])) w' := by
  have hok : rbOk k l x y = b := by rw [rbOk, hB]; exact hb'
  refine ⟨⟨v, by rw [hok], ?_⟩, hb⟩
  have e : rbL k l x y = (if 0 ≤ timesF k l y x then restF k l (timesF k l y) y x else []).map (fun (a : Nat) => (a : Int)) := by
    rw [rbL, hok]
    cases b with
    | true => rw [if_pos (of_decide_eq_true hb')]; rfl
    | false => rw [if_neg (of_decide_eq_false hb')]; rfl
  rw [e, List.length_map, ← natL_ints]
  exact own_le ho hBB

set_option maxRecDepth 100000 in
set_option maxHeartbeats 4000000 in
theorem implRouteBetween_any (nd i j : Int) (A : Option Addr) (n c : Nat) (l : List (Int × Int × Int)) (w : World) (hn : n = l.length) (hnc : n ≤ c) (hc : c ≤ maxLen) (hr : Rd w A (l.flatMap tcells)) :
    Calls Try.prog 17 #[.agg #[.int .i64 nd, .slice A n c], .int .i64 i, .int .i64 j] w (RbPost nd l i j w) := by
  have Hn := hide hn
  have Hr := hide hr
  have hm : n ≤ maxLen := Nat.le_trans hnc hc
  have HF0 := hide (Row.new w #[.int .i64 nd, .slice A n c] 30)
  have Q := hide (implisTown_any w.heap.size nd A n c l _ hn hm (hr.alloc _) HF0.out.1 (HF0.out.at 0 rfl) (HF0.out.at 1 rfl))
  clear hn hr hnc hc
  go_enter Try.func17, Try.ntmps17
  go_wp2_with fail
  refine Q.out.mono ?_
  rintro e w1 ⟨rfl, hq⟩
  have HF1 := hide (HF0.out.below hq)
  have HW1 : Hid (Below w.heap.size w w1) := hide (below_step (below_alloc (Below.refl _ _) _) hq)
  clear hq Q HF0
  have a0 := HF1.out.at 0 rfl
  have a1 := HF1.out.at 1 rfl
  have z0 := HF1.out.1
  cases ht : townB nd l with
  | false =>
    have HN : Hid (rbOk nd l i j = false) := hide (by rw [rbOk, bothB, goodB, ht]; rfl)
    clear ht
    go_wp2
    go_ret2
    exact RbPost.no HN.out HW1.out
  | true =>
    have HT := hide ht
    obtain ⟨k, rfl, hk⟩ := townB_ok ht
    have h1 := hk.lo
    have h2 := hk.hi
    have HK := hide hk
    clear ht hk
    have HH := hide (fun i => has_any w.heap.size (k : Int) i w1 (by omega) (by omega) z0 a0)
    cases hi : nodeB k i with
    | false =>
      have HN : Hid (rbOk k l i j = false) := hide (by rw [rbOk, bothB, goodB, hi, Bool.and_false]; rfl)
      have q1 := HH.out i
      rw [hi] at q1
      clear hi
      go_wp2_with (go_at_call 44; ((with_reducible refine (q1).mono ?_); rintro e w' ⟨rfl, rfl⟩))
      go_ret2
      exact RbPost.no HN.out HW1.out
    | true =>
      cases hj : nodeB k j with
      | false =>
        have HN : Hid (rbOk k l i j = false) := hide (by rw [rbOk, bothB, hj, Bool.and_false]; rfl)
        have q1 := HH.out i
        have q2 := HH.out j
        rw [hi] at q1
        rw [hj] at q2
        clear hi hj
        go_wp2_with (first | (go_at_call 44; ((with_reducible refine (q1).mono ?_); rintro e w' ⟨rfl, rfl⟩)) | (go_at_call 44; ((with_reducible refine (q2).mono ?_); rintro e w' ⟨rfl, rfl⟩)))
        go_ret2
        exact RbPost.no HN.out HW1.out
      | true =>
        have HB : Hid (bothB k l i j = true) := hide (by rw [bothB, goodB, HT.out, hi, hj]; rfl)
        have q1 := HH.out i
        have q2 := HH.out j
        rw [hi] at q1
        rw [hj] at q2
        obtain ⟨x, rfl, hx⟩ := nodeB_ok hi
        obtain ⟨y, rfl, hy⟩ := nodeB_ok hj
        clear hi hj
        go_wp2_with (first | (go_at_call 44; ((with_reducible refine (q1).mono ?_); rintro e w' ⟨rfl, rfl⟩)) | (go_at_call 44; ((with_reducible refine (q2).mono ?_); rintro e w' ⟨rfl, rfl⟩)))
        refine (route_any w.heap.size k n c x y A l _ Hn.out HK.out hx hy (Hr.out.below HW1.out) a0 a1).mono ?_
        rintro e w2 ⟨⟨v, rfl, ho⟩, hq⟩
        have HW2 : Hid (Below w.heap.size w w2) := hide (below_step HW1.out hq)
        have HO := hide ho
        clear hq ho a0 a1 z0 q1 q2
        go_wp2
        go_ret2
        exact RbPost.of HB.out rfl HO.out HW1.out.size HW2.out

set_option maxRecDepth 100000 in
set_option maxHeartbeats 4000000 in
theorem specRouteBetween_any (nd i j : Int) (A : Option Addr) (n c : Nat) (l : List (Int × Int × Int)) (w : World) (hn : n = l.length) (hnc : n ≤ c) (hc : c ≤ maxLen) (hr : Rd w A (l.flatMap tcells)) :
    Calls Try.prog 18 #[.agg #[.int .i64 nd, .slice A n c], .int .i64 i, .int .i64 j] w (RbPost nd l i j w) := by
  have Hn := hide hn
  have Hr := hide hr
  have hm : n ≤ maxLen := Nat.le_trans hnc hc
  have HF0 := hide (Row.new w #[.int .i64 nd, .slice A n c] 30)
  have Q := hide (toBoth_any nd i j A n c l _ hn hm (hr.alloc (.cells #[.int .i64 nd, .slice A n c] 30)))
  clear hn hr hnc hc
  go_enter Try.func18, Try.ntmps18
  go_wp2_with fail
  refine Q.out.mono ?_
  rintro e w1 ⟨rfl, hq⟩
  have HF1 := hide (HF0.out.below hq)
  have HW1 : Hid (Below w.heap.size w w1) := hide (below_step (below_alloc (Below.refl _ _) _) hq)
  clear hq Q HF0
  have a0 := HF1.out.at 0 rfl
  have a1 := HF1.out.at 1 rfl
  cases ht : bothB nd l i j with
  | false =>
    have HN : Hid (rbOk nd l i j = false) := hide (by rw [rbOk, ht]; rfl)
    clear ht
    go_wp2
    go_ret2
    exact RbPost.no HN.out HW1.out
  | true =>
    have HB := hide ht
    rw [bothB, Bool.and_eq_true] at ht
    obtain ⟨k, x, rfl, rfl, hx, hk⟩ := goodB_ok ht.1
    obtain ⟨y, rfl, hy⟩ := nodeB_ok ht.2
    have h1 := hk.lo
    have h2 := hk.hi
    have HK := hide hk
    have HSY := hide (times_sym hk.fits hx hy)
    clear ht hk
    go_wp2_with fail
    refine (toTimes_any k n c x A l _ Hn.out (by have := Hn.out; have := HK.out.len; omega) h2 hx HK.out.fits (Hr.out.below HW1.out)).mono ?_
    rintro e w2 ⟨rfl, ho, hq⟩
    have d0 := ho.cell hy
    have HW2 : Hid (Below w.heap.size w w2) := hide (below_step HW1.out hq)
    have HF2 := hide (HF1.out.below hq)
    rw [HSY.out] at d0
    clear ho hq a0 a1 HF1
    have a0 := HF2.out.at 0 rfl
    have a1 := HF2.out.at 1 rfl
    have hyi : (y : Int) < (k : Int) := by omega
    by_cases h0 : 0 ≤ timesF k l y x
    · have HFI := hide h0
      have HPO := hide (fun (w' : World) (B : Nat) (v : Value) (ho : w'.ownsRow B 3 1 v (restF k l (timesF k l y) y x).length (natL (restF k l (timesF k l y) y x))) (hBB : w.heap.size ≤ B) (hb : Below w.heap.size w w') => RbPost.of (w := w) (b := true) HB.out (decide_eq_true h0) (by rw [if_pos h0]; exact ho) hBB hb)
      have hneg : decide (timesF k l y x < 0) = false := by simpa using h0
      have QR := hide (fun W h => toRoute_any k n c x y A l W Hn.out HK.out hx hy h0 h)
      clear h0
      generalize timesF k l y x = v at *
      go_wp2_with fail
      refine (QR.out _ (Hr.out.below HW2.out)).mono ?_
      rintro e w3 ⟨⟨u, rfl, ho⟩, hq⟩
      have HW3 : Hid (Below w.heap.size w w3) := hide (below_step HW2.out hq)
      have HO := hide ho
      clear hq ho a0 a1 d0
      go_wp2
      go_ret2
      exact HPO.out _ _ _ HO.out HW2.out.size HW3.out
    · have HN : Hid (rbOk k l x y = false) := hide (by rw [rbOk, HB.out]; simpa using h0)
      have hneg : decide (timesF k l y x < 0) = true := by simpa using h0
      have hlt : timesF k l y x < 0 := by omega
      generalize timesF k l y x = v at *
      go_wp2
      go_ret2
      exact RbPost.no HN.out HW2.out
end Go.Proofs.Ytbkhejkncmgdeaa

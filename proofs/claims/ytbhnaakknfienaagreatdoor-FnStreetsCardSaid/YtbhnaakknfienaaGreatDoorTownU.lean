/- Valid towns and their nodes: the guards of the program's and the reference's functions. -/
import Derived.Test.YtbhnaakknfienaaGreatDoorTownT
import Derived.Test.YtbhnaakknfienaaGreatDoorTownF
namespace Go.Proofs.YtbhnaakknfienaaGreatDoor
open Go.RowKit
set_option linter.unusedVariables false

/-- What a valid town gives. -/
structure TownOk (k : Nat) (l : List (Int × Int × Int)) : Prop where
  lo : 1 ≤ k
  hi : k ≤ 14
  len : l.length ≤ 40
  chain : chainB (fitB k) befB l = true
theorem TownOk.fits {k : Nat} {l : List (Int × Int × Int)} (h : TownOk k l) : Fits k l := fun t ht => chainB_mem h.chain ht
theorem townB_ok {nd : Int} {l : List (Int × Int × Int)} (h : townB nd l = true) : ∃ k : Nat, nd = k ∧ TownOk k l := by
  simp only [townB, streetsB, Bool.and_eq_true, decide_eq_true_eq, inB_iff] at h
  obtain ⟨⟨⟨h1, h2⟩, h3⟩, h4⟩ := h
  obtain ⟨k, rfl⟩ := Int.eq_ofNat_of_zero_le (show 0 ≤ nd by omega)
  exact ⟨k, rfl, by omega, by omega, h3, h4⟩
theorem nodeB_ok {k : Nat} {i : Int} (h : nodeB k i = true) : ∃ j : Nat, i = j ∧ j < k := by
  obtain ⟨h1, h2⟩ := nodeB_iff.1 h
  obtain ⟨j, rfl⟩ := Int.eq_ofNat_of_zero_le h1
  exact ⟨j, rfl, by omega⟩

def goodB (nd : Int) (l : List (Int × Int × Int)) (i : Int) : Bool := townB nd l && nodeB nd i
def bothB (nd : Int) (l : List (Int × Int × Int)) (i j : Int) : Bool := goodB nd l i && nodeB nd j

set_option maxHeartbeats 1000000 in
theorem toNode_any (nd i : Int) (A : Option Addr) (n c : Nat) (l : List (Int × Int × Int)) (w : World) (hn : n = l.length) (hm : n ≤ maxLen) (hr : Rd w A (l.flatMap tcells)) :
    Calls Tryz.prog 58 #[.agg #[.int .i64 nd, .slice A n c], .int .i64 i] w fun e w' => e = .returned (.bool (goodB nd l i)) ∧ Below w.heap.size w w' := by
  have q := toGood_any nd A n c l (w.alloc (.cells #[.int .i64 nd, .slice A n c] 26)) hn hm (hr.alloc _)
  have Q := hide q
  clear q hn hm hr
  cases ht : townB nd l with
  | false =>
    rw [ht] at Q
    have HG : Hid (goodB nd l i = false) := hide (by rw [goodB, ht]; rfl)
    clear ht
    go_enter Tryz.func58, Tryz.ntmps58
    go_wp2_with (go_at_call 44; ((with_reducible refine (Q.out).mono ?_); rintro e w1 ⟨rfl, hb1⟩); obtain ⟨hc1, hf1⟩ := bcell hb1)
    go_ret
    exact ⟨ret_bool HG.out.symm, (by repeat (first | exact Below.refl _ _ | refine below_step ?_ (by assumption) | refine below_step ?_ (Later.below _) | refine below_alloc ?_ _ | refine Below.drew ?_ | refine Below.setCell ?_ (by first | (simp; done) | (simp; omega)) _))⟩
  | true =>
    rw [ht] at Q
    have HG : Hid (goodB nd l i = nodeB nd i) := hide (by rw [goodB, ht]; rfl)
    obtain ⟨k, rfl, hk⟩ := townB_ok ht
    have h1 := hk.lo
    have h2 := hk.hi
    clear ht hk
    go_enter Tryz.func58, Tryz.ntmps58
    go_wp2_with (first | (go_at_call 44; ((with_reducible refine (Q.out).mono ?_); rintro e w1 ⟨rfl, hb1⟩); obtain ⟨hc1, hf1⟩ := bcell hb1) | (go_at_call 59; ((with_reducible refine (l1In_any _ _ _ _).mono ?_); rintro e w' ⟨rfl, rfl⟩)))
    go_ret
    exact ⟨ret_bool HG.out.symm, (by repeat (first | exact Below.refl _ _ | refine below_step ?_ (by assumption) | refine below_step ?_ (Later.below _) | refine below_alloc ?_ _ | refine Below.drew ?_ | refine Below.setCell ?_ (by first | (simp; done) | (simp; omega)) _))⟩

set_option maxHeartbeats 1000000 in
theorem toBoth_any (nd i j : Int) (A : Option Addr) (n c : Nat) (l : List (Int × Int × Int)) (w : World) (hn : n = l.length) (hm : n ≤ maxLen) (hr : Rd w A (l.flatMap tcells)) :
    Calls Tryz.prog 39 #[.agg #[.int .i64 nd, .slice A n c], .int .i64 i, .int .i64 j] w fun e w' => e = .returned (.bool (bothB nd l i j)) ∧ Below w.heap.size w w' := by
  have q := toNode_any nd i A n c l (w.alloc (.cells #[.int .i64 nd, .slice A n c] 26)) hn hm (hr.alloc _)
  have Q := hide q
  clear q hn hm hr
  cases ht : goodB nd l i with
  | false =>
    rw [ht] at Q
    have HG : Hid (bothB nd l i j = false) := hide (by rw [bothB, ht]; rfl)
    clear ht
    go_enter Tryz.func39, Tryz.ntmps39
    go_wp2_with (go_at_call 58; ((with_reducible refine (Q.out).mono ?_); rintro e w1 ⟨rfl, hb1⟩); obtain ⟨hc1, hf1⟩ := bcell hb1)
    go_ret
    exact ⟨ret_bool HG.out.symm, (by repeat (first | exact Below.refl _ _ | refine below_step ?_ (by assumption) | refine below_step ?_ (Later.below _) | refine below_alloc ?_ _ | refine Below.drew ?_ | refine Below.setCell ?_ (by first | (simp; done) | (simp; omega)) _))⟩
  | true =>
    rw [ht] at Q
    have HG : Hid (bothB nd l i j = nodeB nd j) := hide (by rw [bothB, ht]; rfl)
    rw [goodB, Bool.and_eq_true] at ht
    obtain ⟨k, rfl, hk⟩ := townB_ok ht.1
    have h1 := hk.lo
    have h2 := hk.hi
    clear ht hk
    go_enter Tryz.func39, Tryz.ntmps39
    go_wp2_with (first | (go_at_call 58; ((with_reducible refine (Q.out).mono ?_); rintro e w1 ⟨rfl, hb1⟩); obtain ⟨hc1, hf1⟩ := bcell hb1) | (go_at_call 59; ((with_reducible refine (l1In_any _ _ _ _).mono ?_); rintro e w' ⟨rfl, rfl⟩)))
    go_ret
    exact ⟨ret_bool HG.out.symm, (by repeat (first | exact Below.refl _ _ | refine below_step ?_ (by assumption) | refine below_step ?_ (Later.below _) | refine below_alloc ?_ _ | refine Below.drew ?_ | refine Below.setCell ?_ (by first | (simp; done) | (simp; omega)) _))⟩

/-! ### TravelTime -/
def travOk (nd : Int) (l : List (Int × Int × Int)) (i j : Int) : Bool := bothB nd l i j && decide (0 ≤ timesF nd.toNat l i.toNat j.toNat)
def travV (nd : Int) (l : List (Int × Int × Int)) (i j : Int) : Int := if travOk nd l i j then timesF nd.toNat l i.toNat j.toNat else 0

set_option maxHeartbeats 1000000 in
theorem specTravelTime_any (nd i j : Int) (A : Option Addr) (n c : Nat) (l : List (Int × Int × Int)) (w : World) (hn : n = l.length) (hm : n ≤ maxLen) (hr : Rd w A (l.flatMap tcells)) :
    Calls Tryz.prog 15 #[.agg #[.int .i64 nd, .slice A n c], .int .i64 i, .int .i64 j] w fun e w' => e = .returned (.tuple #[.int .i64 (travV nd l i j), .bool (travOk nd l i j)]) ∧ Below w.heap.size w w' := by
  have q := toBoth_any nd i j A n c l (w.alloc (.cells #[.int .i64 nd, .slice A n c] 26)) hn hm (hr.alloc _)
  have Q := hide q
  have Hn := hide hn
  have Hr := hide hr
  clear q hn hm hr
  cases ht : bothB nd l i j with
  | false =>
    rw [ht] at Q
    have HG : Hid (travOk nd l i j = false ∧ travV nd l i j = 0) := hide (by rw [travV, travOk, ht]; exact ⟨rfl, rfl⟩)
    clear ht
    go_enter Tryz.func15, Tryz.ntmps15
    go_wp2_with (go_at_call 39; ((with_reducible refine (Q.out).mono ?_); rintro e w1 ⟨rfl, hb1⟩); obtain ⟨hc1, hf1⟩ := bcell hb1)
    go_ret2
    exact ⟨ret_tup2 HG.out.2.symm HG.out.1.symm, (by repeat (first | exact Below.refl _ _ | refine below_step ?_ (by assumption) | refine below_step ?_ (Later.below _) | refine below_alloc ?_ _ | refine Below.drew ?_ | refine Below.setCell ?_ (by first | (simp; done) | (simp; omega)) _))⟩
  | true =>
    rw [ht] at Q
    have HT := hide ht
    rw [bothB, goodB, Bool.and_eq_true, Bool.and_eq_true] at ht
    obtain ⟨k, rfl, hk⟩ := townB_ok ht.1.1
    obtain ⟨x, rfl, hx⟩ := nodeB_ok ht.1.2
    obtain ⟨y, rfl, hy⟩ := nodeB_ok ht.2
    have h1 := hk.lo
    have h2 := hk.hi
    have HK := hide hk
    clear ht hk
    have hv := times_lo HK.out.fits (x := x) k y
    have HV : Hid (∀ b, decide (0 ≤ timesF k l x y) = b → travOk k l x y = b ∧ travV k l x y = if b then timesF k l x y else 0) := hide (fun b hb => by rw [travV, travOk, HT.out, Bool.true_and]; simp only [Int.toNat_natCast, hb]; first | trivial | exact ⟨trivial, trivial⟩)
    go_enter Tryz.func15, Tryz.ntmps15
    go_wp2_with fail
    refine Q.out.mono ?_
    rintro e w1 ⟨rfl, hq⟩
    obtain ⟨a0, a1⟩ := cell_new2 w (.int .i64 k) (.slice A n c) 26
    have a0 := cell_on a0 hq
    have a1 := cell_on a1 hq
    have HW1 : Hid (Below w.heap.size w w1) := hide (below_step (by repeat (first | exact Below.refl _ _ | refine below_step ?_ (by assumption) | refine below_step ?_ (Later.below _) | refine below_alloc ?_ _ | refine Below.drew ?_ | refine Below.setCell ?_ (by first | (simp; done) | (simp; omega)) _)) hq)
    clear hq Q
    go_wp2_with fail
    refine (toTimes_any k n c x A l _ Hn.out (by have := Hn.out; have := HK.out.len; omega) h2 hx HK.out.fits (Hr.out.below HW1.out)).mono ?_
    rintro e w2 ⟨rfl, ho, hq⟩
    have c0 := ho.cell hy
    have HW2 : Hid (Below w.heap.size w w2) := hide (below_step HW1.out hq)
    clear hq ho a0 a1
    generalize timesF k l x y = v at *
    have hyi : (y : Int) < (k : Int) := by omega
    by_cases h0 : 0 ≤ v
    · obtain ⟨g1, g2⟩ := HV.out true (by simpa using h0)
      have G := hide (And.intro g1 g2)
      clear g1 g2
      go_wp2
      go_ret2
      exact ⟨ret_tup2 G.out.2.symm G.out.1.symm, HW2.out⟩
    · obtain ⟨g1, g2⟩ := HV.out false (by simpa using h0)
      have G := hide (And.intro g1 g2)
      clear g1 g2
      go_wp2
      go_ret2
      exact ⟨ret_tup2 G.out.2.symm G.out.1.symm, HW2.out⟩

set_option maxHeartbeats 1000000 in
theorem implTravelTime_any (nd i j : Int) (A : Option Addr) (n c : Nat) (l : List (Int × Int × Int)) (w : World) (hn : n = l.length) (hm : n ≤ maxLen) (hr : Rd w A (l.flatMap tcells)) :
    Calls Tryz.prog 16 #[.agg #[.int .i64 nd, .slice A n c], .int .i64 i, .int .i64 j] w fun e w' => e = .returned (.tuple #[.int .i64 (travV nd l i j), .bool (travOk nd l i j)]) ∧ Below w.heap.size w w' := by
  have q := implisTown_any w.heap.size nd A n c l (w.alloc (.cells #[.int .i64 nd, .slice A n c] 26)) hn hm (hr.alloc _) (by simp) ((Row.new _ _ _).2.1 0 _ rfl) ((Row.new _ _ _).2.1 1 _ rfl)
  have Q := hide q
  have Hn := hide hn
  have Hr := hide hr
  clear q hn hm hr
  cases ht : townB nd l with
  | false =>
    rw [ht] at Q
    have HG : Hid (travOk nd l i j = false ∧ travV nd l i j = 0) := hide (by rw [travV, travOk, bothB, goodB, ht]; exact ⟨rfl, rfl⟩)
    clear ht
    go_enter Tryz.func16, Tryz.ntmps16
    go_wp2_with (go_at_call 35; ((with_reducible refine (Q.out).mono ?_); rintro e w1 ⟨rfl, hb1⟩); obtain ⟨hc1, hf1⟩ := bcell hb1)
    go_ret2
    exact ⟨ret_tup2 HG.out.2.symm HG.out.1.symm, (by repeat (first | exact Below.refl _ _ | refine below_step ?_ (by assumption) | refine below_step ?_ (Later.below _) | refine below_alloc ?_ _ | refine Below.drew ?_ | refine Below.setCell ?_ (by first | (simp; done) | (simp; omega)) _))⟩
  | true =>
    rw [ht] at Q
    have HT := hide ht
    obtain ⟨k, rfl, hk⟩ := townB_ok ht
    have h1 := hk.lo
    have h2 := hk.hi
    have HK := hide hk
    clear ht hk
    go_enter Tryz.func16, Tryz.ntmps16
    go_wp2_with fail
    refine Q.out.mono ?_
    rintro e w1 ⟨rfl, hq⟩
    obtain ⟨a0, a1⟩ := cell_new2 w (.int .i64 k) (.slice A n c) 26
    have a0 := cell_on a0 hq
    have a1 := cell_on a1 hq
    have HW1 : Hid (Below w.heap.size w w1) := hide (below_step (by repeat (first | exact Below.refl _ _ | refine below_step ?_ (by assumption) | refine below_step ?_ (Later.below _) | refine below_alloc ?_ _ | refine Below.drew ?_ | refine Below.setCell ?_ (by first | (simp; done) | (simp; omega)) _)) hq)
    have z0 := World.block_lt_of_cell? w1 _ a0
    dsimp only at z0
    have HH := hide (fun i => has_any w.heap.size (k : Int) i w1 (by omega) (by omega) z0 a0)
    clear hq Q z0
    cases hi : nodeB k i with
    | false =>
      have HG : Hid (travOk k l i j = false ∧ travV k l i j = 0) := hide (by rw [travV, travOk, bothB, goodB, hi, Bool.and_false]; exact ⟨rfl, rfl⟩)
      have q1 := HH.out i
      rw [hi] at q1
      clear hi
      go_wp2_with (go_at_call 36; ((with_reducible refine (q1).mono ?_); rintro e w' ⟨rfl, rfl⟩))
      go_ret2
      exact ⟨ret_tup2 HG.out.2.symm HG.out.1.symm, HW1.out⟩
    | true =>
      cases hj : nodeB k j with
      | false =>
        have HG : Hid (travOk k l i j = false ∧ travV k l i j = 0) := hide (by rw [travV, travOk, bothB, goodB, hj, Bool.and_false]; exact ⟨rfl, rfl⟩)
        have q1 := HH.out i
        have q2 := HH.out j
        rw [hi] at q1
        rw [hj] at q2
        clear hi hj
        go_wp2_with (first | (go_at_call 36; ((with_reducible refine (q1).mono ?_); rintro e w' ⟨rfl, rfl⟩)) | (go_at_call 36; ((with_reducible refine (q2).mono ?_); rintro e w' ⟨rfl, rfl⟩)))
        go_ret2
        exact ⟨ret_tup2 HG.out.2.symm HG.out.1.symm, HW1.out⟩
      | true =>
        have q1 := HH.out i
        have q2 := HH.out j
        rw [hi] at q1
        rw [hj] at q2
        have HB : Hid (bothB k l i j = true) := hide (by rw [bothB, goodB, HT.out, hi, hj]; rfl)
        obtain ⟨x, rfl, hx⟩ := nodeB_ok hi
        obtain ⟨y, rfl, hy⟩ := nodeB_ok hj
        clear hi hj
        have hv := times_lo HK.out.fits (x := x) k y
        have HV : Hid (∀ b, decide (0 ≤ timesF k l x y) = b → travOk k l x y = b ∧ travV k l x y = if b then timesF k l x y else 0) := hide (fun b hb => by rw [travV, travOk, HB.out, Bool.true_and]; simp only [Int.toNat_natCast, hb]; first | trivial | exact ⟨trivial, trivial⟩)
        go_wp2_with (first | (go_at_call 36; ((with_reducible refine (q1).mono ?_); rintro e w' ⟨rfl, rfl⟩)) | (go_at_call 36; ((with_reducible refine (q2).mono ?_); rintro e w' ⟨rfl, rfl⟩)))
        refine (times_any w.heap.size k n c x A l _ Hn.out (by have := Hn.out; have := HK.out.len; omega) h2 hx HK.out.fits (Hr.out.below HW1.out) a0 a1).mono ?_
        rintro e w2 ⟨rfl, ho, hq⟩
        have c0 := ho.cell hy
        have HW2 : Hid (Below w.heap.size w w2) := hide (below_step HW1.out hq)
        clear hq ho a0 a1 q1 q2
        generalize timesF k l x y = v at *
        have hyi : (y : Int) < (k : Int) := by omega
        by_cases h0 : 0 ≤ v
        · obtain ⟨g1, g2⟩ := HV.out true (by simpa using h0)
          have G := hide (And.intro g1 g2)
          clear g1 g2
          go_wp2
          go_ret2
          exact ⟨ret_tup2 (by rw [G.out.2]; first | (simp; done) | (simp; omega)) (by rw [G.out.1]), HW2.out⟩
        · obtain ⟨g1, g2⟩ := HV.out false (by simpa using h0)
          have G := hide (And.intro g1 g2)
          clear g1 g2
          go_wp2
          go_ret2
          exact ⟨ret_tup2 (by rw [G.out.2]; first | (simp; done) | (simp; omega)) (by rw [G.out.1]; simpa using h0), HW2.out⟩
end Go.Proofs.YtbhnaakknfienaaGreatDoor

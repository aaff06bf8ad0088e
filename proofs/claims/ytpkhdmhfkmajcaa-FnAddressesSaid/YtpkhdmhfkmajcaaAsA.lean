/- A stretch added: the program's way and the reference's. -/
import Derived.Test.YtpkhdmhfkmajcaaInsS
import Derived.Test.YtpkhdmhfkmajcaaSrA
import Derived.Test.YtpkhdmhfkmajcaaRhB
namespace Go.Proofs.Ytpkhdmhfkmajcaa
open Go.RowKit
set_option linter.unusedVariables false

/-- A result that is a list of stretches of the call's own, or none. -/
def StPost (o : Option (List StrT)) (w : World) (e : Ending) (w' : World) : Prop :=
  (∃ v, e = .returned (.tuple #[v, .bool o.isSome]) ∧ w'.ownsRow w.heap.size 25 5 v (o.getD []).length ((o.getD []).flatMap scells)) ∧ Below w.heap.size w w'
theorem StPost.no {o : Option (List StrT)} {w w' : World} (ho : o = none) (hb : Below w.heap.size w w') : StPost o w (.returned (.tuple #[.slice none 0 0, .bool false])) w' :=
  ⟨⟨_, by rw [ho]; rfl, by rw [ho]; exact World.ownsRow_nil _ _ _ _⟩, hb⟩
theorem StPost.yes {o : Option (List StrT)} {r : List StrT} {w w' : World} {v : Value} {n : Nat} (ho : o = some r) (hn : n = r.length) (hv : w'.ownsRow w.heap.size 25 5 v n (r.flatMap scells)) (hb : Below w.heap.size w w') : StPost o w (.returned (.tuple #[v, .bool true])) w' :=
  ⟨⟨_, by rw [ho]; rfl, by rw [ho]; show w'.ownsRow _ _ _ _ r.length _; rw [← hn]; exact hv⟩, hb⟩
def asO (l : List StrT) (s : StrT) : Option (List StrT) := if strsB l && strP s then (if strsB (putS l s) then some (putS l s) else none) else none
theorem asO_bad {l : List StrT} {s : StrT} (h : (strsB l && strP s) = false) : asO l s = none := by rw [asO, h]; rfl
theorem asO_ok {l : List StrT} {s : StrT} (h : (strsB l && strP s) = true) : asO l s = if strsB (putS l s) then some (putS l s) else none := by rw [asO, if_pos h]
theorem putS_len (l : List StrT) (s : StrT) : (putS l s).length = l.length + 1 := by
  have h := congrArg List.length (List.takeWhile_append_dropWhile (p := befB s) (l := l))
  rw [List.length_append] at h
  simp [putS]
  omega
theorem putS_road {l : List StrT} {s : StrT} (hs : ∀ y ∈ l, y.1.size ≤ maxLen) (hz : s.1.size ≤ maxLen) : ∀ y ∈ putS l s, y.1.size ≤ maxLen := by
  intro y hy
  simp only [putS, List.mem_append, List.mem_singleton] at hy
  rcases hy with (hy | hy) | hy
  · exact hs y ((List.takeWhile_sublist _).subset hy)
  · subst hy; exact hz
  · exact hs y ((List.dropWhile_sublist _).subset hy)

set_option maxRecDepth 100000 in
set_option maxHeartbeats 8000000 in
theorem implAddStretch_any (A : Option Addr) (n c : Nat) (l : List (ByteArray × Int × Int × Int × Int)) (s0 : ByteArray) (s1 s2 s3 s4 : Int) (w : World) (hn : n = l.length) (hnc : n ≤ c) (hc : c ≤ maxLen) (hm : n ≤ 1048576) (hs : ∀ x ∈ l, x.1.size ≤ maxLen) (hr : Rd w A (l.flatMap scells)) (hz : s0.size ≤ maxLen) :
    Calls Try.prog 5 #[.slice A n c, .agg #[.string s0, .int .i64 s1, .int .i64 s2, .int .i64 s3, .int .i64 s4]] w (StPost (asO l (s0, s1, s2, s3, s4)) w) := by
  have HSB := hide (Row.new w #[.string s0, .int .i64 s1, .int .i64 s2, .int .i64 s3, .int .i64 s4] 25)
  have HB0 := hide (below_alloc (Below.refl w.heap.size w) (.cells #[.string s0, .int .i64 s1, .int .i64 s2, .int .i64 s3, .int .i64 s4] 25))
  have Q := hide (areStretches_any A n c l (w.alloc (.cells #[.string s0, .int .i64 s1, .int .i64 s2, .int .i64 s3, .int .i64 s4] 25)) hn hm hs (hr.alloc _))
  have Q2 := hide (fun W => isStretch_any s0 s1 s2 s3 s4 W hz)
  have HSZ := hide (And.intro hs hz)
  have Hn := hide hn
  have Hr := hide hr
  unfold maxLen at hc
  clear hn hr hs hz
  cases h1 : strsB l with
  | false =>
    have HE := hide (asO_bad (l := l) (s := (s0, s1, s2, s3, s4)) (by rw [h1]; rfl))
    rw [h1] at Q
    clear h1
    go_enter Try.func5, Try.ntmps5
    go_wp2_with fail
    refine Q.out.mono ?_
    rintro e w1 ⟨rfl, hq⟩
    have HB1 := hide (below_step HB0.out hq)
    go_wp2
    go_ret2
    exact StPost.no HE.out HB1.out
  | true =>
    rw [h1] at Q
    have hn30 : n ≤ 30 := by have := strsB_len h1; have := Hn.out; omega
    have HLS := hide h1
    cases h2 : strP (s0, s1, s2, s3, s4) with
    | false =>
      have HE := hide (asO_bad (l := l) (s := (s0, s1, s2, s3, s4)) (by rw [h1, h2]; rfl))
      have q2 := Q2.out
      simp only [strP] at h2
      rw [h2] at q2
      have HQ2 := hide q2
      clear h1 h2 q2
      go_enter Try.func5, Try.ntmps5
      go_wp2_with fail
      refine Q.out.mono ?_
      rintro e w1 ⟨rfl, hq⟩
      have HB1 := hide (below_step HB0.out hq)
      have r0 := (HSB.out.below hq).2.1 0 _ rfl
      have r1 := (HSB.out.below hq).2.1 1 _ rfl
      have r2 := (HSB.out.below hq).2.1 2 _ rfl
      have r3 := (HSB.out.below hq).2.1 3 _ rfl
      have r4 := (HSB.out.below hq).2.1 4 _ rfl
      clear hq
      go_wp2_with fail
      refine (HQ2.out _).mono ?_
      rintro e w2 ⟨rfl, hq⟩
      have HB2 := hide (below_step HB1.out hq)
      clear hq
      go_wp2
      go_ret2
      exact StPost.no HE.out HB2.out
    | true =>
      have HE := hide (asO_ok (l := l) (s := (s0, s1, s2, s3, s4)) (by rw [h1, h2]; rfl))
      have q2 := Q2.out
      simp only [strP] at h2
      rw [h2] at q2
      have HQ2 := hide q2
      clear h1 h2 q2
      go_enter Try.func5, Try.ntmps5
      go_wp2_with fail
      refine Q.out.mono ?_
      rintro e w1 ⟨rfl, hq⟩
      have HB1 := hide (below_step HB0.out hq)
      have HSB1 := hide (HSB.out.below hq)
      have r0 := HSB1.out.2.1 0 _ rfl
      have r1 := HSB1.out.2.1 1 _ rfl
      have r2 := HSB1.out.2.1 2 _ rfl
      have r3 := HSB1.out.2.1 3 _ rfl
      have r4 := HSB1.out.2.1 4 _ rfl
      clear hq
      go_wp2_with fail
      refine (HQ2.out _).mono ?_
      rintro e w2 ⟨rfl, hq⟩
      have HB2 := hide (below_step HB1.out hq)
      have HSB2 := hide (HSB1.out.below hq)
      clear hq r0 r1 r2 r3 r4
      have r0 := HSB2.out.2.1 0 _ rfl
      have r1 := HSB2.out.2.1 1 _ rfl
      have r2 := HSB2.out.2.1 2 _ rfl
      have r3 := HSB2.out.2.1 3 _ rfl
      have r4 := HSB2.out.2.1 4 _ rfl
      go_wp2_with fail
      refine (search_any A n c l s0 s1 s2 s3 s4 w2 Hn.out (by omega) (Hr.out.below HB2.out)).mono ?_
      rintro e w3 ⟨⟨k, bb, rfl, hsk⟩, hq⟩
      have HB3 := hide (below_step HB2.out hq)
      have HSB3 := hide (HSB2.out.below hq)
      have HPU := hide (srch_put HLS.out hsk)
      have hkn : k ≤ n := by have := hsk.1; have := Hn.out; omega
      clear hq r0 r1 r2 r3 r4 hsk
      have r0 := HSB3.out.2.1 0 _ rfl
      have r1 := HSB3.out.2.1 1 _ rfl
      have r2 := HSB3.out.2.1 2 _ rfl
      have r3 := HSB3.out.2.1 3 _ rfl
      have r4 := HSB3.out.2.1 4 _ rfl
      have rz := HSB3.out.1
      go_wp2_with fail
      refine wpAnyS_start (fun w' => ∃ n : Later w3, w' = n.w) (n := 7) (by kernel_rfl) rfl rfl ?_
      refine wpAnyS_take_all [0, 2, 3] 4 rfl (by kernel_rfl) (by intro c a d v w h; cases d <;> exact h) (by kernel_rfl) (by simp; rfl) rfl (later_drew _) ?_
      repeat (go_big_quiet_step (fail))
      refine wpQuiet_nil ?_
      clear r0 r1 r2 r3 r4 rz
      have HL : Hid (Below w3.heap.size w3 w3.drew) := hide (Below.refl _ _).drew
      generalize w3.drew = V0 at *
      refine wpAnyS_two 1 4 (by kernel_rfl) (by simp; rfl) (by simp; rfl) rfl rfl rfl rfl (fun K hK => ?_) (fun K hK => ?_)
      · go_wp2_with fail
        refine (cloneStretch_any A n c l V0 Hn.out (by omega) (Hr.out.below (below_step HB3.out HL.out))).mono ?_
        rintro e w4 ⟨⟨v, rfl, ho⟩, hq⟩
        have HL4 := hide (below_step HL.out hq)
        have HO4 := hide (own_le (B' := w3.heap.size) ho HL.out.size)
        clear ho hq HL
        go_wp2_with fail
        refine ⟨later_of HL4.out, ?_⟩
        refine wpAnyS_only 4 (by kernel_rfl) (by simp; rfl) rfl rfl (fun K hK => ?_)
        have HL5 := hide (below_alloc HL4.out (.cells #[.string s0, .int .i64 s1, .int .i64 s2, .int .i64 s3, .int .i64 s4] 25))
        have HO5 := hide (World.ownsRow.alloc HO4.out (.cells #[.string s0, .int .i64 s1, .int .i64 s2, .int .i64 s3, .int .i64 s4] 25))
        have HN5 := hide (heap_new w4 #[.string s0, .int .i64 s1, .int .i64 s2, .int .i64 s3, .int .i64 s4] 25)
        have HNE : Hid (v.ownBlock ≠ some w4.heap.size) := hide (fun e => by have := (HO4.out.lt _ e).2; omega)
        go_wp2_with fail
        refine ⟨later_of HL5.out, ?_⟩
        generalize w4.alloc (.cells #[.string s0, .int .i64 s1, .int .i64 s2, .int .i64 s3, .int .i64 s4] 25) = w5 at *
        generalize w4.heap.size = VB at *
        refine wpAnyS_only 5 (by kernel_rfl) (by simp; rfl) rfl rfl (fun K hK => ?_)
        go_wp2_with fail
        refine (insStretch_any w3.heap.size v n k l s0 s1 s2 s3 s4 VB w5 HO5.out Hn.out hkn (by omega) HN5.out HNE.out HL5.out.size).mono ?_
        rintro e w6 ⟨⟨v', rfl, ho⟩, hg⟩
        have HL6 := hide (HL5.out.grown hg HL5.out.size (fun j hj => (HO5.out.lt _ hj).1))
        have HO9 := hide (own_le (B' := w.heap.size) ho HB3.out.size)
        have HC9 := hide (below_step HB3.out HL6.out)
        clear ho hg
        obtain ⟨A9, c9, rfl, -⟩ := own_open HO9.out
        rw [← HPU.out] at HO9
        go_wp2_with fail
        refine ⟨later_of HL6.out, ?_⟩
        refine wpAnyS_only 6 (by kernel_rfl) (by simp; rfl) rfl rfl (fun K hK => ?_)
        go_wp2_with fail
        refine ⟨later_of HL6.out, ?_⟩
        refine wpAnyH_done (by kernel_rfl) ?_ _
        have HML := hide (show n + 1 = (putS l (s0, s1, s2, s3, s4)).length by rw [putS_len]; have := Hn.out; omega)
        generalize n + 1 = m9 at *
        have QE := hide (areStretches_any A9 m9 c9 (putS l (s0, s1, s2, s3, s4)) w6 HML.out (by have h1 := HML.out; rw [putS_len] at h1; have := Hn.out; omega) (putS_road HSZ.out.1 HSZ.out.2) (own_rd HO9.out))
        generalize putS l (s0, s1, s2, s3, s4) = r at *
        cases h9 : strsB r with
        | false =>
          rw [h9] at QE HE
          clear h9
          go_wp2_with fail
          refine QE.out.mono ?_
          rintro e w11 ⟨rfl, hq⟩
          have HB11 := hide (below_step HC9.out hq)
          clear hq
          go_wp2
          go_ret2
          exact StPost.no HE.out HB11.out
        | true =>
          rw [h9] at QE HE
          clear h9
          go_wp2_with fail
          refine QE.out.mono ?_
          rintro e w11 ⟨rfl, hq⟩
          have HB11 := hide (below_step HC9.out hq)
          have HO11 := hide (own_below HO9.out hq)
          clear hq
          go_wp2
          go_ret2
          exact StPost.yes HE.out HML.out HO11.out HB11.out
      · go_wp2_with fail
        have HL4 := hide (below_alloc HL.out (.cells #[.string s0, .int .i64 s1, .int .i64 s2, .int .i64 s3, .int .i64 s4] 25))
        have HN4 := hide (heap_new V0 #[.string s0, .int .i64 s1, .int .i64 s2, .int .i64 s3, .int .i64 s4] 25)
        have HZ4 := hide (show V0.heap.size < (V0.alloc (.cells #[.string s0, .int .i64 s1, .int .i64 s2, .int .i64 s3, .int .i64 s4] 25)).heap.size by simp)
        refine ⟨later_of HL4.out, ?_⟩
        generalize V0.alloc (.cells #[.string s0, .int .i64 s1, .int .i64 s2, .int .i64 s3, .int .i64 s4] 25) = w4 at *
        generalize V0.heap.size = VB at *
        refine wpAnyS_only 1 (by kernel_rfl) (by simp; rfl) rfl rfl (fun K hK => ?_)
        go_wp2_with fail
        refine (cloneStretch_any A n c l w4 Hn.out (by omega) (Hr.out.below (below_step HB3.out HL4.out))).mono ?_
        rintro e w5 ⟨⟨v, rfl, ho⟩, hq⟩
        have HL5 := hide (below_step HL4.out hq)
        have HO5 := hide (own_le (B' := w3.heap.size) ho HL4.out.size)
        have HN5 := hide (heap_grown HN4.out (grown_of_below hq none) (by simp))
        have HNE : Hid (v.ownBlock ≠ some VB) := hide (fun e => by have := (ho.lt _ e).1; have := HZ4.out; omega)
        clear ho hq HL
        go_wp2_with fail
        refine ⟨later_of HL5.out, ?_⟩
        refine wpAnyS_only 5 (by kernel_rfl) (by simp; rfl) rfl rfl (fun K hK => ?_)
        go_wp2_with fail
        refine (insStretch_any w3.heap.size v n k l s0 s1 s2 s3 s4 VB w5 HO5.out Hn.out hkn (by omega) HN5.out HNE.out HL5.out.size).mono ?_
        rintro e w6 ⟨⟨v', rfl, ho⟩, hg⟩
        have HL6 := hide (HL5.out.grown hg HL5.out.size (fun j hj => (HO5.out.lt _ hj).1))
        have HO9 := hide (own_le (B' := w.heap.size) ho HB3.out.size)
        have HC9 := hide (below_step HB3.out HL6.out)
        clear ho hg
        obtain ⟨A9, c9, rfl, -⟩ := own_open HO9.out
        rw [← HPU.out] at HO9
        go_wp2_with fail
        refine ⟨later_of HL6.out, ?_⟩
        refine wpAnyS_only 6 (by kernel_rfl) (by simp; rfl) rfl rfl (fun K hK => ?_)
        go_wp2_with fail
        refine ⟨later_of HL6.out, ?_⟩
        refine wpAnyH_done (by kernel_rfl) ?_ _
        have HML := hide (show n + 1 = (putS l (s0, s1, s2, s3, s4)).length by rw [putS_len]; have := Hn.out; omega)
        generalize n + 1 = m9 at *
        have QE := hide (areStretches_any A9 m9 c9 (putS l (s0, s1, s2, s3, s4)) w6 HML.out (by have h1 := HML.out; rw [putS_len] at h1; have := Hn.out; omega) (putS_road HSZ.out.1 HSZ.out.2) (own_rd HO9.out))
        generalize putS l (s0, s1, s2, s3, s4) = r at *
        cases h9 : strsB r with
        | false =>
          rw [h9] at QE HE
          clear h9
          go_wp2_with fail
          refine QE.out.mono ?_
          rintro e w11 ⟨rfl, hq⟩
          have HB11 := hide (below_step HC9.out hq)
          clear hq
          go_wp2
          go_ret2
          exact StPost.no HE.out HB11.out
        | true =>
          rw [h9] at QE HE
          clear h9
          go_wp2_with fail
          refine QE.out.mono ?_
          rintro e w11 ⟨rfl, hq⟩
          have HB11 := hide (below_step HC9.out hq)
          have HO11 := hide (own_below HO9.out hq)
          clear hq
          go_wp2
          go_ret2
          exact StPost.yes HE.out HML.out HO11.out HB11.out

set_option maxRecDepth 100000 in
set_option maxHeartbeats 8000000 in
theorem specAddStretch_any (A : Option Addr) (n c : Nat) (l : List (ByteArray × Int × Int × Int × Int)) (s0 : ByteArray) (s1 s2 s3 s4 : Int) (w : World) (hn : n = l.length) (hnc : n ≤ c) (hc : c ≤ maxLen) (hm : n ≤ 1048576) (hs : ∀ x ∈ l, x.1.size ≤ maxLen) (hr : Rd w A (l.flatMap scells)) (hz : s0.size ≤ maxLen) (hA : ∃ b off, A = some ⟨b, off, none⟩) :
    Calls Try.prog 6 #[.slice A n c, .agg #[.string s0, .int .i64 s1, .int .i64 s2, .int .i64 s3, .int .i64 s4]] w (StPost (asO l (s0, s1, s2, s3, s4)) w) := by
  have HSB := hide (Row.new w #[.string s0, .int .i64 s1, .int .i64 s2, .int .i64 s3, .int .i64 s4] 25)
  have HB0 := hide (below_alloc (Below.refl w.heap.size w) (.cells #[.string s0, .int .i64 s1, .int .i64 s2, .int .i64 s3, .int .i64 s4] 25))
  have Q := hide (adGood_any A n c l (w.alloc (.cells #[.string s0, .int .i64 s1, .int .i64 s2, .int .i64 s3, .int .i64 s4] 25)) hn hm hs (hr.alloc _))
  have Q2 := hide (fun W => adOne_any s0 s1 s2 s3 s4 W hz)
  have HSZ := hide (And.intro hs hz)
  have Hn := hide hn
  have Hr := hide hr
  unfold maxLen at hc
  clear hn hr hs hz
  cases h1 : strsB l with
  | false =>
    have HE := hide (asO_bad (l := l) (s := (s0, s1, s2, s3, s4)) (by rw [h1]; rfl))
    rw [h1] at Q
    clear h1
    go_enter Try.func6, Try.ntmps6
    go_wp2_with fail
    refine Q.out.mono ?_
    rintro e w1 ⟨rfl, hq⟩
    have HB1 := hide (below_step HB0.out hq)
    go_wp2
    go_ret2
    exact StPost.no HE.out HB1.out
  | true =>
    rw [h1] at Q
    have hn30 : n ≤ 30 := by have := strsB_len h1; have := Hn.out; omega
    have HLS := hide h1
    cases h2 : strP (s0, s1, s2, s3, s4) with
    | false =>
      have HE := hide (asO_bad (l := l) (s := (s0, s1, s2, s3, s4)) (by rw [h1, h2]; rfl))
      have q2 := Q2.out
      simp only [strP] at h2
      rw [h2] at q2
      have HQ2 := hide q2
      clear h1 h2 q2
      go_enter Try.func6, Try.ntmps6
      go_wp2_with fail
      refine Q.out.mono ?_
      rintro e w1 ⟨rfl, hq⟩
      have HB1 := hide (below_step HB0.out hq)
      have r0 := (HSB.out.below hq).2.1 0 _ rfl
      have r1 := (HSB.out.below hq).2.1 1 _ rfl
      have r2 := (HSB.out.below hq).2.1 2 _ rfl
      have r3 := (HSB.out.below hq).2.1 3 _ rfl
      have r4 := (HSB.out.below hq).2.1 4 _ rfl
      clear hq
      go_wp2_with fail
      refine (HQ2.out _).mono ?_
      rintro e w2 ⟨rfl, hq⟩
      have HB2 := hide (below_step HB1.out hq)
      clear hq
      go_wp2
      go_ret2
      exact StPost.no HE.out HB2.out
    | true =>
      have HE := hide (asO_ok (l := l) (s := (s0, s1, s2, s3, s4)) (by rw [h1, h2]; rfl))
      have q2 := Q2.out
      simp only [strP] at h2
      rw [h2] at q2
      have HQ2 := hide q2
      clear h1 h2 q2
      go_enter Try.func6, Try.ntmps6
      go_wp2_with fail
      refine Q.out.mono ?_
      rintro e w1 ⟨rfl, hq⟩
      have HB1 := hide (below_step HB0.out hq)
      have HSB1 := hide (HSB.out.below hq)
      have r0 := HSB1.out.2.1 0 _ rfl
      have r1 := HSB1.out.2.1 1 _ rfl
      have r2 := HSB1.out.2.1 2 _ rfl
      have r3 := HSB1.out.2.1 3 _ rfl
      have r4 := HSB1.out.2.1 4 _ rfl
      clear hq
      go_wp2_with fail
      refine (HQ2.out _).mono ?_
      rintro e w2 ⟨rfl, hq⟩
      have HB2 := hide (below_step HB1.out hq)
      have HSB2 := hide (HSB1.out.below hq)
      clear hq r0 r1 r2 r3 r4
      have r0 := HSB2.out.2.1 0 _ rfl
      have r1 := HSB2.out.2.1 1 _ rfl
      have r2 := HSB2.out.2.1 2 _ rfl
      have r3 := HSB2.out.2.1 3 _ rfl
      have r4 := HSB2.out.2.1 4 _ rfl
      go_wp2_with fail
      obtain ⟨b, off, rfl⟩ := hA
      refine (adPut_any b off n c l s0 s1 s2 s3 s4 w2 Hn.out (by omega) hnc (by unfold maxLen; omega) (Hr.out.below HB2.out)).mono ?_
      rintro e w6 ⟨⟨v', rfl, ho⟩, hq⟩
      have HO9 := hide (own_le (B' := w.heap.size) ho HB2.out.size)
      have HC9 := hide (below_step HB2.out hq)
      clear ho hq
      obtain ⟨A9, c9, rfl, -⟩ := own_open HO9.out
      have HML := hide (show n + 1 = (putS l (s0, s1, s2, s3, s4)).length by rw [putS_len]; have := Hn.out; omega)
      generalize n + 1 = m9 at *
      have QE := hide (adGood_any A9 m9 c9 (putS l (s0, s1, s2, s3, s4)) w6 HML.out (by have h1 := HML.out; rw [putS_len] at h1; have := Hn.out; omega) (putS_road HSZ.out.1 HSZ.out.2) (own_rd HO9.out))
      generalize putS l (s0, s1, s2, s3, s4) = r at *
      cases h9 : strsB r with
      | false =>
        rw [h9] at QE HE
        clear h9
        go_wp2_with fail
        refine QE.out.mono ?_
        rintro e w11 ⟨rfl, hq⟩
        have HB11 := hide (below_step HC9.out hq)
        clear hq
        go_wp2
        go_ret2
        exact StPost.no HE.out HB11.out
      | true =>
        rw [h9] at QE HE
        clear h9
        go_wp2_with fail
        refine QE.out.mono ?_
        rintro e w11 ⟨rfl, hq⟩
        have HB11 := hide (below_step HC9.out hq)
        have HO11 := hide (own_below HO9.out hq)
        clear hq
        go_wp2
        go_ret2
        exact StPost.yes HE.out HML.out HO11.out HB11.out
end Go.Proofs.Ytpkhdmhfkmajcaa

/- Several texts in one. slices.Insert of one stretch into a row of the call's own. The order of stretches: compareStretches, and the search by it. A stretch added: the program's way and the reference's. A stretch added to a list that may be nil: the reference's way. -/
import Derived.Test.YtpkhdmhfkmajcaaDoorInsX
import Derived.Test.YtpkhdmhfkmajcaaDoorRhA
import Derived.Test.YtpkhdmhfkmajcaaDoorRhB
namespace Go.Proofs.YtpkhdmhfkmajcaaDoor
open Go.RowKit
set_option linter.unusedVariables false

theorem grown_own {w w1 w2 : World} {row r2 : Option Nat} (h : w.grownBy w1 row) (k : w1.grownBy w2 r2) (hr : ∀ j, r2 = some j → w.heap.size ≤ j) : w.grownBy w2 row :=
  ⟨k.os.trans h.os, k.tape.trans h.tape, k.output.trans h.output, Nat.le_trans h.size k.size, fun i hi hne => (k.block i (Nat.lt_of_lt_of_le hi h.size) (fun e => by have := hr i e.symm; omega)).trans (h.block i hi hne)⟩
theorem info_size {T : TypeId} {i0 : TypeInfo} {sz : Nat} (hi : Tryd.prog.info? T = some i0) (h : i0.size = sz) : (Tryd.prog.info? T).map (·.size) = some sz := by rw [hi]; simp [h]
theorem info_sizeOf {T : TypeId} {i0 : TypeInfo} {sz : Nat} (hi : Tryd.prog.info? T = some i0) (h : i0.size = sz) : ∀ w, (Go.sizeOf T).run Tryd.prog w = .ok sz w := fun w => by simp [sizeOf, typeInfo, hi, h]
theorem splice_two {α : Type} (xs sp ys : List α) (a m : Nat) (ha : a ≤ xs.length) (hy : ys.length = m) (hs : m ≤ sp.length) :
    (splice (splice (xs ++ sp) (a + m) (xs.drop a)) a ys).take (xs.length + m) = xs.take a ++ ys ++ xs.drop a := by
  have h1 : splice (xs ++ sp) (a + m) (xs.drop a) = (xs ++ sp).take (a + m) ++ xs.drop a ++ sp.drop m := by
    unfold splice
    rw [List.append_assoc, List.length_drop, show a + m + (xs.length - a) = xs.length + m by omega]
    congr 2
    rw [List.drop_append]
    simp
  rw [h1]
  have hl : ((xs ++ sp).take (a + m)).length = a + m := by rw [List.length_take, List.length_append]; omega
  unfold splice
  rw [hy]
  have h2 : (((xs ++ sp).take (a + m) ++ xs.drop a ++ sp.drop m)).take a = xs.take a := by
    rw [List.append_assoc, List.take_append_of_le_length (by omega), List.take_take, Nat.min_eq_left (by omega), List.take_append_of_le_length ha]
  have h3 : (((xs ++ sp).take (a + m) ++ xs.drop a ++ sp.drop m)).drop (a + m) = xs.drop a ++ sp.drop m := by
    rw [List.append_assoc, List.drop_append_of_le_length (by omega), List.drop_of_length_le (by omega), List.nil_append]
  rw [h2, h3]
  have h4 : (xs.take a).length = a := by rw [List.length_take]; omega
  rw [← List.append_assoc, ← List.append_assoc, List.take_append_of_le_length (by simp; omega), List.take_of_length_le (by simp; omega)]

theorem splice_grow {α : Type} (xs C ys : List α) (a m : Nat) (ha : a ≤ xs.length) (hy : ys.length = m) (hC : C.take a = xs.take a) (hl : a + m ≤ C.length) :
    (splice (splice C a ys) (a + m) (xs.drop a)).take (xs.length + m) = xs.take a ++ ys ++ xs.drop a := by
  have h4 : (xs.take a).length = a := by rw [List.length_take]; omega
  have h1 : (splice C a ys).take (a + m) = xs.take a ++ ys := by
    unfold splice
    rw [hC, ← List.append_assoc, List.take_append_of_le_length (by rw [List.length_append, h4, hy]; omega), List.take_of_length_le (by rw [List.length_append, h4, hy]; omega)]
  unfold splice at h1 ⊢
  rw [h1, ← List.append_assoc, List.take_append_of_le_length (by simp; omega), List.take_of_length_le (by simp; omega)]
theorem src_drop {α : Type} {xs sp : List α} {a j : Nat} {v : α} (h : (xs.drop a)[j]? = some v) : (xs ++ sp)[a + j]? = some v := by
  rw [List.getElem?_drop] at h
  rw [List.getElem?_append_left (List.getElem?_eq_some_iff.1 h).1]
  exact h

end Go.Proofs.YtpkhdmhfkmajcaaDoor
namespace Go.Proofs.YtpkhdmhfkmajcaaDoor
open Go.RowKit
set_option linter.unusedVariables false

def cmpI (a b : Int) : Int := if a < b then -1 else if b < a then 1 else 0
def orI (x y : Int) : Int := if x = 0 then y else x
theorem two_at (W : World) (n : Nat) (t : TypeId) (a b : Value) (hn : n = W.heap.size) : (W.alloc (.cells #[a, b] t)).drew.cell? ⟨n, 0, none⟩ = some a ∧ (W.alloc (.cells #[a, b] t)).drew.cell? ⟨n, 1, none⟩ = some b := by
  subst hn
  exact ⟨(Row.new W #[a, b] t).2.1 0 _ rfl, (Row.new W #[a, b] t).2.1 1 _ rfl⟩


def cmpT (a b : ByteArray) : Int := if Op.bytesLess a.toList b.toList then -1 else if Op.bytesLess b.toList a.toList then 1 else 0
theorem less_ne {a b : List UInt8} (h : Op.bytesLess a b = false) : Op.bytesLess b a = !(a == b) := by
  rw [less_lex] at h ⊢
  have h1 : ¬ a < b := of_decide_eq_false h
  by_cases h2 : b < a
  · have h3 : (a == b) = false := by
      cases hc : (a == b) with
      | false => rfl
      | true => rw [eq_of_beq hc] at h2; exact absurd h2 (List.lt_irrefl _)
    simp [h2, h3]
  · have h3 : a = b := List.le_antisymm (List.not_lt.1 h2) (List.not_lt.1 h1)
    subst h3
    simp [List.lt_irrefl]
def cmpS5 (x y : StrT) : Int := orI (cmpT x.1 y.1) (cmpI x.2.1 y.2.1)
theorem cmpS5_neg (x s : StrT) : decide (cmpS5 x s < 0) = befB s x := by
  simp only [cmpS5, befB, orI, cmpT]
  by_cases h : Op.bytesLess x.1.toList s.1.toList = true
  · simp [h]
  · by_cases h2 : Op.bytesLess s.1.toList x.1.toList = true
    · have h3 : (x.1.toList == s.1.toList) = false := by
        cases hc : (x.1.toList == s.1.toList) with
        | false => rfl
        | true => rw [eq_of_beq hc] at h2 h; exact absurd h2 h
      simp [h, h2, h3]
    · have h3 : x.1.toList = s.1.toList := by
        have h4 := less_ne (Bool.eq_false_iff.2 h)
        rw [Bool.eq_false_iff.2 h2] at h4
        exact eq_of_beq (by simpa using h4.symm)
      have h6 : (x.1.toList == s.1.toList) = true := by rw [h3]; exact beq_self_eq_true _
      simp only [h, h2, h6, cmpI]
      by_cases h7 : x.2.1 < s.2.1
      · simp [h7]
      · by_cases h8 : s.2.1 < x.2.1 <;> simp [h7, h8]

/-- Where the search ends. -/
def SrchAt (l : List StrT) (s : StrT) (k : Nat) : Prop := k ≤ l.length ∧ (∀ x, 0 < k → l[k - 1]? = some x → befB s x = true) ∧ (∀ x, l[k]? = some x → befB s x = false)

/-- In a list of stretches the search ends where the reference's way puts. -/
theorem srch_put {l : List StrT} {s : StrT} (h : strsB l = true) {k : Nat} (hk : SrchAt l s k) : putS l s = l.take k ++ [s] ++ l.drop k := by
  obtain ⟨h1, h2, h3⟩ := hk
  have key := takeWhile_at (p := befB s) (l := l) (k := k) h1 (fun i x hi hx => ?_) h3
  · rw [putS, key.1, key.2]
  · have hk0 : 0 < k := by omega
    have hkl : k - 1 < l.length := by omega
    have hz : l[k - 1]? = some l[k - 1] := List.getElem?_eq_getElem hkl
    have hb := h2 _ hk0 hz
    by_cases he : i = k - 1
    · subst he
      rw [hz] at hx
      injection hx with hx
      rw [← hx]; exact hb
    · rw [befB_iff] at hb ⊢
      obtain ⟨d, hd⟩ : ∃ d, k - 1 = i + d + 1 := ⟨k - 1 - i - 1, by omega⟩
      have hz' : l[i + d + 1]? = some l[k - 1] := by rw [← hd]; exact hz
      rcases names_le h (d + 1) i x _ hx (by rw [show i + (d + 1) = i + d + 1 by omega]; exact hz') with g | g
      · rcases hb with hb | hb
        · exact .inl (List.lt_trans g hb)
        · left; rw [← hb.1]; exact g
      · have hlo := lows h d i x _ hx hz' g
        have hb1 := elem_bd h hx
        rcases hb with hb | hb
        · left; rw [g]; exact hb
        · right; exact ⟨by rw [g]; exact hb.1, by omega⟩
end Go.Proofs.YtpkhdmhfkmajcaaDoor
namespace Go.Proofs.YtpkhdmhfkmajcaaDoor
open Go.RowKit
set_option linter.unusedVariables false

/-- A result that is a list of stretches of the call's own, or none. -/
def StPost (o : Option (List StrT)) (w : World) (e : Ending) (w' : World) : Prop :=
  (∃ v, e = .returned (.tuple #[v, .bool o.isSome]) ∧ w'.ownsRow w.heap.size 39 5 v (o.getD []).length ((o.getD []).flatMap scells)) ∧ Below w.heap.size w w'
theorem StPost.no {o : Option (List StrT)} {w w' : World} (ho : o = none) (hb : Below w.heap.size w w') : StPost o w (.returned (.tuple #[.slice none 0 0, .bool false])) w' :=
  ⟨⟨_, by rw [ho]; rfl, by rw [ho]; exact World.ownsRow_nil _ _ _ _⟩, hb⟩
theorem StPost.yes {o : Option (List StrT)} {r : List StrT} {w w' : World} {v : Value} {n : Nat} (ho : o = some r) (hn : n = r.length) (hv : w'.ownsRow w.heap.size 39 5 v n (r.flatMap scells)) (hb : Below w.heap.size w w') : StPost o w (.returned (.tuple #[v, .bool true])) w' :=
  ⟨⟨_, by rw [ho]; rfl, by rw [ho]; show w'.ownsRow _ _ _ _ r.length _; rw [← hn]; exact hv⟩, hb⟩
def asO (l : List StrT) (s : StrT) : Option (List StrT) := if strsB l && strP s then (if strsB (putS l s) then some (putS l s) else none) else none
theorem asO_bad {l : List StrT} {s : StrT} (h : (strsB l && strP s) = false) : asO l s = none := by rw [asO, h]; rfl
theorem asO_ok {l : List StrT} {s : StrT} (h : (strsB l && strP s) = true) : asO l s = if strsB (putS l s) then some (putS l s) else none := by rw [asO, if_pos h]
theorem putS_len (l : List StrT) (s : StrT) : (putS l s).length = l.length + 1 := by
  have h := congrArg List.length (List.takeWhile_append_dropWhile (p := befB s) (l := l))
  rw [List.length_append] at h
  simp [putS]
  omega
theorem putS_road {l : List StrT} {s : StrT} (hs : ∀ y ∈ l, y.1.size ≤ maxLen) (hz : s.1.size ≤ maxLen) : ∀ y ∈ putS l s, y.1.size ≤ maxLen := by
  intro y hy
  simp only [putS, List.mem_append, List.mem_singleton] at hy
  rcases hy with (hy | hy) | hy
  · exact hs y ((List.takeWhile_sublist _).subset hy)
  · subst hy; exact hz
  · exact hs y ((List.dropWhile_sublist _).subset hy)

set_option maxRecDepth 100000 in
set_option maxHeartbeats 8000000 in
theorem specAddStretch_any (A : Option Addr) (n c : Nat) (l : List (ByteArray × Int × Int × Int × Int)) (s0 : ByteArray) (s1 s2 s3 s4 : Int) (w : World) (hn : n = l.length) (hnc : n ≤ c) (hc : c ≤ maxLen) (hm : n ≤ 1048576) (hs : ∀ x ∈ l, x.1.size ≤ maxLen) (hr : Rd w A (l.flatMap scells)) (hz : s0.size ≤ maxLen) (hA : ∃ b off, A = some ⟨b, off, none⟩) :
    Calls Tryd.prog 55 #[.slice A n c, .agg #[.string s0, .int .i64 s1, .int .i64 s2, .int .i64 s3, .int .i64 s4]] w (StPost (asO l (s0, s1, s2, s3, s4)) w) := by
  have HSB := hide (Row.new w #[.string s0, .int .i64 s1, .int .i64 s2, .int .i64 s3, .int .i64 s4] 39)
  have HB0 := hide (below_alloc (Below.refl w.heap.size w) (.cells #[.string s0, .int .i64 s1, .int .i64 s2, .int .i64 s3, .int .i64 s4] 39))
  have Q := hide (adGood_any A n c l (w.alloc (.cells #[.string s0, .int .i64 s1, .int .i64 s2, .int .i64 s3, .int .i64 s4] 39)) hn hm hs (hr.alloc _))
  have Q2 := hide (fun W => adOne_any s0 s1 s2 s3 s4 W hz)
  have HSZ := hide (And.intro hs hz)
  have Hn := hide hn
  have Hr := hide hr
  unfold maxLen at hc
  clear hn hr hs hz
  cases h1 : strsB l with
  | false =>
    have HE := hide (asO_bad (l := l) (s := (s0, s1, s2, s3, s4)) (by rw [h1]; rfl))
    rw [h1] at Q
    clear h1
    go_enter Tryd.func55, Tryd.ntmps55
    go_wp2_with fail
    refine Q.out.mono ?_
    rintro e w1 ⟨rfl, hq⟩
    have HB1 := hide (below_step HB0.out hq)
    go_wp2
    go_ret2
    exact StPost.no HE.out HB1.out
  | true =>
    rw [h1] at Q
    have hn30 : n ≤ 30 := by have := strsB_len h1; have := Hn.out; omega
    have HLS := hide h1
    cases h2 : strP (s0, s1, s2, s3, s4) with
    | false =>
      have HE := hide (asO_bad (l := l) (s := (s0, s1, s2, s3, s4)) (by rw [h1, h2]; rfl))
      have q2 := Q2.out
      simp only [strP] at h2
      rw [h2] at q2
      have HQ2 := hide q2
      clear h1 h2 q2
      go_enter Tryd.func55, Tryd.ntmps55
      go_wp2_with fail
      refine Q.out.mono ?_
      rintro e w1 ⟨rfl, hq⟩
      have HB1 := hide (below_step HB0.out hq)
      have r0 := (HSB.out.below hq).2.1 0 _ rfl
      have r1 := (HSB.out.below hq).2.1 1 _ rfl
      have r2 := (HSB.out.below hq).2.1 2 _ rfl
      have r3 := (HSB.out.below hq).2.1 3 _ rfl
      have r4 := (HSB.out.below hq).2.1 4 _ rfl
      clear hq
      go_wp2_with fail
      refine (HQ2.out _).mono ?_
      rintro e w2 ⟨rfl, hq⟩
      have HB2 := hide (below_step HB1.out hq)
      clear hq
      go_wp2
      go_ret2
      exact StPost.no HE.out HB2.out
    | true =>
      have HE := hide (asO_ok (l := l) (s := (s0, s1, s2, s3, s4)) (by rw [h1, h2]; rfl))
      have q2 := Q2.out
      simp only [strP] at h2
      rw [h2] at q2
      have HQ2 := hide q2
      clear h1 h2 q2
      go_enter Tryd.func55, Tryd.ntmps55
      go_wp2_with fail
      refine Q.out.mono ?_
      rintro e w1 ⟨rfl, hq⟩
      have HB1 := hide (below_step HB0.out hq)
      have HSB1 := hide (HSB.out.below hq)
      have r0 := HSB1.out.2.1 0 _ rfl
      have r1 := HSB1.out.2.1 1 _ rfl
      have r2 := HSB1.out.2.1 2 _ rfl
      have r3 := HSB1.out.2.1 3 _ rfl
      have r4 := HSB1.out.2.1 4 _ rfl
      clear hq
      go_wp2_with fail
      refine (HQ2.out _).mono ?_
      rintro e w2 ⟨rfl, hq⟩
      have HB2 := hide (below_step HB1.out hq)
      have HSB2 := hide (HSB1.out.below hq)
      clear hq r0 r1 r2 r3 r4
      have r0 := HSB2.out.2.1 0 _ rfl
      have r1 := HSB2.out.2.1 1 _ rfl
      have r2 := HSB2.out.2.1 2 _ rfl
      have r3 := HSB2.out.2.1 3 _ rfl
      have r4 := HSB2.out.2.1 4 _ rfl
      go_wp2_with fail
      obtain ⟨b, off, rfl⟩ := hA
      refine (adPut_any b off n c l s0 s1 s2 s3 s4 w2 Hn.out (by omega) hnc (by unfold maxLen; omega) (Hr.out.below HB2.out)).mono ?_
      rintro e w6 ⟨⟨v', rfl, ho⟩, hq⟩
      have HO9 := hide (own_le (B' := w.heap.size) ho HB2.out.size)
      have HC9 := hide (below_step HB2.out hq)
      clear ho hq
      obtain ⟨A9, c9, rfl, -⟩ := own_open HO9.out
      have HML := hide (show n + 1 = (putS l (s0, s1, s2, s3, s4)).length by rw [putS_len]; have := Hn.out; omega)
      generalize n + 1 = m9 at *
      have QE := hide (adGood_any A9 m9 c9 (putS l (s0, s1, s2, s3, s4)) w6 HML.out (by have h1 := HML.out; rw [putS_len] at h1; have := Hn.out; omega) (putS_road HSZ.out.1 HSZ.out.2) (own_rd HO9.out))
      generalize putS l (s0, s1, s2, s3, s4) = r at *
      cases h9 : strsB r with
      | false =>
        rw [h9] at QE HE
        clear h9
        go_wp2_with fail
        refine QE.out.mono ?_
        rintro e w11 ⟨rfl, hq⟩
        have HB11 := hide (below_step HC9.out hq)
        clear hq
        go_wp2
        go_ret2
        exact StPost.no HE.out HB11.out
      | true =>
        rw [h9] at QE HE
        clear h9
        go_wp2_with fail
        refine QE.out.mono ?_
        rintro e w11 ⟨rfl, hq⟩
        have HB11 := hide (below_step HC9.out hq)
        have HO11 := hide (own_below HO9.out hq)
        clear hq
        go_wp2
        go_ret2
        exact StPost.yes HE.out HML.out HO11.out HB11.out
end Go.Proofs.YtpkhdmhfkmajcaaDoor
namespace Go.Proofs.YtpkhdmhfkmajcaaDoor
open Go.RowKit
set_option linter.unusedVariables false

/-- 'append' of nothing to a row of the call's own. -/
theorem wp_append_nil {P : Program} {Q : Exit → Act → World → Prop} {o : Oper} {a : Act} {w : World} {K : Act → World → Prop} (s x : Operand) (t : TypeId) (ho : o.op = Op.call { callee := Callee.builtin Builtin.append, args := #[s, x], argTypes := #[t, t] })
  (base : Nat) (e : TypeId) (i : TypeInfo) (size : Nat) (ht : P.underlying t = some (.slice e)) (hi : P.info? e = some i)
  (v : Value) (n : Nat) (xs : List Value) (hs : a.eval s = v) (hown : w.ownsRow base e size v n xs) (c : Nat) (hx : a.eval x = .slice none 0 c) (h : K (a.put o.dst v) w) : Oper.wp P o a w K Q := by
 have hrun : (Builtin.append_ #[t, t] o.type #[v, .slice none 0 c]).run P w = .ok v w := by
  rcases hown.2 with ⟨rfl, rfl⟩ | ⟨g, cap, cur, rfl, _, _, hnc, _⟩
  ·
   simp [Builtin.append_, run_underlying ht, sizeOf, typeInfo, hi, Builtin.lenOf, Builtin.firstCells]
  ·
   simp [Builtin.append_, run_underlying ht, sizeOf, typeInfo, hi, Builtin.lenOf, Builtin.firstCells, hnc, storeCells]
 unfold Oper.wp execOp
 simp only [ho, resolve, invoke, builtin, Sem.run_bind, Sem.run_pure, Result.andThen_ok, List.map_toArray, List.map_cons, List.map_nil, hs, hx, hrun]
 exact h


set_option maxRecDepth 100000 in
set_option maxHeartbeats 8000000 in
theorem adPut_nil (s0 : ByteArray) (s1 s2 s3 s4 : Int) (w : World) :
    Calls Tryd.prog 64 #[.slice none 0 0, .agg #[.string s0, .int .i64 s1, .int .i64 s2, .int .i64 s3, .int .i64 s4]] w fun e w' => (∃ v, e = .returned v ∧ w'.ownsRow w.heap.size 39 5 v 1 (scells (s0, s1, s2, s3, s4))) ∧ Below w.heap.size w w' := by
  go_enter Tryd.func64, Tryd.ntmps64
  go_wp2_with fail
  have HBX := hide (Row.new w #[.string s0, .int .i64 s1, .int .i64 s2, .int .i64 s3, .int .i64 s4] 39)
  have HB0 := hide (below_alloc (Below.refl w.heap.size w) (.cells #[.string s0, .int .i64 s1, .int .i64 s2, .int .i64 s3, .int .i64 s4] 39))
  generalize w.alloc (.cells #[.string s0, .int .i64 s1, .int .i64 s2, .int .i64 s3, .int .i64 s4] 39) = W0 at *
  go_loopw [5] (fun t wr => t = .int .i64 0 ∧ Hid (Below W0.heap.size W0 wr)) (fun t _ => 0)
  case atStart => exact ⟨rfl, hide (Below.refl _ _)⟩
  case round =>
    obtain ⟨rfl, HB⟩ := hrel
    go_wp2_with fail
    refine wp_region_later (by kernel_rfl) (by kernel_rfl) ?_
    repeat (go_big_quiet_step (fail))
    refine wpQuiet_nil ?_
    refine later_intro fun w3 hb3 => ?_
    have HB3 := hide (below_step HB.out hb3)
    clear hb3
    obtain ⟨i0, hi0, hz0, hz1, hz2⟩ := info_parts infoStretch
    have Hi := hide hi0
    have Hz := hide (And.intro hz0 (And.intro hz1 hz2))
    clear hi0 hz0 hz1 hz2
    have HBw := hide (below_step HB0.out HB3.out)
    have r0 := (HBX.out.below HB3.out).2.1 0 _ rfl
    have r1 := (HBX.out.below HB3.out).2.1 1 _ rfl
    have r2 := (HBX.out.below HB3.out).2.1 2 _ rfl
    have r3 := (HBX.out.below HB3.out).2.1 3 _ rfl
    have r4 := (HBX.out.below HB3.out).2.1 4 _ rfl
    have rz := (HBX.out.below HB3.out).1
    go_wp2_with fail
    refine wpAnyS_start (fun w' => ∃ n : Later w3, w' = n.w) (n := 13) (by kernel_rfl) rfl rfl ?_
    refine wpAnyS_take_all [1, 2, 3, 5, 8, 9, 10] 6 rfl (by kernel_rfl) (by intro c a d v w h; cases d <;> exact h) (by kernel_rfl) (by simp; rfl) rfl (later_drew _) ?_
    repeat (go_big_quiet_step (fail))
    refine wpQuiet_nil ?_
    have HL : Hid (Below w3.heap.size w3 w3.drew) := hide (Below.refl _ _).drew
    have HC : Hid (Below w.heap.size w w3.drew) := hide HBw.out.drew
    clear r0 r1 r2 r3 r4 rz
    generalize w3.drew = V0 at *
    refine wpAnyS_two 0 6 (by kernel_rfl) (by simp; rfl) (by simp; rfl) rfl rfl rfl rfl (fun K hK => ?_) (fun K hK => ?_)
    · skip
      go_wp2_with fail
      have HL' : Hid (Below w3.heap.size w3 (V0.alloc (.cells #[] 39))) := hide (below_alloc HL.out _)
      have HC' : Hid (Below w.heap.size w (V0.alloc (.cells #[] 39))) := hide (below_alloc HC.out _)
      refine ⟨later_of HL'.out, ?_⟩
      have F_b0 : Hid ((V0.alloc (.cells #[] 39)).ownsRow w3.heap.size 39 5 (.slice (some ⟨V0.heap.size, 0, none⟩) 0 0) 0 []) := hide (World.ownsRow_made V0 #[] 0 HL.out.size (Nat.zero_le _) rfl)
      have L_b0 : Hid (V0.heap.size < (V0.alloc (.cells #[] 39)).heap.size) := hide (by simp)
      clear HL HC
      have HL := hide HL'.out
      have HC := hide HC'.out
      clear HL' HC'
      generalize (V0.alloc (.cells #[] 39)) = V1 at *
      generalize V0.heap.size = b0 at *
      refine wpAnyS_two 4 6 (by kernel_rfl) (by simp; rfl) (by simp; rfl) rfl rfl rfl rfl (fun K hK => ?_) (fun K hK => ?_)
      · skip
        refine wp_append_nil (.tmp 42) (.tmp 45) 23 rfl w3.heap.size 39 i0 5 Tryd.underlying23 Hi.out (.slice (some ⟨b0, 0, none⟩) 0 0) 0 [] rfl F_b0.out 0 rfl (hK _ _ ⟨later_of HL.out, ?_⟩)
        simp only [Act.put, List.setIfInBounds_toArray, List.set_cons_succ, List.set_cons_zero]
        refine wpAnyS_only 6 (by kernel_rfl) (by simp; rfl) rfl rfl (fun K hK => ?_)
        go_wp2_with fail
        have HL' : Hid (Below w3.heap.size w3 (V1.alloc (.cells #[.string s0, .int .i64 s1, .int .i64 s2, .int .i64 s3, .int .i64 s4] 39))) := hide (below_alloc HL.out _)
        have HC' : Hid (Below w.heap.size w (V1.alloc (.cells #[.string s0, .int .i64 s1, .int .i64 s2, .int .i64 s3, .int .i64 s4] 39))) := hide (below_alloc HC.out _)
        refine ⟨later_of HL'.out, ?_⟩
        replace F_b0 := hide (World.ownsRow.alloc F_b0.out (.cells #[.string s0, .int .i64 s1, .int .i64 s2, .int .i64 s3, .int .i64 s4] 39))
        have N_bs_b0 : Hid (V1.heap.size ≠ b0) := hide (by have := L_b0.out; omega)
        have F_bs := hide (Row.new V1 #[.string s0, .int .i64 s1, .int .i64 s2, .int .i64 s3, .int .i64 s4] 39)
        have L_bs : Hid (V1.heap.size < (V1.alloc (.cells #[.string s0, .int .i64 s1, .int .i64 s2, .int .i64 s3, .int .i64 s4] 39)).heap.size) := hide (by simp)
        clear HL HC
        have HL := hide HL'.out
        have HC := hide HC'.out
        clear HL' HC'
        generalize (V1.alloc (.cells #[.string s0, .int .i64 s1, .int .i64 s2, .int .i64 s3, .int .i64 s4] 39)) = V2 at *
        generalize V1.heap.size = bs at *
        refine wpAnyS_only 7 (by kernel_rfl) (by simp; rfl) rfl rfl (fun K hK => ?_)
        refine wp_append_at (.tmp 46) (.tmp 48) 23 rfl w3.heap.size 39 i0 _ 5 48 Tryd.underlying23 Hi.out Hz.out.1 Hz.out.2.1 Hz.out.2.2 rfl (by decide) b0 0 0 [] rfl F_b0.out ⟨bs, 0, none⟩ 1 1 (scells (s0, s1, s2, s3, s4)) rfl rfl (fun j u hu => by rw [Addr.add_lit, Nat.zero_add]; exact F_bs.out.2.1 j u hu) (fun u hu => scells_one [(s0, s1, s2, s3, s4)] u (by simpa using hu)) (by unfold maxLen; omega) (by omega) HL.out.size (fun g2 cap2 W4 hown hgrow hg hlt => ?_)
        have HL4 := hide (HL.out.grown hgrow HL.out.size (fun k hk => by injection hk with hk; have := (F_b0.out.lt b0 rfl).1; omega))
        have HC4 := hide (HC.out.grown hgrow HC.out.size (fun k hk => by injection hk with hk; have := (F_b0.out.lt b0 rfl).1; have := HBw.out.size; omega))
        have F_g2 : Hid (W4.ownsRow w3.heap.size 39 5 (.slice (some ⟨g2, 0, none⟩) 1 cap2) 1 (scells (s0, s1, s2, s3, s4))) := hide (by simpa using hown)
        clear hown hgrow hg hlt
        refine hK _ _ ⟨later_of HL4.out, ?_⟩
        simp only [Act.put, List.setIfInBounds_toArray, List.set_cons_succ, List.set_cons_zero]
        refine wpAnyS_only 11 (by kernel_rfl) (by simp; rfl) rfl rfl (fun K hK => ?_)
        refine wp_append_nil (.tmp 49) (.tmp 52) 23 rfl w3.heap.size 39 i0 5 Tryd.underlying23 Hi.out (.slice (some ⟨g2, 0, none⟩) 1 cap2) 1 (scells (s0, s1, s2, s3, s4)) rfl F_g2.out 0 rfl (hK _ _ ⟨later_of HL4.out, ?_⟩)
        simp only [Act.put, List.setIfInBounds_toArray, List.set_cons_succ, List.set_cons_zero]
        refine wpAnyS_only 12 (by kernel_rfl) (by simp; rfl) rfl rfl (fun K hK => ?_)
        go_wp2_with fail
        refine ⟨later_of HL4.out, ?_⟩
        refine wpAnyH_done (by kernel_rfl) ?_ _
        go_wp2
        go_ret
        exact ⟨⟨_, rfl, own_le (B' := w.heap.size) F_g2.out HBw.out.size⟩, HC4.out⟩
      · skip
        go_wp2_with fail
        have HL' : Hid (Below w3.heap.size w3 (V1.alloc (.cells #[.string s0, .int .i64 s1, .int .i64 s2, .int .i64 s3, .int .i64 s4] 39))) := hide (below_alloc HL.out _)
        have HC' : Hid (Below w.heap.size w (V1.alloc (.cells #[.string s0, .int .i64 s1, .int .i64 s2, .int .i64 s3, .int .i64 s4] 39))) := hide (below_alloc HC.out _)
        refine ⟨later_of HL'.out, ?_⟩
        replace F_b0 := hide (World.ownsRow.alloc F_b0.out (.cells #[.string s0, .int .i64 s1, .int .i64 s2, .int .i64 s3, .int .i64 s4] 39))
        have N_bs_b0 : Hid (V1.heap.size ≠ b0) := hide (by have := L_b0.out; omega)
        have F_bs := hide (Row.new V1 #[.string s0, .int .i64 s1, .int .i64 s2, .int .i64 s3, .int .i64 s4] 39)
        have L_bs : Hid (V1.heap.size < (V1.alloc (.cells #[.string s0, .int .i64 s1, .int .i64 s2, .int .i64 s3, .int .i64 s4] 39)).heap.size) := hide (by simp)
        clear HL HC
        have HL := hide HL'.out
        have HC := hide HC'.out
        clear HL' HC'
        generalize (V1.alloc (.cells #[.string s0, .int .i64 s1, .int .i64 s2, .int .i64 s3, .int .i64 s4] 39)) = V2 at *
        generalize V1.heap.size = bs at *
        refine wpAnyS_only 4 (by kernel_rfl) (by simp; rfl) rfl rfl (fun K hK => ?_)
        refine wp_append_nil (.tmp 42) (.tmp 45) 23 rfl w3.heap.size 39 i0 5 Tryd.underlying23 Hi.out (.slice (some ⟨b0, 0, none⟩) 0 0) 0 [] rfl F_b0.out 0 rfl (hK _ _ ⟨later_of HL.out, ?_⟩)
        simp only [Act.put, List.setIfInBounds_toArray, List.set_cons_succ, List.set_cons_zero]
        refine wpAnyS_only 7 (by kernel_rfl) (by simp; rfl) rfl rfl (fun K hK => ?_)
        refine wp_append_at (.tmp 46) (.tmp 48) 23 rfl w3.heap.size 39 i0 _ 5 48 Tryd.underlying23 Hi.out Hz.out.1 Hz.out.2.1 Hz.out.2.2 rfl (by decide) b0 0 0 [] rfl F_b0.out ⟨bs, 0, none⟩ 1 1 (scells (s0, s1, s2, s3, s4)) rfl rfl (fun j u hu => by rw [Addr.add_lit, Nat.zero_add]; exact F_bs.out.2.1 j u hu) (fun u hu => scells_one [(s0, s1, s2, s3, s4)] u (by simpa using hu)) (by unfold maxLen; omega) (by omega) HL.out.size (fun g2 cap2 W4 hown hgrow hg hlt => ?_)
        have HL4 := hide (HL.out.grown hgrow HL.out.size (fun k hk => by injection hk with hk; have := (F_b0.out.lt b0 rfl).1; omega))
        have HC4 := hide (HC.out.grown hgrow HC.out.size (fun k hk => by injection hk with hk; have := (F_b0.out.lt b0 rfl).1; have := HBw.out.size; omega))
        have F_g2 : Hid (W4.ownsRow w3.heap.size 39 5 (.slice (some ⟨g2, 0, none⟩) 1 cap2) 1 (scells (s0, s1, s2, s3, s4))) := hide (by simpa using hown)
        clear hown hgrow hg hlt
        refine hK _ _ ⟨later_of HL4.out, ?_⟩
        simp only [Act.put, List.setIfInBounds_toArray, List.set_cons_succ, List.set_cons_zero]
        refine wpAnyS_only 11 (by kernel_rfl) (by simp; rfl) rfl rfl (fun K hK => ?_)
        refine wp_append_nil (.tmp 49) (.tmp 52) 23 rfl w3.heap.size 39 i0 5 Tryd.underlying23 Hi.out (.slice (some ⟨g2, 0, none⟩) 1 cap2) 1 (scells (s0, s1, s2, s3, s4)) rfl F_g2.out 0 rfl (hK _ _ ⟨later_of HL4.out, ?_⟩)
        simp only [Act.put, List.setIfInBounds_toArray, List.set_cons_succ, List.set_cons_zero]
        refine wpAnyS_only 12 (by kernel_rfl) (by simp; rfl) rfl rfl (fun K hK => ?_)
        go_wp2_with fail
        refine ⟨later_of HL4.out, ?_⟩
        refine wpAnyH_done (by kernel_rfl) ?_ _
        go_wp2
        go_ret
        exact ⟨⟨_, rfl, own_le (B' := w.heap.size) F_g2.out HBw.out.size⟩, HC4.out⟩
    · skip
      go_wp2_with fail
      have HL' : Hid (Below w3.heap.size w3 (V0.alloc (.cells #[.string s0, .int .i64 s1, .int .i64 s2, .int .i64 s3, .int .i64 s4] 39))) := hide (below_alloc HL.out _)
      have HC' : Hid (Below w.heap.size w (V0.alloc (.cells #[.string s0, .int .i64 s1, .int .i64 s2, .int .i64 s3, .int .i64 s4] 39))) := hide (below_alloc HC.out _)
      refine ⟨later_of HL'.out, ?_⟩
      have F_bs := hide (Row.new V0 #[.string s0, .int .i64 s1, .int .i64 s2, .int .i64 s3, .int .i64 s4] 39)
      have L_bs : Hid (V0.heap.size < (V0.alloc (.cells #[.string s0, .int .i64 s1, .int .i64 s2, .int .i64 s3, .int .i64 s4] 39)).heap.size) := hide (by simp)
      clear HL HC
      have HL := hide HL'.out
      have HC := hide HC'.out
      clear HL' HC'
      generalize (V0.alloc (.cells #[.string s0, .int .i64 s1, .int .i64 s2, .int .i64 s3, .int .i64 s4] 39)) = V1 at *
      generalize V0.heap.size = bs at *
      refine wpAnyS_only 0 (by kernel_rfl) (by simp; rfl) rfl rfl (fun K hK => ?_)
      go_wp2_with fail
      have HL' : Hid (Below w3.heap.size w3 (V1.alloc (.cells #[] 39))) := hide (below_alloc HL.out _)
      have HC' : Hid (Below w.heap.size w (V1.alloc (.cells #[] 39))) := hide (below_alloc HC.out _)
      refine ⟨later_of HL'.out, ?_⟩
      replace F_bs := hide (F_bs.out.alloc (.cells #[] 39))
      have N_bs_b0 : Hid (bs ≠ V1.heap.size) := hide (by have := L_bs.out; omega)
      have F_b0 : Hid ((V1.alloc (.cells #[] 39)).ownsRow w3.heap.size 39 5 (.slice (some ⟨V1.heap.size, 0, none⟩) 0 0) 0 []) := hide (World.ownsRow_made V1 #[] 0 HL.out.size (Nat.zero_le _) rfl)
      have L_b0 : Hid (V1.heap.size < (V1.alloc (.cells #[] 39)).heap.size) := hide (by simp)
      clear HL HC
      have HL := hide HL'.out
      have HC := hide HC'.out
      clear HL' HC'
      generalize (V1.alloc (.cells #[] 39)) = V2 at *
      generalize V1.heap.size = b0 at *
      refine wpAnyS_only 4 (by kernel_rfl) (by simp; rfl) rfl rfl (fun K hK => ?_)
      refine wp_append_nil (.tmp 42) (.tmp 45) 23 rfl w3.heap.size 39 i0 5 Tryd.underlying23 Hi.out (.slice (some ⟨b0, 0, none⟩) 0 0) 0 [] rfl F_b0.out 0 rfl (hK _ _ ⟨later_of HL.out, ?_⟩)
      simp only [Act.put, List.setIfInBounds_toArray, List.set_cons_succ, List.set_cons_zero]
      refine wpAnyS_only 7 (by kernel_rfl) (by simp; rfl) rfl rfl (fun K hK => ?_)
      refine wp_append_at (.tmp 46) (.tmp 48) 23 rfl w3.heap.size 39 i0 _ 5 48 Tryd.underlying23 Hi.out Hz.out.1 Hz.out.2.1 Hz.out.2.2 rfl (by decide) b0 0 0 [] rfl F_b0.out ⟨bs, 0, none⟩ 1 1 (scells (s0, s1, s2, s3, s4)) rfl rfl (fun j u hu => by rw [Addr.add_lit, Nat.zero_add]; exact F_bs.out.2.1 j u hu) (fun u hu => scells_one [(s0, s1, s2, s3, s4)] u (by simpa using hu)) (by unfold maxLen; omega) (by omega) HL.out.size (fun g2 cap2 W4 hown hgrow hg hlt => ?_)
      have HL4 := hide (HL.out.grown hgrow HL.out.size (fun k hk => by injection hk with hk; have := (F_b0.out.lt b0 rfl).1; omega))
      have HC4 := hide (HC.out.grown hgrow HC.out.size (fun k hk => by injection hk with hk; have := (F_b0.out.lt b0 rfl).1; have := HBw.out.size; omega))
      have F_g2 : Hid (W4.ownsRow w3.heap.size 39 5 (.slice (some ⟨g2, 0, none⟩) 1 cap2) 1 (scells (s0, s1, s2, s3, s4))) := hide (by simpa using hown)
      clear hown hgrow hg hlt
      refine hK _ _ ⟨later_of HL4.out, ?_⟩
      simp only [Act.put, List.setIfInBounds_toArray, List.set_cons_succ, List.set_cons_zero]
      refine wpAnyS_only 11 (by kernel_rfl) (by simp; rfl) rfl rfl (fun K hK => ?_)
      refine wp_append_nil (.tmp 49) (.tmp 52) 23 rfl w3.heap.size 39 i0 5 Tryd.underlying23 Hi.out (.slice (some ⟨g2, 0, none⟩) 1 cap2) 1 (scells (s0, s1, s2, s3, s4)) rfl F_g2.out 0 rfl (hK _ _ ⟨later_of HL4.out, ?_⟩)
      simp only [Act.put, List.setIfInBounds_toArray, List.set_cons_succ, List.set_cons_zero]
      refine wpAnyS_only 12 (by kernel_rfl) (by simp; rfl) rfl rfl (fun K hK => ?_)
      go_wp2_with fail
      refine ⟨later_of HL4.out, ?_⟩
      refine wpAnyH_done (by kernel_rfl) ?_ _
      go_wp2
      go_ret
      exact ⟨⟨_, rfl, own_le (B' := w.heap.size) F_g2.out HBw.out.size⟩, HC4.out⟩

theorem adPut_all (A : Option Addr) (n c : Nat) (l : List (ByteArray × Int × Int × Int × Int)) (s0 : ByteArray) (s1 s2 s3 s4 : Int) (w : World) (hn : n = l.length) (hm : n ≤ 1000) (hnc : n ≤ c) (hc : c ≤ maxLen) (hr : Rd w A (l.flatMap scells)) (hA : (A = none ∧ n = 0 ∧ c = 0) ∨ ∃ b off, A = some ⟨b, off, none⟩) :
    Calls Tryd.prog 64 #[.slice A n c, .agg #[.string s0, .int .i64 s1, .int .i64 s2, .int .i64 s3, .int .i64 s4]] w fun e w' => (∃ v, e = .returned v ∧ w'.ownsRow w.heap.size 39 5 v (n + 1) ((putS l (s0, s1, s2, s3, s4)).flatMap scells)) ∧ Below w.heap.size w w' := by
  rcases hA with ⟨rfl, rfl, rfl⟩ | ⟨b, off, rfl⟩
  · have hl : l = [] := List.eq_nil_of_length_eq_zero hn.symm
    subst hl
    refine (adPut_nil s0 s1 s2 s3 s4 w).mono ?_
    rintro e w' ⟨⟨v, rfl, ho⟩, hb⟩
    exact ⟨⟨v, rfl, by simpa [putS] using ho⟩, hb⟩
  · exact adPut_any b off n c l s0 s1 s2 s3 s4 w hn hm hnc hc hr
set_option maxRecDepth 100000 in
set_option maxHeartbeats 8000000 in
theorem specAddStretch_all (A : Option Addr) (n c : Nat) (l : List (ByteArray × Int × Int × Int × Int)) (s0 : ByteArray) (s1 s2 s3 s4 : Int) (w : World) (hn : n = l.length) (hnc : n ≤ c) (hc : c ≤ maxLen) (hm : n ≤ 1048576) (hs : ∀ x ∈ l, x.1.size ≤ maxLen) (hr : Rd w A (l.flatMap scells)) (hz : s0.size ≤ maxLen) (hA : (A = none ∧ n = 0 ∧ c = 0) ∨ ∃ b off, A = some ⟨b, off, none⟩) :
    Calls Tryd.prog 55 #[.slice A n c, .agg #[.string s0, .int .i64 s1, .int .i64 s2, .int .i64 s3, .int .i64 s4]] w (StPost (asO l (s0, s1, s2, s3, s4)) w) := by
  have HSB := hide (Row.new w #[.string s0, .int .i64 s1, .int .i64 s2, .int .i64 s3, .int .i64 s4] 39)
  have HB0 := hide (below_alloc (Below.refl w.heap.size w) (.cells #[.string s0, .int .i64 s1, .int .i64 s2, .int .i64 s3, .int .i64 s4] 39))
  have Q := hide (adGood_any A n c l (w.alloc (.cells #[.string s0, .int .i64 s1, .int .i64 s2, .int .i64 s3, .int .i64 s4] 39)) hn hm hs (hr.alloc _))
  have Q2 := hide (fun W => adOne_any s0 s1 s2 s3 s4 W hz)
  have HSZ := hide (And.intro hs hz)
  have Hn := hide hn
  have Hr := hide hr
  unfold maxLen at hc
  clear hn hr hs hz
  cases h1 : strsB l with
  | false =>
    have HE := hide (asO_bad (l := l) (s := (s0, s1, s2, s3, s4)) (by rw [h1]; rfl))
    rw [h1] at Q
    clear h1
    go_enter Tryd.func55, Tryd.ntmps55
    go_wp2_with fail
    refine Q.out.mono ?_
    rintro e w1 ⟨rfl, hq⟩
    have HB1 := hide (below_step HB0.out hq)
    go_wp2
    go_ret2
    exact StPost.no HE.out HB1.out
  | true =>
    rw [h1] at Q
    have hn30 : n ≤ 30 := by have := strsB_len h1; have := Hn.out; omega
    have HLS := hide h1
    cases h2 : strP (s0, s1, s2, s3, s4) with
    | false =>
      have HE := hide (asO_bad (l := l) (s := (s0, s1, s2, s3, s4)) (by rw [h1, h2]; rfl))
      have q2 := Q2.out
      simp only [strP] at h2
      rw [h2] at q2
      have HQ2 := hide q2
      clear h1 h2 q2
      go_enter Tryd.func55, Tryd.ntmps55
      go_wp2_with fail
      refine Q.out.mono ?_
      rintro e w1 ⟨rfl, hq⟩
      have HB1 := hide (below_step HB0.out hq)
      have r0 := (HSB.out.below hq).2.1 0 _ rfl
      have r1 := (HSB.out.below hq).2.1 1 _ rfl
      have r2 := (HSB.out.below hq).2.1 2 _ rfl
      have r3 := (HSB.out.below hq).2.1 3 _ rfl
      have r4 := (HSB.out.below hq).2.1 4 _ rfl
      clear hq
      go_wp2_with fail
      refine (HQ2.out _).mono ?_
      rintro e w2 ⟨rfl, hq⟩
      have HB2 := hide (below_step HB1.out hq)
      clear hq
      go_wp2
      go_ret2
      exact StPost.no HE.out HB2.out
    | true =>
      have HE := hide (asO_ok (l := l) (s := (s0, s1, s2, s3, s4)) (by rw [h1, h2]; rfl))
      have q2 := Q2.out
      simp only [strP] at h2
      rw [h2] at q2
      have HQ2 := hide q2
      clear h1 h2 q2
      go_enter Tryd.func55, Tryd.ntmps55
      go_wp2_with fail
      refine Q.out.mono ?_
      rintro e w1 ⟨rfl, hq⟩
      have HB1 := hide (below_step HB0.out hq)
      have HSB1 := hide (HSB.out.below hq)
      have r0 := HSB1.out.2.1 0 _ rfl
      have r1 := HSB1.out.2.1 1 _ rfl
      have r2 := HSB1.out.2.1 2 _ rfl
      have r3 := HSB1.out.2.1 3 _ rfl
      have r4 := HSB1.out.2.1 4 _ rfl
      clear hq
      go_wp2_with fail
      refine (HQ2.out _).mono ?_
      rintro e w2 ⟨rfl, hq⟩
      have HB2 := hide (below_step HB1.out hq)
      have HSB2 := hide (HSB1.out.below hq)
      clear hq r0 r1 r2 r3 r4
      have r0 := HSB2.out.2.1 0 _ rfl
      have r1 := HSB2.out.2.1 1 _ rfl
      have r2 := HSB2.out.2.1 2 _ rfl
      have r3 := HSB2.out.2.1 3 _ rfl
      have r4 := HSB2.out.2.1 4 _ rfl
      go_wp2_with fail
      refine (adPut_all A n c l s0 s1 s2 s3 s4 w2 Hn.out (by omega) hnc (by unfold maxLen; omega) (Hr.out.below HB2.out) hA).mono ?_
      rintro e w6 ⟨⟨v', rfl, ho⟩, hq⟩
      have HO9 := hide (own_le (B' := w.heap.size) ho HB2.out.size)
      have HC9 := hide (below_step HB2.out hq)
      clear ho hq
      obtain ⟨A9, c9, rfl, -⟩ := own_open HO9.out
      have HML := hide (show n + 1 = (putS l (s0, s1, s2, s3, s4)).length by rw [putS_len]; have := Hn.out; omega)
      generalize n + 1 = m9 at *
      have QE := hide (adGood_any A9 m9 c9 (putS l (s0, s1, s2, s3, s4)) w6 HML.out (by have h1 := HML.out; rw [putS_len] at h1; have := Hn.out; omega) (putS_road HSZ.out.1 HSZ.out.2) (own_rd HO9.out))
      generalize putS l (s0, s1, s2, s3, s4) = r at *
      cases h9 : strsB r with
      | false =>
        rw [h9] at QE HE
        clear h9
        go_wp2_with fail
        refine QE.out.mono ?_
        rintro e w11 ⟨rfl, hq⟩
        have HB11 := hide (below_step HC9.out hq)
        clear hq
        go_wp2
        go_ret2
        exact StPost.no HE.out HB11.out
      | true =>
        rw [h9] at QE HE
        clear h9
        go_wp2_with fail
        refine QE.out.mono ?_
        rintro e w11 ⟨rfl, hq⟩
        have HB11 := hide (below_step HC9.out hq)
        have HO11 := hide (own_below HO9.out hq)
        clear hq
        go_wp2
        go_ret2
        exact StPost.yes HE.out HML.out HO11.out HB11.out
end Go.Proofs.YtpkhdmhfkmajcaaDoor

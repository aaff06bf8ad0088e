/- The order of stretches: compareStretches, and the search by it. -/
import Derived.Test.YtpkhdmhfkmajcaaRhA
namespace Go.Proofs.Ytpkhdmhfkmajcaa
open Go.RowKit
set_option linter.unusedVariables false

def cmpI (a b : Int) : Int := if a < b then -1 else if b < a then 1 else 0
def orI (x y : Int) : Int := if x = 0 then y else x
set_option maxHeartbeats 1000000 in
theorem isNaN_any (a : Int) (w : World) :
    Calls Try.prog 64 #[.int .i64 a] w fun e w' => e = .returned (.bool false) ∧ w = w' := by
  go_enter Try.func64, Try.ntmps64
  go_wp2
  go_ret
  exact ⟨by simp, rfl⟩

set_option maxHeartbeats 1000000 in
theorem cmpInt_any (a b : Int) (w : World) :
    Calls Try.prog 54 #[.int .i64 a, .int .i64 b] w fun e w' => e = .returned (.int .i64 (cmpI a b)) ∧ w = w' := by
  go_enter Try.func54, Try.ntmps54
  go_wp2_with (go_at_call 64; ((with_reducible refine (isNaN_any _ _).mono ?_); rintro e w' ⟨rfl, rfl⟩))
  all_goals
    go_ret
    exact ⟨ret_int (by simp [cmpI, *] <;> omega), rfl⟩

set_option maxHeartbeats 1000000 in
theorem orInt_any (b : Nat) (x y : Int) (w : World) (hb : b < w.heap.size) (h0 : w.cell? ⟨b, 0, none⟩ = some (.int .i64 x)) (h1 : w.cell? ⟨b, 1, none⟩ = some (.int .i64 y)) :
    Calls Try.prog 52 #[.slice (some ⟨b, 0, none⟩) 2 2] w fun e w' => e = .returned (.int .i64 (orI x y)) ∧ w = w' := by
  go_enter Try.func52, Try.ntmps52
  go_wp2_with fail
  go_loop [8] (fun t => ∃ k : Nat, k ≤ 2 ∧ t = .int .i64 k ∧ Hid ((1 ≤ k → x = 0) ∧ (2 ≤ k → y = 0))) (fun t => 2 - (intOf t).toNat)
  case atStart => exact ⟨0, by omega, rfl, hide ⟨fun h => by omega, fun h => by omega⟩⟩
  case round =>
    obtain ⟨k, hk, rfl, HX⟩ := hrel
    match k, hk, HX with
    | 0, hk, HX =>
      by_cases hx : x = 0
      · have Hx := hide hx
        have hx' : (x == 0) = true := by simpa using hx
        clear hx
        go_wp2
        go_round
        case rel => exact ⟨1, by omega, by go_num, hide ⟨fun _ => Hx.out, fun h => by omega⟩⟩
        case measure => simp [intOf]
      · have Hx := hide hx
        have hx' : (x == 0) = false := by simpa using hx
        clear hx
        go_wp2
        go_ret
        exact ⟨ret_int (by rw [orI, if_neg Hx.out]), rfl⟩
    | 1, hk, HX =>
      by_cases hx : y = 0
      · have Hx := hide hx
        have hx' : (y == 0) = true := by simpa using hx
        clear hx
        go_wp2
        go_round
        case rel => exact ⟨2, by omega, by go_num, hide ⟨fun _ => HX.out.1 (by omega), fun _ => Hx.out⟩⟩
        case measure => simp [intOf]
      · have Hx := hide hx
        have hx' : (y == 0) = false := by simpa using hx
        clear hx
        go_wp2
        go_ret
        exact ⟨ret_int (by rw [orI, if_pos (HX.out.1 (by omega))]), rfl⟩
    | 2, hk, HX =>
      go_wp2
      go_ret
      exact ⟨ret_int (by rw [orI, if_pos (HX.out.1 (by omega)), HX.out.2 (by omega)]), rfl⟩
theorem two_at (W : World) (n : Nat) (t : TypeId) (a b : Value) (hn : n = W.heap.size) : (W.alloc (.cells #[a, b] t)).drew.cell? ⟨n, 0, none⟩ = some a ∧ (W.alloc (.cells #[a, b] t)).drew.cell? ⟨n, 1, none⟩ = some b := by
  subst hn
  exact ⟨(Row.new W #[a, b] t).2.1 0 _ rfl, (Row.new W #[a, b] t).2.1 1 _ rfl⟩


def cmpT (a b : ByteArray) : Int := if Op.bytesLess a.toList b.toList then -1 else if Op.bytesLess b.toList a.toList then 1 else 0
theorem less_ne {a b : List UInt8} (h : Op.bytesLess a b = false) : Op.bytesLess b a = !(a == b) := by
  rw [less_lex] at h ⊢
  have h1 : ¬ a < b := of_decide_eq_false h
  by_cases h2 : b < a
  · have h3 : (a == b) = false := by
      cases hc : (a == b) with
      | false => rfl
      | true => rw [eq_of_beq hc] at h2; exact absurd h2 (List.lt_irrefl _)
    simp [h2, h3]
  · have h3 : a = b := List.le_antisymm (List.not_lt.1 h2) (List.not_lt.1 h1)
    subst h3
    simp [List.lt_irrefl]
def cmpS5 (x y : StrT) : Int := orI (cmpT x.1 y.1) (cmpI x.2.1 y.2.1)
theorem cmpS5_neg (x s : StrT) : decide (cmpS5 x s < 0) = befB s x := by
  simp only [cmpS5, befB, orI, cmpT]
  by_cases h : Op.bytesLess x.1.toList s.1.toList = true
  · simp [h]
  · by_cases h2 : Op.bytesLess s.1.toList x.1.toList = true
    · have h3 : (x.1.toList == s.1.toList) = false := by
        cases hc : (x.1.toList == s.1.toList) with
        | false => rfl
        | true => rw [eq_of_beq hc] at h2 h; exact absurd h2 h
      simp [h, h2, h3]
    · have h3 : x.1.toList = s.1.toList := by
        have h4 := less_ne (Bool.eq_false_iff.2 h)
        rw [Bool.eq_false_iff.2 h2] at h4
        exact eq_of_beq (by simpa using h4.symm)
      have h6 : (x.1.toList == s.1.toList) = true := by rw [h3]; exact beq_self_eq_true _
      simp only [h, h2, h6, cmpI]
      by_cases h7 : x.2.1 < s.2.1
      · simp [h7]
      · by_cases h8 : s.2.1 < x.2.1 <;> simp [h7, h8]

set_option maxHeartbeats 1000000 in
theorem isNaNs_any (a : ByteArray) (w : World) :
    Calls Try.prog 63 #[.string a] w fun e w' => e = .returned (.bool false) ∧ w = w' := by
  go_enter Try.func63, Try.ntmps63
  go_wp2
  go_ret
  exact ⟨by simp, rfl⟩
set_option maxHeartbeats 1000000 in
theorem cmpStr_any (a b : ByteArray) (w : World) :
    Calls Try.prog 53 #[.string a, .string b] w fun e w' => e = .returned (.int .i64 (cmpT a b)) ∧ w = w' := by
  go_enter Try.func53, Try.ntmps53
  go_wp2_with (go_at_call 63; ((with_reducible refine (isNaNs_any _ _).mono ?_); rintro e w' ⟨rfl, rfl⟩))
  all_goals
    go_ret
    exact ⟨ret_int (by first | (simp [cmpT, *]; done) | (rename_i h1 h2; have h3 := less_ne (by assumption : Op.bytesLess a.toList b.toList = false); simp [cmpT, *])), rfl⟩

set_option maxHeartbeats 4000000 in
theorem compareStretches_any (x0 : ByteArray) (x1 x2 x3 x4 : Int) (y0 : ByteArray) (y1 y2 y3 y4 : Int) (w : World) :
    Calls Try.prog 30 #[.agg #[.string x0, .int .i64 x1, .int .i64 x2, .int .i64 x3, .int .i64 x4], .agg #[.string y0, .int .i64 y1, .int .i64 y2, .int .i64 y3, .int .i64 y4]] w fun e w' => e = .returned (.int .i64 (cmpS5 (x0, x1, x2, x3, x4) (y0, y1, y2, y3, y4))) ∧ Below w.heap.size w w' := by
  go_enter Try.func30, Try.ntmps30
  go_wp2_with fail
  refine wpAnyH_start (n := 13) (by kernel_rfl) rfl rfl ?_
  refine wpAnyH_take_all [0, 1, 2, 3, 5, 6, 7, 8] 5 rfl (by kernel_rfl) (by intro c a d v w h; cases d <;> exact h) (by kernel_rfl) (by simp; rfl) rfl (later_drew _) ?_
  repeat (go_big_quiet_step (fail))
  refine wpQuiet_nil ?_
  refine wpAnyH_only 4 (by kernel_rfl) (by simp; rfl) rfl rfl (later_drew _) (fun K hK => ?_)
  go_wp2_with (go_at_call 53; refine (cmpStr_any _ _ _).mono ?_; rintro e w' ⟨rfl, rfl⟩)
  refine ⟨Below.refl _ _, ?_⟩
  refine wpAnyH_only 9 (by kernel_rfl) (by simp; rfl) rfl rfl (later_refl _) (fun K hK => ?_)
  go_wp2_with (go_at_call 54; refine (cmpInt_any _ _ _).mono ?_; rintro e w' ⟨rfl, rfl⟩)
  refine ⟨Below.refl _ _, ?_⟩
  refine wpAnyH_only 10 (by kernel_rfl) (by simp; rfl) rfl rfl (later_refl _) (fun K hK => ?_)
  go_wp2_with fail
  refine ⟨(Below.refl _ _).alloc (Nat.le_refl _) _, ?_⟩
  refine wpAnyH_only 11 (by kernel_rfl) (by simp; rfl) rfl rfl (later_refl _) (fun K hK => ?_)
  go_wp2_with fail
  refine (orInt_any _ (cmpT x0 y0) (cmpI x1 y1) _ ?_ ?_ ?_).mono ?_
  · simp
  · exact (two_at _ _ _ _ _ (by simp)).1
  · exact (two_at _ _ _ _ _ (by simp)).2
  rintro e w' ⟨rfl, rfl⟩
  go_wp2_with fail
  refine ⟨Below.refl _ _, ?_⟩
  refine wpAnyH_only 12 (by kernel_rfl) (by simp; rfl) rfl rfl (later_refl _) (fun K hK => ?_)
  go_wp2_with fail
  refine ⟨Below.refl _ _, ?_⟩
  refine wpAnyH_done (by kernel_rfl) ?_ _
  go_wp2
  go_ret
  exact ⟨rfl, (by repeat (first | exact Below.refl _ _ | refine below_step ?_ (by assumption) | refine below_step ?_ (Later.below _) | refine below_alloc ?_ _ | refine Below.drew ?_ | refine Below.setCell ?_ (by first | (simp; done) | (simp; omega)) _))⟩

/-- Where the search ends. -/
def SrchAt (l : List StrT) (s : StrT) (k : Nat) : Prop := k ≤ l.length ∧ (∀ x, 0 < k → l[k - 1]? = some x → befB s x = true) ∧ (∀ x, l[k]? = some x → befB s x = false)

set_option maxRecDepth 100000 in
set_option maxHeartbeats 4000000 in
theorem search_any (A : Option Addr) (n c : Nat) (l : List StrT) (s0 : ByteArray) (s1 s2 s3 s4 : Int) (w : World) (hn : n = l.length) (hm : n ≤ 1000) (hr : Rd w A (l.flatMap scells)) :
    Calls Try.prog 29 #[.slice A n c, .agg #[.string s0, .int .i64 s1, .int .i64 s2, .int .i64 s3, .int .i64 s4], .func (.func 30) #[] #[]] w fun e w' => (∃ (k : Nat) (b : Bool), e = .returned (.tuple #[.int .i64 (k : Int), .bool b]) ∧ SrchAt l (s0, s1, s2, s3, s4) k) ∧ Below w.heap.size w w' := by
  have Hn := hide hn
  have Hr := hide hr
  clear hn hr
  go_enter Try.func29, Try.ntmps29
  go_wp2_with fail
  have HSX := hide (Row.new w #[.string s0, .int .i64 s1, .int .i64 s2, .int .i64 s3, .int .i64 s4] 25)
  have HW0 := hide (below_alloc (Below.refl w.heap.size w) (.cells #[.string s0, .int .i64 s1, .int .i64 s2, .int .i64 s3, .int .i64 s4] 25))
  have HC := hide (fun (x0 : ByteArray) (x1 x2 x3 x4 : Int) W => compareStretches_any x0 x1 x2 x3 x4 s0 s1 s2 s3 s4 W)
  generalize w.alloc (.cells #[.string s0, .int .i64 s1, .int .i64 s2, .int .i64 s3, .int .i64 s4] 25) = W0 at *
  generalize hBB : w.heap.size = BB at *
  go_loopw [9, 10] (fun u v wr => ∃ i j : Nat, u = .int .i64 i ∧ v = .int .i64 j ∧ i ≤ j ∧ j ≤ n ∧ Hid (∀ x, 0 < i → l[i - 1]? = some x → befB (s0, s1, s2, s3, s4) x = true) ∧ Hid (∀ x, j < n → l[j]? = some x → befB (s0, s1, s2, s3, s4) x = false) ∧ Hid (Below BB w wr) ∧ Hid (Row wr BB [.string s0, .int .i64 s1, .int .i64 s2, .int .i64 s3, .int .i64 s4])) (fun u v _ => (intOf v).toNat - (intOf u).toNat)
  case atStart => exact ⟨0, n, rfl, rfl, by omega, by omega, hide (fun x h => by omega), hide (fun x h => by omega), HW0, HSX⟩
  case round =>
    clear HW0 HSX
    obtain ⟨i, j, rfl, rfl, hij, hjn, HI, HJ, HB, HX⟩ := hrel
    have r0 := HX.out.2.1 0 _ rfl
    have r1 := HX.out.2.1 1 _ rfl
    have r2 := HX.out.2.1 2 _ rfl
    have r3 := HX.out.2.1 3 _ rfl
    have r4 := HX.out.2.1 4 _ rfl
    have rz := HX.out.1
    by_cases hlt : i < j
    · obtain ⟨m, hm⟩ : ∃ m, m = (i + j) / 2 := ⟨_, rfl⟩
      have hmi : i ≤ m := by omega
      have hmj : m < j := by omega
      obtain ⟨⟨x0, x1, x2, x3, x4⟩, hx⟩ : ∃ x, l[m]? = some x := ⟨_, List.getElem?_eq_getElem (by rw [← Hn.out]; omega)⟩
      obtain ⟨b, off, rfl, hbs, c0, c1, c2, c3, c4⟩ := (Hr.out.below (by rw [hBB]; exact HB.out)).get5 (fun _ => rfl) hx rfl
      dsimp only at c0 c1 c2 c3 c4
      have HXX := hide hx
      have hmid : ((i : Int) + (j : Int)) / 2 = (m : Int) := by omega
      clear hx hm
      have HCX := hide (fun W => HC.out x0 x1 x2 x3 x4 W)
      have HLT := hide (cmpS5_neg (x0, x1, x2, x3, x4) (s0, s1, s2, s3, s4))
      generalize cmpS5 (x0, x1, x2, x3, x4) (s0, s1, s2, s3, s4) = cv at *
      cases hbf : befB (s0, s1, s2, s3, s4) (x0, x1, x2, x3, x4) with
      | true =>
        have hcv : cv < 0 := by have := HLT.out; rw [hbf] at this; exact of_decide_eq_true this
        have HBF := hide hbf
        clear hbf
        go_wp2_with fail
        refine wp_region_later (by kernel_rfl) (by kernel_rfl) ?_
        repeat (go_big_quiet_step ((go_at_call 30; exact calls_later (HCX.out _))))
        refine wpQuiet_nil ?_
        refine later_intro fun w3 hb3 => ?_
        have HB3 := hide (show Below BB w w3 by have h := HB.out; exact h.trans (hb3.mono (by rw [← hBB]; exact h.size)))
        have HX3 := hide (HX.out.below hb3)
        clear hb3 c0 c1 c2 c3 c4 r0 r1 r2 r3 r4 rz hbs
        go_wp2
        go_roundw
        case rel => exact ⟨m + 1, j, by go_num, rfl, by omega, hjn, hide (fun x _ hx => by rw [show m + 1 - 1 = m by omega, HXX.out] at hx; injection hx with hx; rw [← hx]; exact HBF.out), HJ, HB3, HX3⟩
        case measure => simp [intOf]; omega
      | false =>
        have hcv : ¬ cv < 0 := by have := HLT.out; rw [hbf] at this; exact of_decide_eq_false this
        have HBF := hide hbf
        clear hbf
        go_wp2_with fail
        refine wp_region_later (by kernel_rfl) (by kernel_rfl) ?_
        repeat (go_big_quiet_step ((go_at_call 30; exact calls_later (HCX.out _))))
        refine wpQuiet_nil ?_
        refine later_intro fun w3 hb3 => ?_
        have HB3 := hide (show Below BB w w3 by have h := HB.out; exact h.trans (hb3.mono (by rw [← hBB]; exact h.size)))
        have HX3 := hide (HX.out.below hb3)
        clear hb3 c0 c1 c2 c3 c4 r0 r1 r2 r3 r4 rz hbs
        go_wp2
        go_roundw
        case rel => exact ⟨i, m, rfl, rfl, by omega, by omega, HI, hide (fun x _ hx => by rw [HXX.out] at hx; injection hx with hx; rw [← hx]; exact HBF.out), HB3, HX3⟩
        case measure => simp [intOf]; omega
    · have hijE : i = j := by omega
      subst hijE
      have HAT := hide (show SrchAt l (s0, s1, s2, s3, s4) i from ⟨by have := Hn.out; omega, HI.out, fun x hx => HJ.out x (by have h := (List.getElem?_eq_some_iff.1 hx).1; have := Hn.out; omega) hx⟩)
      by_cases hin : i < n
      · obtain ⟨⟨x0, x1, x2, x3, x4⟩, hx⟩ : ∃ x, l[i]? = some x := ⟨_, List.getElem?_eq_getElem (by rw [← Hn.out]; omega)⟩
        obtain ⟨b, off, rfl, hbs, c0, c1, c2, c3, c4⟩ := (Hr.out.below (by rw [hBB]; exact HB.out)).get5 (fun _ => rfl) hx rfl
        dsimp only at c0 c1 c2 c3 c4
        clear hx
        have HCX := hide (fun W => HC.out x0 x1 x2 x3 x4 W)
        generalize cmpS5 (x0, x1, x2, x3, x4) (s0, s1, s2, s3, s4) = cv at *
        go_wp2_with fail
        refine wp_region_later (by kernel_rfl) (by kernel_rfl) ?_
        repeat (go_big_quiet_step ((go_at_call 30; exact calls_later (HCX.out _))))
        refine wpQuiet_nil ?_
        refine later_intro fun w3 hb3 => ?_
        have HB3 := hide (show Below BB w w3 by have h := HB.out; exact h.trans (hb3.mono (by rw [← hBB]; exact h.size)))
        clear hb3 c0 c1 c2 c3 c4 r0 r1 r2 r3 r4 rz hbs
        go_wp2
        go_ret2
        exact ⟨⟨i, _, rfl, HAT.out⟩, by rw [hBB]; exact HB3.out⟩
      · go_wp2_with fail
        refine wp_region_later (by kernel_rfl) (by kernel_rfl) ?_
        repeat (go_big_quiet_step (fail))
        refine wpQuiet_nil ?_
        refine later_intro fun w3 hb3 => ?_
        have HB3 := hide (show Below BB w w3 by have h := HB.out; exact h.trans (hb3.mono (by rw [← hBB]; exact h.size)))
        clear hb3 r0 r1 r2 r3 r4 rz
        go_wp2
        go_ret2
        exact ⟨⟨i, _, rfl, HAT.out⟩, by rw [hBB]; exact HB3.out⟩

/-- In a list of stretches the search ends where the reference's way puts. -/
theorem srch_put {l : List StrT} {s : StrT} (h : strsB l = true) {k : Nat} (hk : SrchAt l s k) : putS l s = l.take k ++ [s] ++ l.drop k := by
  obtain ⟨h1, h2, h3⟩ := hk
  have key := takeWhile_at (p := befB s) (l := l) (k := k) h1 (fun i x hi hx => ?_) h3
  · rw [putS, key.1, key.2]
  · have hk0 : 0 < k := by omega
    have hkl : k - 1 < l.length := by omega
    have hz : l[k - 1]? = some l[k - 1] := List.getElem?_eq_getElem hkl
    have hb := h2 _ hk0 hz
    by_cases he : i = k - 1
    · subst he
      rw [hz] at hx
      injection hx with hx
      rw [← hx]; exact hb
    · rw [befB_iff] at hb ⊢
      obtain ⟨d, hd⟩ : ∃ d, k - 1 = i + d + 1 := ⟨k - 1 - i - 1, by omega⟩
      have hz' : l[i + d + 1]? = some l[k - 1] := by rw [← hd]; exact hz
      rcases names_le h (d + 1) i x _ hx (by rw [show i + (d + 1) = i + d + 1 by omega]; exact hz') with g | g
      · rcases hb with hb | hb
        · exact .inl (List.lt_trans g hb)
        · left; rw [← hb.1]; exact g
      · have hlo := lows h d i x _ hx hz' g
        have hb1 := elem_bd h hx
        rcases hb with hb | hb
        · left; rw [g]; exact hb
        · right; exact ⟨by rw [g]; exact hb.1, by omega⟩
end Go.Proofs.Ytpkhdmhfkmajcaa

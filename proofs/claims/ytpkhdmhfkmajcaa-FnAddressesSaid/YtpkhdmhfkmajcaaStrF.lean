/- The stretch of an address. -/
import Derived.Test.YtpkhdmhfkmajcaaStrH
namespace Go.Proofs.Ytpkhdmhfkmajcaa
open Go.RowKit
set_option linter.unusedVariables false

def findP (s : ByteArray) (h : Int) (x : StrT) : Bool := (x.1.toList == s.toList) && inB h x.2.1 x.2.2.1
def addrK (l : List StrT) (s : ByteArray) (h : Int) : Int := if strsB l && roadB s && inB h 1 999 then findI (findP s h) l else -1
def addrV (l : List StrT) (v : Int) : Int × Int := if v < 0 then (0, 0) else match l[v.toNat]? with | some x => (x.2.2.2.1, x.2.2.2.2) | none => (0, 0)

set_option maxHeartbeats 1000000 in
theorem adFind_any (A : Option Addr) (n c : Nat) (l : List (ByteArray × Int × Int × Int × Int)) (s : ByteArray) (h : Int) (w : World) (hn : n = l.length) (hm : n ≤ 1048576) (hr : Rd w A (l.flatMap scells)) :
    Calls Try.prog 41 #[.slice A n c, .string s, .int .i64 h] w fun e w' => e = .returned (.int .i64 (findI (findP s h) l)) ∧ Below w.heap.size w w' := by
  have Hn := hide hn
  have Hr := hide hr
  clear hn hr
  go_enter Try.func41, Try.ntmps41
  go_wp2_with fail
  go_loopw [11] (fun t wr => ∃ k : Nat, k ≤ n ∧ t = .int .i64 k ∧ Hid (∀ (i : Nat) (x : StrT), i < k → l[i]? = some x → findP s h x = false) ∧ Below w.heap.size w wr) (fun t _ => n - (intOf t).toNat)
  case atStart => exact ⟨0, by omega, rfl, hide (fun i x hi => absurd hi (by omega)), Below.refl _ _⟩
  case round =>
    obtain ⟨k, hk, rfl, HA, hb⟩ := hrel
    by_cases hlt : k < n
    · obtain ⟨⟨x0, x1, x2, x3, x4⟩, hh⟩ : ∃ h, l[k]? = some h := ⟨_, List.getElem?_eq_getElem (by rw [← Hn.out]; exact hlt)⟩
      obtain ⟨b, off, rfl, hbs, c0, c1, c2, c3, c4⟩ := (Hr.out.below hb).get5 (fun _ => rfl) hh rfl
      have Hh := hide hh
      clear hh
      dsimp only at c0 c1 c2 c3 c4
      have q := fun w => l1In_any h x1 x2 w
      cases hp : findP s h (x0, x1, x2, x3, x4) with
      | true =>
        have HF : Hid (findI (findP s h) l = (k : Nat)) := hide (findI_at Hh.out hp (fun i b hi hb => HA.out i b hi hb))
        simp only [findP, Bool.and_eq_true] at hp
        obtain ⟨hE, hI⟩ := hp
        simp only [hI] at q
        clear hI
        go_wp2_with (go_at_call 45; ((with_reducible refine (q _).mono ?_); rintro e w' ⟨rfl, rfl⟩))
        go_ret
        exact ⟨ret_int (by rw [HF.out]), below_alloc hb _⟩
      | false =>
        have HP := hide hp
        cases hE : (x0.toList == s.toList) with
        | false =>
          clear hp
          go_wp2_with (go_at_call 45; ((with_reducible refine (q _).mono ?_); rintro e w' ⟨rfl, rfl⟩))
          go_roundw
          case rel =>
            refine ⟨k + 1, by omega, by go_num, hide (fun i x hi hx => ?_), below_alloc hb _⟩
            by_cases hi2 : i < k
            · exact HA.out i x hi2 hx
            · have hik : i = k := by omega
              rw [hik, Hh.out] at hx
              cases hx
              exact HP.out
          case measure => simp [intOf]; omega
        | true =>
          simp only [findP, hE, Bool.true_and] at hp
          simp only [hp] at q
          clear hp
          go_wp2_with (go_at_call 45; ((with_reducible refine (q _).mono ?_); rintro e w' ⟨rfl, rfl⟩))
          go_roundw
          case rel =>
            refine ⟨k + 1, by omega, by go_num, hide (fun i x hi hx => ?_), below_alloc hb _⟩
            by_cases hi2 : i < k
            · exact HA.out i x hi2 hx
            · have hik : i = k := by omega
              rw [hik, Hh.out] at hx
              cases hx
              exact HP.out
          case measure => simp [intOf]; omega
    · go_wp2
      go_ret
      exact ⟨ret_int (findI_none (fun i x hx => HA.out i x (by have := (List.getElem?_eq_some_iff.1 hx).1; have := Hn.out; omega) hx)).symm, hb⟩

set_option maxHeartbeats 1000000 in
theorem strFn_any (x0 : ByteArray) (x1 x2 x3 x4 : Int) (s : ByteArray) (h : Int) (B1 B2 : Nat) (w : World) (h1 : B1 < w.heap.size) (h2 : B2 < w.heap.size) (hc1 : w.cell? ⟨B1, 0, none⟩ = some (.string s)) (hc2 : w.cell? ⟨B2, 0, none⟩ = some (.int .i64 h)) :
    Calls Try.prog 61 #[.agg #[.string x0, .int .i64 x1, .int .i64 x2, .int .i64 x3, .int .i64 x4], .pointer (some ⟨B1, 0, none⟩), .pointer (some ⟨B2, 0, none⟩)] w fun e w' => e = .returned (.bool (findP s h (x0, x1, x2, x3, x4))) ∧ Below w.heap.size w w' := by
  have q := fun w => inside_any h x1 x2 w
  cases hE : (x0.toList == s.toList) with
  | false =>
    go_enter Try.func61, Try.ntmps61
    go_wp2_with (go_at_call 38; ((with_reducible refine (q _).mono ?_); rintro e w' ⟨rfl, rfl⟩))
    go_ret
    exact ⟨ret_bool (by simp [findP, hE]), (by repeat (first | exact Below.refl _ _ | refine below_step ?_ (by assumption) | refine below_step ?_ (Later.below _) | refine below_alloc ?_ _ | refine Below.drew ?_ | refine Below.setCell ?_ (by first | (simp; done) | (simp; omega)) _))⟩
  | true =>
    go_enter Try.func61, Try.ntmps61
    go_wp2_with (go_at_call 38; ((with_reducible refine (q _).mono ?_); rintro e w' ⟨rfl, rfl⟩))
    go_ret
    exact ⟨ret_bool (by simp [findP, hE]), (by repeat (first | exact Below.refl _ _ | refine below_step ?_ (by assumption) | refine below_step ?_ (Later.below _) | refine below_alloc ?_ _ | refine Below.drew ?_ | refine Below.setCell ?_ (by first | (simp; done) | (simp; omega)) _))⟩

set_option maxHeartbeats 1000000 in
theorem idxStr_any (A : Option Addr) (n c : Nat) (l : List (ByteArray × Int × Int × Int × Int)) (s : ByteArray) (h : Int) (B1 B2 : Nat) (w : World) (hn : n = l.length) (hm : n ≤ 1048576) (hr : Rd w A (l.flatMap scells)) (h1 : B1 < w.heap.size) (h2 : B2 < w.heap.size) (hc1 : w.cell? ⟨B1, 0, none⟩ = some (.string s)) (hc2 : w.cell? ⟨B2, 0, none⟩ = some (.int .i64 h)) :
    Calls Try.prog 60 #[.slice A n c, .func (.func 61) #[] #[.pointer (some ⟨B1, 0, none⟩), .pointer (some ⟨B2, 0, none⟩)]] w fun e w' => e = .returned (.int .i64 (findI (findP s h) l)) ∧ Below w.heap.size w w' := by
  have Hn := hide hn
  have Hr := hide hr
  have HC := hide (And.intro hc1 hc2)
  have H1 := hide (And.intro h1 h2)
  clear hn hr hc1 hc2 h1 h2
  go_enter Try.func60, Try.ntmps60
  go_wp2_with fail
  go_loopw [8] (fun t wr => ∃ k : Nat, k ≤ n ∧ t = .int .i64 k ∧ Hid (∀ (i : Nat) (x : StrT), i < k → l[i]? = some x → findP s h x = false) ∧ Below w.heap.size w wr) (fun t _ => n - (intOf t).toNat)
  case atStart => exact ⟨0, by omega, rfl, hide (fun i x hi => absurd hi (by omega)), Below.refl _ _⟩
  case round =>
    obtain ⟨k, hk, rfl, HA, hb⟩ := hrel
    by_cases hlt : k < n
    · obtain ⟨⟨x0, x1, x2, x3, x4⟩, hh⟩ : ∃ h, l[k]? = some h := ⟨_, List.getElem?_eq_getElem (by rw [← Hn.out]; exact hlt)⟩
      obtain ⟨b, off, rfl, hbs, c0, c1, c2, c3, c4⟩ := (Hr.out.below hb).get5 (fun _ => rfl) hh rfl
      have Hh := hide hh
      clear hh
      dsimp only at c0 c1 c2 c3 c4
      have q := strFn_any x0 x1 x2 x3 x4 s h B1 B2 wr (Nat.lt_of_lt_of_le H1.out.1 hb.size) (Nat.lt_of_lt_of_le H1.out.2 hb.size) ((hb.cell (p := ⟨B1, 0, none⟩) H1.out.1).trans HC.out.1) ((hb.cell (p := ⟨B2, 0, none⟩) H1.out.2).trans HC.out.2)
      cases hp : findP s h (x0, x1, x2, x3, x4) with
      | true =>
        have HF : Hid (findI (findP s h) l = (k : Nat)) := hide (findI_at Hh.out hp (fun i b hi hb => HA.out i b hi hb))
        rw [hp] at q
        clear hp
        go_wp2_with (go_at_call 61; ((with_reducible refine (q).mono ?_); rintro e w1 ⟨rfl, hb1⟩); obtain ⟨hc1, hf1⟩ := bcell hb1)
        go_ret
        exact ⟨ret_int (by rw [HF.out]), (by repeat (first | exact Below.refl _ _ | refine below_step ?_ (by assumption) | refine below_step ?_ (Later.below _) | refine below_alloc ?_ _ | refine Below.drew ?_ | refine Below.setCell ?_ (by first | (simp; done) | (simp; omega)) _))⟩
      | false =>
        have HP := hide hp
        rw [hp] at q
        clear hp
        go_wp2_with (go_at_call 61; ((with_reducible refine (q).mono ?_); rintro e w1 ⟨rfl, hb1⟩); obtain ⟨hc1, hf1⟩ := bcell hb1)
        go_roundw
        case rel =>
          refine ⟨k + 1, by omega, by go_num, hide (fun i x hi hx => ?_), (by repeat (first | exact Below.refl _ _ | refine below_step ?_ (by assumption) | refine below_step ?_ (Later.below _) | refine below_alloc ?_ _ | refine Below.drew ?_ | refine Below.setCell ?_ (by first | (simp; done) | (simp; omega)) _))⟩
          by_cases hi2 : i < k
          · exact HA.out i x hi2 hx
          · have hik : i = k := by omega
            rw [hik, Hh.out] at hx
            cases hx
            exact HP.out
        case measure => simp [intOf]; omega
    · go_wp2
      go_ret
      exact ⟨ret_int (findI_none (fun i x hx => HA.out i x (by have := (List.getElem?_eq_some_iff.1 hx).1; have := Hn.out; omega) hx)).symm, hb⟩

set_option maxHeartbeats 1000000 in
theorem stretchOf_any (A : Option Addr) (n c : Nat) (l : List (ByteArray × Int × Int × Int × Int)) (s : ByteArray) (h : Int) (w : World) (hn : n = l.length) (hm : n ≤ 1048576) (hr : Rd w A (l.flatMap scells)) :
    Calls Try.prog 39 #[.slice A n c, .string s, .int .i64 h] w fun e w' => e = .returned (.int .i64 (findI (findP s h) l)) ∧ Below w.heap.size w w' := by
  have hmf : ∀ (fn : Fn) (first cap : Array Value) (w : World), (Instr.makeFunc fn first cap).run Try.prog w = .ok (.func fn first cap) w := fun _ _ _ _ => rfl
  have Q := hide (fun W hr' h1 h2 h3 h4 => idxStr_any A n c l s h w.heap.size (w.heap.size + 1) W hn hm hr' h1 h2 h3 h4)
  have HR := hide ((hr.alloc (.cells #[.string s] 9)).alloc (.cells #[.int .i64 h] 3))
  clear hn hr
  go_enter Try.func39, Try.ntmps39
  go_wp2_with fail
  refine (Q.out _ HR.out (by simp <;> omega) (by simp <;> omega) (by simp) (by simp)).mono ?_
  rintro e w1 ⟨rfl, hb1⟩
  go_wp2
  go_ret
  exact ⟨rfl, (by repeat (first | exact Below.refl _ _ | refine below_step ?_ (by assumption) | refine below_step ?_ (Later.below _) | refine below_alloc ?_ _ | refine Below.drew ?_ | refine Below.setCell ?_ (by first | (simp; done) | (simp; omega)) _))⟩

theorem addrK_cases (l : List StrT) (s : ByteArray) (h : Int) : addrK l s h = -1 ∨ ∃ k x, addrK l s h = (k : Nat) ∧ l[k]? = some x := by
  unfold addrK
  split
  · rcases findI_cases (findP s h) l with h | ⟨k, a, h, ha, _⟩
    · exact .inl h
    · exact .inr ⟨k, a, h, ha⟩
  · exact .inl rfl

set_option maxHeartbeats 1000000 in
theorem adAsked_any (A : Option Addr) (n c : Nat) (l : List (ByteArray × Int × Int × Int × Int)) (s : ByteArray) (h : Int) (w : World) (hn : n = l.length) (hm : n ≤ 1048576) (hs : ∀ x ∈ l, x.1.size ≤ maxLen) (hr : Rd w A (l.flatMap scells)) (hz : s.size ≤ maxLen) :
    Calls Try.prog 40 #[.slice A n c, .string s, .int .i64 h] w fun e w' => e = .returned (.bool (strsB l && roadB s && inB h 1 999)) ∧ Below w.heap.size w w' := by
  have q := adGood_any A n c l w hn hm hs hr
  have q2 := fun w => adName_any s w hz
  clear hn hr hs hz
  go_enter Try.func40, Try.ntmps40
  go_wp2_with (first | (go_at_call 33; ((with_reducible refine (q).mono ?_); rintro e w1 ⟨rfl, hb1⟩); obtain ⟨hc1, hf1⟩ := bcell hb1) | (go_at_call 43; ((with_reducible refine (q2 _).mono ?_); rintro e w' ⟨rfl, rfl⟩)) | (go_at_call 57; ((with_reducible refine (adHouse_any _ _).mono ?_); rintro e w' ⟨rfl, rfl⟩)))
  all_goals
    ((try simp only [Bool.not_eq_true'] at *); (try simp only [Bool.not_eq_false'] at *))
    go_ret
    exact ⟨ret_bool (by simp_all), (by repeat (first | exact Below.refl _ _ | refine below_step ?_ (by assumption) | refine below_step ?_ (Later.below _) | refine below_alloc ?_ _ | refine Below.drew ?_ | refine Below.setCell ?_ (by first | (simp; done) | (simp; omega)) _))⟩

set_option maxHeartbeats 2000000 in
theorem specFindAddress_any (A : Option Addr) (n c : Nat) (l : List (ByteArray × Int × Int × Int × Int)) (s : ByteArray) (h : Int) (w : World) (hn : n = l.length) (hm : n ≤ 1048576) (hs : ∀ x ∈ l, x.1.size ≤ maxLen) (hr : Rd w A (l.flatMap scells)) (hz : s.size ≤ maxLen) :
    Calls Try.prog 11 #[.slice A n c, .string s, .int .i64 h] w fun e w' => e = .returned (.tuple #[.int .i64 (addrV l (addrK l s h)).1, .int .i64 (addrV l (addrK l s h)).2, .bool (decide (0 ≤ addrK l s h))]) ∧ Below w.heap.size w w' := by
  have Hn := hide hn
  have Hr := hide hr
  have q := adAsked_any A n c l s h w hn hm hs hr hz
  cases hv : strsB l && roadB s && inB h 1 999 with
  | false =>
    have e1 : addrK l s h = -1 := by rw [addrK, hv]; rfl
    rw [e1]
    rw [hv] at q
    clear hv e1 hn hr hs hz
    go_enter Try.func11, Try.ntmps11
    go_wp2_with (go_at_call 40; ((with_reducible refine (q).mono ?_); rintro e w1 ⟨rfl, hb1⟩); obtain ⟨hc1, hf1⟩ := bcell hb1)
    go_ret3
    exact ⟨ret_tup3 (by simp [addrV]) (by simp [addrV]) (by simp), (by repeat (first | exact Below.refl _ _ | refine below_step ?_ (by assumption) | refine below_step ?_ (Later.below _) | refine below_alloc ?_ _ | refine Below.drew ?_ | refine Below.setCell ?_ (by first | (simp; done) | (simp; omega)) _))⟩
  | true =>
    have q2 := fun W hr' => adFind_any A n c l s h W hn hm hr'
    have e0 : findI (findP s h) l = addrK l s h := by rw [addrK, if_pos hv]
    have hcs := addrK_cases l s h
    rw [hv] at q
    simp only [e0] at q2
    have Q2 := hide q2
    clear hv hn hr hs hz e0 q2
    rcases hcs with h1 | ⟨k, ⟨x0, x1, x2, x3, x4⟩, h1, hk⟩
    · rw [h1] at Q2 ⊢
      clear h1
      go_enter Try.func11, Try.ntmps11
      go_wp2_with (first | (go_at_call 40; ((with_reducible refine (q).mono ?_); rintro e w1 ⟨rfl, hb1⟩); obtain ⟨hc1, hf1⟩ := bcell hb1) | (go_at_call 41; ((with_reducible refine (Q2.out _ (Hr.out.below (by assumption))).mono ?_); rintro e w2 ⟨rfl, hb2⟩); obtain ⟨hc2, hf2⟩ := bcell hb2))
      go_ret3
      exact ⟨ret_tup3 (by simp [addrV]) (by simp [addrV]) (by simp), (by repeat (first | exact Below.refl _ _ | refine below_step ?_ (by assumption) | refine below_step ?_ (Later.below _) | refine below_alloc ?_ _ | refine Below.drew ?_ | refine Below.setCell ?_ (by first | (simp; done) | (simp; omega)) _))⟩
    · rw [h1] at Q2 ⊢
      clear h1
      obtain ⟨b, off, rfl, hbs, c0, c1, c2, c3, c4⟩ := (Hr.out).get5 (fun _ => rfl) hk rfl
      dsimp only at c0 c1 c2 c3 c4
      have hkn : k < n := by rw [Hn.out]; exact (List.getElem?_eq_some_iff.1 hk).1
      have HV : Hid (addrV l (k : Nat) = (x3, x4)) := hide (by rw [addrV, if_neg (by omega), Int.toNat_natCast, hk])
      clear hk
      go_enter Try.func11, Try.ntmps11
      go_wp2_with (first | (go_at_call 40; ((with_reducible refine (q).mono ?_); rintro e w1 ⟨rfl, hb1⟩); (first | (obtain ⟨n1, rfl⟩ := later_up n1 hb1) | (obtain ⟨n1, rfl⟩ := later_of hb1)); clear hb1) | (go_at_call 41; ((with_reducible refine (Q2.out _ (Hr.out.below (Later.below _))).mono ?_); rintro e w1 ⟨rfl, hb1⟩); (first | (obtain ⟨n1, rfl⟩ := later_up n1 hb1) | (obtain ⟨n1, rfl⟩ := later_of hb1)); clear hb1))
      refine wp_region_later (by kernel_rfl) (by kernel_rfl) ?_
      repeat (go_big_quiet_step (fail))
      refine wpQuiet_nil ?_
      refine later_intro fun w1 hb1 => ?_
      go_wp2
      all_goals
        go_ret3
        exact ⟨ret_tup3 (by rw [HV.out]) (by rw [HV.out]) (by simp), (by repeat (first | exact Below.refl _ _ | refine below_step ?_ (by assumption) | refine below_step ?_ (Later.below _) | refine below_alloc ?_ _ | refine Below.drew ?_ | refine Below.setCell ?_ (by first | (simp; done) | (simp; omega)) _))⟩

set_option maxHeartbeats 2000000 in
theorem implFindAddress_any (A : Option Addr) (n c : Nat) (l : List (ByteArray × Int × Int × Int × Int)) (s : ByteArray) (h : Int) (w : World) (hn : n = l.length) (hm : n ≤ 1048576) (hs : ∀ x ∈ l, x.1.size ≤ maxLen) (hr : Rd w A (l.flatMap scells)) (hz : s.size ≤ maxLen) :
    Calls Try.prog 10 #[.slice A n c, .string s, .int .i64 h] w fun e w' => e = .returned (.tuple #[.int .i64 (addrV l (addrK l s h)).1, .int .i64 (addrV l (addrK l s h)).2, .bool (decide (0 ≤ addrK l s h))]) ∧ Below w.heap.size w w' := by
  have Hn := hide hn
  have Hr := hide hr
  have q := areStretches_any A n c l w hn hm hs hr
  have q1 := fun w => isRoad_any s w hz
  cases hv : strsB l && roadB s && inB h 1 999 with
  | false =>
    have e1 : addrK l s h = -1 := by rw [addrK, hv]; rfl
    rw [e1]
    have Q2 := hide (fun W hr' => stretchOf_any A n c l s h W hn hm hr')
    clear e1 hn hr hs hz
    go_enter Try.func10, Try.ntmps10
    go_wp2_with (first | (go_at_call 27; ((with_reducible refine (q).mono ?_); rintro e w1 ⟨rfl, hb1⟩); obtain ⟨hc1, hf1⟩ := bcell hb1) | (go_at_call 37; ((with_reducible refine (q1 _).mono ?_); rintro e w' ⟨rfl, rfl⟩)) | (go_at_call 38; ((with_reducible refine (inside_any _ _ _ _).mono ?_); rintro e w' ⟨rfl, rfl⟩)) | (go_at_call 39; ((with_reducible refine (Q2.out _ (Hr.out.below (by assumption))).mono ?_); rintro e w2 ⟨rfl, hb2⟩); obtain ⟨hc2, hf2⟩ := bcell hb2))
    all_goals
      first
      | (exfalso; simp_all; done)
      | (go_ret3; exact ⟨ret_tup3 (by simp [addrV]) (by simp [addrV]) (by simp), (by repeat (first | exact Below.refl _ _ | refine below_step ?_ (by assumption) | refine below_step ?_ (Later.below _) | refine below_alloc ?_ _ | refine Below.drew ?_ | refine Below.setCell ?_ (by first | (simp; done) | (simp; omega)) _))⟩)
  | true =>
    have q2 := fun W hr' => stretchOf_any A n c l s h W hn hm hr'
    have q3 := fun w => inside_any h 1 999 w
    have e0 : findI (findP s h) l = addrK l s h := by rw [addrK, if_pos hv]
    have hcs := addrK_cases l s h
    simp only [Bool.and_eq_true] at hv
    obtain ⟨⟨hv1, hv2⟩, hv3⟩ := hv
    rw [hv1] at q
    simp only [hv2] at q1
    simp only [hv3] at q3
    simp only [e0] at q2
    have Q2 := hide q2
    clear hv1 hv2 hv3 hn hr hs hz e0 q2
    rcases hcs with h1 | ⟨k, ⟨x0, x1, x2, x3, x4⟩, h1, hk⟩
    · rw [h1] at Q2 ⊢
      clear h1
      go_enter Try.func10, Try.ntmps10
      go_wp2_with (first | (go_at_call 27; ((with_reducible refine (q).mono ?_); rintro e w1 ⟨rfl, hb1⟩); obtain ⟨hc1, hf1⟩ := bcell hb1) | (go_at_call 37; ((with_reducible refine (q1 _).mono ?_); rintro e w' ⟨rfl, rfl⟩)) | (go_at_call 38; ((with_reducible refine (q3 _).mono ?_); rintro e w' ⟨rfl, rfl⟩)) | (go_at_call 39; ((with_reducible refine (Q2.out _ (Hr.out.below (by assumption))).mono ?_); rintro e w2 ⟨rfl, hb2⟩); obtain ⟨hc2, hf2⟩ := bcell hb2))
      go_ret3
      exact ⟨ret_tup3 (by simp [addrV]) (by simp [addrV]) (by simp), (by repeat (first | exact Below.refl _ _ | refine below_step ?_ (by assumption) | refine below_step ?_ (Later.below _) | refine below_alloc ?_ _ | refine Below.drew ?_ | refine Below.setCell ?_ (by first | (simp; done) | (simp; omega)) _))⟩
    · rw [h1] at Q2 ⊢
      clear h1
      obtain ⟨b, off, rfl, hbs, c0, c1, c2, c3, c4⟩ := (Hr.out).get5 (fun _ => rfl) hk rfl
      dsimp only at c0 c1 c2 c3 c4
      have hkn : k < n := by rw [Hn.out]; exact (List.getElem?_eq_some_iff.1 hk).1
      have HV : Hid (addrV l (k : Nat) = (x3, x4)) := hide (by rw [addrV, if_neg (by omega), Int.toNat_natCast, hk])
      clear hk
      go_enter Try.func10, Try.ntmps10
      go_wp2_with (first | (go_at_call 27; ((with_reducible refine (q).mono ?_); rintro e w1 ⟨rfl, hb1⟩); (first | (obtain ⟨n1, rfl⟩ := later_up n1 hb1) | (obtain ⟨n1, rfl⟩ := later_of hb1)); clear hb1) | (go_at_call 37; ((with_reducible refine (q1 _).mono ?_); rintro e w' ⟨rfl, rfl⟩)) | (go_at_call 38; ((with_reducible refine (q3 _).mono ?_); rintro e w' ⟨rfl, rfl⟩)) | (go_at_call 39; ((with_reducible refine (Q2.out _ (Hr.out.below (Later.below _))).mono ?_); rintro e w1 ⟨rfl, hb1⟩); (first | (obtain ⟨n1, rfl⟩ := later_up n1 hb1) | (obtain ⟨n1, rfl⟩ := later_of hb1)); clear hb1))
      refine wp_region_later (by kernel_rfl) (by kernel_rfl) ?_
      repeat (go_big_quiet_step (fail))
      refine wpQuiet_nil ?_
      refine later_intro fun w1 hb1 => ?_
      go_wp2
      all_goals
        go_ret3
        exact ⟨ret_tup3 (by rw [HV.out]) (by rw [HV.out]) (by simp), (by repeat (first | exact Below.refl _ _ | refine below_step ?_ (by assumption) | refine below_step ?_ (Later.below _) | refine below_alloc ?_ _ | refine Below.drew ?_ | refine Below.setCell ?_ (by first | (simp; done) | (simp; omega)) _))⟩
end Go.Proofs.Ytpkhdmhfkmajcaa

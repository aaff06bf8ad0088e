/- Houses of a road, the highest risk of a node. -/
import Derived.Test.YtpkhdmhfkmajcaaStrL
import Derived.Test.YtpkhdmhfkmajcaaSums
namespace Go.Proofs.Ytpkhdmhfkmajcaa
open Go.RowKit
set_option linter.unusedVariables false

abbrev StrT := ByteArray × Int × Int × Int × Int
theorem strsB_elem {l : List StrT} (h : strsB l = true) {x : StrT} (hx : x ∈ l) : strP x = true := by
  simp only [strsB, Bool.and_eq_true] at h
  exact chainB_mem h.1 hx
theorem strsB_len {l : List StrT} (h : strsB l = true) : l.length ≤ 30 := by
  simp only [strsB, Bool.and_eq_true, decide_eq_true_eq] at h
  exact h.2
theorem strP_bd {x0 : ByteArray} {x1 x2 x3 x4 : Int} (h : strP (x0, x1, x2, x3, x4) = true) : (1 ≤ x1 ∧ x1 ≤ x2 ∧ x2 ≤ 999) ∧ (0 ≤ x3 ∧ x3 ≤ 13) ∧ (1 ≤ x4 ∧ x4 ≤ 5) := by
  simp only [strP, strB, Bool.and_eq_true, inB_iff, decide_eq_true_eq] at h
  omega

def houseF (s : ByteArray) (x : StrT) : Int := if (x.1.toList == s.toList) = true then x.2.2.1 - x.2.1 + 1 else 0
def riskF (n : Int) (x : StrT) : Int := if x.2.2.2.1 = n then x.2.2.2.2 else 0
theorem houseF_bd {s : ByteArray} {l : List StrT} (h : strsB l = true) : ∀ x ∈ l, 0 ≤ houseF s x ∧ houseF s x ≤ (999 : Nat) := by
  intro ⟨x0, x1, x2, x3, x4⟩ hx
  have := strP_bd (strsB_elem h hx)
  unfold houseF
  dsimp only
  split <;> omega

def housesV (l : List StrT) (s : ByteArray) : Int := if strsB l && roadB s then sumK (houseF s) l l.length else 0
def riskV (l : List StrT) (n : Int) : Int := if strsB l && inB n 0 13 then maxK (riskF n) l l.length else 0

set_option maxHeartbeats 4000000 in
theorem implHousesOf_any (A : Option Addr) (n c : Nat) (l : List (ByteArray × Int × Int × Int × Int)) (s : ByteArray) (w : World) (hn : n = l.length) (hm : n ≤ 1048576) (hs : ∀ x ∈ l, x.1.size ≤ maxLen) (hr : Rd w A (l.flatMap scells)) (hz : s.size ≤ maxLen) :
    Calls Try.prog 15 #[.slice A n c, .string s] w fun e w' => e = .returned (.tuple #[.int .i64 (housesV l s), .bool (strsB l && roadB s)]) ∧ Below w.heap.size w w' := by
  have Hn := hide hn
  have Hr := hide hr
  have q := areStretches_any A n c l w hn hm hs hr
  have q2 := fun w => isRoad_any s w hz
  clear hn hr hs hz
  cases hv : strsB l with
  | false =>
    have Hv := hide hv
    rw [hv] at q
    clear hv
    go_enter Try.func15, Try.ntmps15
    go_wp2_with (first | (go_at_call 27; ((with_reducible refine (q).mono ?_); rintro e w1 ⟨rfl, hb1⟩); obtain ⟨hc1, hf1⟩ := bcell hb1) | (go_at_call 37; ((with_reducible refine (q2 _).mono ?_); rintro e w' ⟨rfl, rfl⟩)))
    all_goals
      go_ret2
      exact ⟨ret_tup2 (by simp [housesV, Hv.out]) rfl, (by repeat (first | exact Below.refl _ _ | refine below_step ?_ (by assumption) | refine below_step ?_ (Later.below _) | refine below_alloc ?_ _ | refine Below.drew ?_ | refine Below.setCell ?_ (by first | (simp; done) | (simp; omega)) _))⟩
  | true =>
    have Hv := hide hv
    rw [hv] at q
    have hln : n ≤ 30 := by rw [Hn.out]; exact strsB_len hv
    clear hv
    cases hq : roadB s with
    | false =>
      have Hq := hide hq
      simp only [hq] at q2
      clear hq
      go_enter Try.func15, Try.ntmps15
      go_wp2_with (first | (go_at_call 27; ((with_reducible refine (q).mono ?_); rintro e w1 ⟨rfl, hb1⟩); obtain ⟨hc1, hf1⟩ := bcell hb1) | (go_at_call 37; ((with_reducible refine (q2 _).mono ?_); rintro e w' ⟨rfl, rfl⟩)))
      all_goals
        go_ret2
        exact ⟨ret_tup2 (by simp [housesV, Hq.out]) rfl, (by repeat (first | exact Below.refl _ _ | refine below_step ?_ (by assumption) | refine below_step ?_ (Later.below _) | refine below_alloc ?_ _ | refine Below.drew ?_ | refine Below.setCell ?_ (by first | (simp; done) | (simp; omega)) _))⟩
    | true =>
      have Hq := hide hq
      simp only [hq] at q2
      clear hq
      go_enter Try.func15, Try.ntmps15
      go_wp2_with (first | (go_at_call 27; ((with_reducible refine (q).mono ?_); rintro e w1 ⟨rfl, hb1⟩); obtain ⟨hc1, hf1⟩ := bcell hb1) | (go_at_call 37; ((with_reducible refine (q2 _).mono ?_); rintro e w' ⟨rfl, rfl⟩)))
      clear q q2
      go_loopw [6, 19] (fun s' t wr => ∃ k : Nat, k ≤ n ∧ t = .int .i64 k ∧ s' = .int .i64 (sumK (houseF s) l k) ∧ Below w.heap.size w wr) (fun _ t _ => n - (intOf t).toNat)
      case atStart => exact ⟨0, by omega, rfl, by rw [sumK_zero], (by repeat (first | exact Below.refl _ _ | refine below_step ?_ (by assumption) | refine below_step ?_ (Later.below _) | refine below_alloc ?_ _ | refine Below.drew ?_ | refine Below.setCell ?_ (by first | (simp; done) | (simp; omega)) _))⟩
      case round =>
        obtain ⟨k, hk, rfl, rfl, hb⟩ := hrel
        by_cases hlt : k < n
        · obtain ⟨⟨x0, x1, x2, x3, x4⟩, hh⟩ : ∃ h, l[k]? = some h := ⟨_, List.getElem?_eq_getElem (by rw [← Hn.out]; exact hlt)⟩
          obtain ⟨b, off, rfl, hbs, c0, c1, c2, c3, c4⟩ := (Hr.out.below hb).get5 (fun _ => rfl) hh rfl
          have HS := hide (sumK_succ (f := houseF s) hh)
          have hbd := sumK_bd 999 (houseF_bd (s := s) Hv.out) k
          have hbd2 := strP_bd (strsB_elem Hv.out (List.mem_of_getElem? hh))
          clear hh
          dsimp only at c0 c1 c2 c3 c4
          cases hE : (x0.toList == s.toList) with
          | true =>
            have HF : Hid (houseF s (x0, x1, x2, x3, x4) = x2 - x1 + 1) := hide (by rw [houseF, if_pos hE])
            go_wp2
            go_roundw
            case rel => exact ⟨k + 1, by omega, by go_num, by rw [HS.out, HF.out] <;> go_num, below_alloc hb _⟩
            case measure => simp [intOf]; omega
          | false =>
            have HF : Hid (houseF s (x0, x1, x2, x3, x4) = 0) := hide (by rw [houseF, if_neg (by simp [hE])])
            go_wp2
            go_roundw
            case rel => exact ⟨k + 1, by omega, by go_num, by rw [HS.out, HF.out, Int.add_zero], below_alloc hb _⟩
            case measure => simp [intOf]; omega
        · go_wp2
          go_ret2
          exact ⟨ret_tup2 (by rw [housesV, Hv.out, Hq.out, sumK_all (by have := Hn.out; omega)]; rfl) rfl, hb⟩
set_option maxHeartbeats 4000000 in
theorem specHousesOf_any (A : Option Addr) (n c : Nat) (l : List (ByteArray × Int × Int × Int × Int)) (s : ByteArray) (w : World) (hn : n = l.length) (hm : n ≤ 1048576) (hs : ∀ x ∈ l, x.1.size ≤ maxLen) (hr : Rd w A (l.flatMap scells)) (hz : s.size ≤ maxLen) :
    Calls Try.prog 16 #[.slice A n c, .string s] w fun e w' => e = .returned (.tuple #[.int .i64 (housesV l s), .bool (strsB l && roadB s)]) ∧ Below w.heap.size w w' := by
  have Hn := hide hn
  have Hr := hide hr
  have q := adGood_any A n c l w hn hm hs hr
  have q2 := fun w => adName_any s w hz
  clear hn hr hs hz
  cases hv : strsB l with
  | false =>
    have Hv := hide hv
    rw [hv] at q
    clear hv
    go_enter Try.func16, Try.ntmps16
    go_wp2_with (first | (go_at_call 33; ((with_reducible refine (q).mono ?_); rintro e w1 ⟨rfl, hb1⟩); obtain ⟨hc1, hf1⟩ := bcell hb1) | (go_at_call 43; ((with_reducible refine (q2 _).mono ?_); rintro e w' ⟨rfl, rfl⟩)))
    all_goals
      go_ret2
      exact ⟨ret_tup2 (by simp [housesV, Hv.out]) rfl, (by repeat (first | exact Below.refl _ _ | refine below_step ?_ (by assumption) | refine below_step ?_ (Later.below _) | refine below_alloc ?_ _ | refine Below.drew ?_ | refine Below.setCell ?_ (by first | (simp; done) | (simp; omega)) _))⟩
  | true =>
    have Hv := hide hv
    rw [hv] at q
    have hln : n ≤ 30 := by rw [Hn.out]; exact strsB_len hv
    clear hv
    cases hq : roadB s with
    | false =>
      have Hq := hide hq
      simp only [hq] at q2
      clear hq
      go_enter Try.func16, Try.ntmps16
      go_wp2_with (first | (go_at_call 33; ((with_reducible refine (q).mono ?_); rintro e w1 ⟨rfl, hb1⟩); obtain ⟨hc1, hf1⟩ := bcell hb1) | (go_at_call 43; ((with_reducible refine (q2 _).mono ?_); rintro e w' ⟨rfl, rfl⟩)))
      all_goals
        go_ret2
        exact ⟨ret_tup2 (by simp [housesV, Hq.out]) rfl, (by repeat (first | exact Below.refl _ _ | refine below_step ?_ (by assumption) | refine below_step ?_ (Later.below _) | refine below_alloc ?_ _ | refine Below.drew ?_ | refine Below.setCell ?_ (by first | (simp; done) | (simp; omega)) _))⟩
    | true =>
      have Hq := hide hq
      simp only [hq] at q2
      clear hq
      go_enter Try.func16, Try.ntmps16
      go_wp2_with (first | (go_at_call 33; ((with_reducible refine (q).mono ?_); rintro e w1 ⟨rfl, hb1⟩); obtain ⟨hc1, hf1⟩ := bcell hb1) | (go_at_call 43; ((with_reducible refine (q2 _).mono ?_); rintro e w' ⟨rfl, rfl⟩)))
      clear q q2
      go_loopw [6, 19] (fun s' t wr => ∃ k : Nat, k ≤ n ∧ t = .int .i64 k ∧ s' = .int .i64 (sumK (houseF s) l k) ∧ Below w.heap.size w wr) (fun _ t _ => n - (intOf t).toNat)
      case atStart => exact ⟨0, by omega, rfl, by rw [sumK_zero], (by repeat (first | exact Below.refl _ _ | refine below_step ?_ (by assumption) | refine below_step ?_ (Later.below _) | refine below_alloc ?_ _ | refine Below.drew ?_ | refine Below.setCell ?_ (by first | (simp; done) | (simp; omega)) _))⟩
      case round =>
        obtain ⟨k, hk, rfl, rfl, hb⟩ := hrel
        by_cases hlt : k < n
        · obtain ⟨⟨x0, x1, x2, x3, x4⟩, hh⟩ : ∃ h, l[k]? = some h := ⟨_, List.getElem?_eq_getElem (by rw [← Hn.out]; exact hlt)⟩
          obtain ⟨b, off, rfl, hbs, c0, c1, c2, c3, c4⟩ := (Hr.out.below hb).get5 (fun _ => rfl) hh rfl
          have HS := hide (sumK_succ (f := houseF s) hh)
          have hbd := sumK_bd 999 (houseF_bd (s := s) Hv.out) k
          have hbd2 := strP_bd (strsB_elem Hv.out (List.mem_of_getElem? hh))
          clear hh
          dsimp only at c0 c1 c2 c3 c4
          cases hE : (x0.toList == s.toList) with
          | true =>
            have HF : Hid (houseF s (x0, x1, x2, x3, x4) = x2 - x1 + 1) := hide (by rw [houseF, if_pos hE])
            go_wp2
            go_roundw
            case rel => exact ⟨k + 1, by omega, by go_num, by rw [HS.out, HF.out] <;> go_num, below_alloc hb _⟩
            case measure => simp [intOf]; omega
          | false =>
            have HF : Hid (houseF s (x0, x1, x2, x3, x4) = 0) := hide (by rw [houseF, if_neg (by simp [hE])])
            go_wp2
            go_roundw
            case rel => exact ⟨k + 1, by omega, by go_num, by rw [HS.out, HF.out, Int.add_zero], below_alloc hb _⟩
            case measure => simp [intOf]; omega
        · go_wp2
          go_ret2
          exact ⟨ret_tup2 (by rw [housesV, Hv.out, Hq.out, sumK_all (by have := Hn.out; omega)]; rfl) rfl, hb⟩

set_option maxHeartbeats 4000000 in
theorem implHighestRisk_any (A : Option Addr) (n c : Nat) (l : List (ByteArray × Int × Int × Int × Int)) (nd : Int) (w : World) (hn : n = l.length) (hm : n ≤ 1048576) (hs : ∀ x ∈ l, x.1.size ≤ maxLen) (hr : Rd w A (l.flatMap scells)) :
    Calls Try.prog 18 #[.slice A n c, .int .i64 nd] w fun e w' => e = .returned (.tuple #[.int .i64 (riskV l nd), .bool (strsB l && inB nd 0 13)]) ∧ Below w.heap.size w w' := by
  have Hn := hide hn
  have Hr := hide hr
  have q := areStretches_any A n c l w hn hm hs hr
  have q2 := fun w => inside_any nd 0 13 w
  clear hn hr hs
  cases hv : strsB l with
  | false =>
    have Hv := hide hv
    rw [hv] at q
    clear hv
    go_enter Try.func18, Try.ntmps18
    go_wp2_with (first | (go_at_call 27; ((with_reducible refine (q).mono ?_); rintro e w1 ⟨rfl, hb1⟩); obtain ⟨hc1, hf1⟩ := bcell hb1) | (go_at_call 38; ((with_reducible refine (q2 _).mono ?_); rintro e w' ⟨rfl, rfl⟩)))
    all_goals
      go_ret2
      exact ⟨ret_tup2 (by simp [riskV, Hv.out]) rfl, (by repeat (first | exact Below.refl _ _ | refine below_step ?_ (by assumption) | refine below_step ?_ (Later.below _) | refine below_alloc ?_ _ | refine Below.drew ?_ | refine Below.setCell ?_ (by first | (simp; done) | (simp; omega)) _))⟩
  | true =>
    have Hv := hide hv
    rw [hv] at q
    have hln : n ≤ 30 := by rw [Hn.out]; exact strsB_len hv
    clear hv
    cases hq : inB nd 0 13 with
    | false =>
      have Hq := hide hq
      simp only [hq] at q2
      clear hq
      go_enter Try.func18, Try.ntmps18
      go_wp2_with (first | (go_at_call 27; ((with_reducible refine (q).mono ?_); rintro e w1 ⟨rfl, hb1⟩); obtain ⟨hc1, hf1⟩ := bcell hb1) | (go_at_call 38; ((with_reducible refine (q2 _).mono ?_); rintro e w' ⟨rfl, rfl⟩)))
      all_goals
        go_ret2
        exact ⟨ret_tup2 (by simp [riskV, Hq.out]) rfl, (by repeat (first | exact Below.refl _ _ | refine below_step ?_ (by assumption) | refine below_step ?_ (Later.below _) | refine below_alloc ?_ _ | refine Below.drew ?_ | refine Below.setCell ?_ (by first | (simp; done) | (simp; omega)) _))⟩
    | true =>
      have Hq := hide hq
      simp only [hq] at q2
      clear hq
      go_enter Try.func18, Try.ntmps18
      go_wp2_with (first | (go_at_call 27; ((with_reducible refine (q).mono ?_); rintro e w1 ⟨rfl, hb1⟩); obtain ⟨hc1, hf1⟩ := bcell hb1) | (go_at_call 38; ((with_reducible refine (q2 _).mono ?_); rintro e w' ⟨rfl, rfl⟩)))
      clear q q2
      go_loopw [6, 19] (fun s' t wr => ∃ k : Nat, k ≤ n ∧ t = .int .i64 k ∧ s' = .int .i64 (maxK (riskF nd) l k) ∧ Below w.heap.size w wr) (fun _ t _ => n - (intOf t).toNat)
      case atStart => exact ⟨0, by omega, rfl, by rw [maxK_zero], (by repeat (first | exact Below.refl _ _ | refine below_step ?_ (by assumption) | refine below_step ?_ (Later.below _) | refine below_alloc ?_ _ | refine Below.drew ?_ | refine Below.setCell ?_ (by first | (simp; done) | (simp; omega)) _))⟩
      case round =>
        obtain ⟨k, hk, rfl, rfl, hb⟩ := hrel
        by_cases hlt : k < n
        · obtain ⟨⟨x0, x1, x2, x3, x4⟩, hh⟩ : ∃ h, l[k]? = some h := ⟨_, List.getElem?_eq_getElem (by rw [← Hn.out]; exact hlt)⟩
          obtain ⟨b, off, rfl, hbs, c0, c1, c2, c3, c4⟩ := (Hr.out.below hb).get5 (fun _ => rfl) hh rfl
          have HS := hide (maxK_succ (f := riskF nd) hh)
          have hbd2 := strP_bd (strsB_elem Hv.out (List.mem_of_getElem? hh))
          clear hh
          dsimp only at c0 c1 c2 c3 c4
          by_cases hE : x3 = nd
          · have HF : Hid (riskF nd (x0, x1, x2, x3, x4) = x4) := hide (by rw [riskF, if_pos hE])
            have hE' : (x3 == nd) = true := by simpa using hE
            have HE := hide hE
            clear hE
            go_wp2_with (go_at_call 46; ((with_reducible refine (l1Most_any _ _ _).mono ?_); rintro e w' ⟨rfl, rfl⟩))
            all_goals
              go_roundw
              case rel => exact ⟨k + 1, by omega, by go_num, by rw [HS.out, HF.out] <;> first | rfl | (congr 1; omega), below_alloc hb _⟩
              case measure => simp [intOf]; omega
          · have HF : Hid (riskF nd (x0, x1, x2, x3, x4) = 0) := hide (by rw [riskF, if_neg hE])
            have hE' : (x3 == nd) = false := by simpa using hE
            have HN : Hid (0 ≤ maxK (riskF nd) l k) := hide (maxK_nonneg _ _ _)
            have HE := hide hE
            clear hE
            go_wp2
            go_roundw
            case rel => exact ⟨k + 1, by omega, by go_num, by rw [HS.out, HF.out]; congr 1; have := HN.out; omega, below_alloc hb _⟩
            case measure => simp [intOf]; omega
        · go_wp2
          go_ret2
          exact ⟨ret_tup2 (by rw [riskV, Hv.out, Hq.out, maxK_all (by have := Hn.out; omega)]; rfl) rfl, hb⟩
set_option maxHeartbeats 4000000 in
theorem specHighestRisk_any (A : Option Addr) (n c : Nat) (l : List (ByteArray × Int × Int × Int × Int)) (nd : Int) (w : World) (hn : n = l.length) (hm : n ≤ 1048576) (hs : ∀ x ∈ l, x.1.size ≤ maxLen) (hr : Rd w A (l.flatMap scells)) :
    Calls Try.prog 19 #[.slice A n c, .int .i64 nd] w fun e w' => e = .returned (.tuple #[.int .i64 (riskV l nd), .bool (strsB l && inB nd 0 13)]) ∧ Below w.heap.size w w' := by
  have Hn := hide hn
  have Hr := hide hr
  have q := adGood_any A n c l w hn hm hs hr
  have q2 := fun w => l1In_any nd 0 13 w
  clear hn hr hs
  cases hv : strsB l with
  | false =>
    have Hv := hide hv
    rw [hv] at q
    clear hv
    go_enter Try.func19, Try.ntmps19
    go_wp2_with (first | (go_at_call 33; ((with_reducible refine (q).mono ?_); rintro e w1 ⟨rfl, hb1⟩); obtain ⟨hc1, hf1⟩ := bcell hb1) | (go_at_call 45; ((with_reducible refine (q2 _).mono ?_); rintro e w' ⟨rfl, rfl⟩)))
    all_goals
      go_ret2
      exact ⟨ret_tup2 (by simp [riskV, Hv.out]) rfl, (by repeat (first | exact Below.refl _ _ | refine below_step ?_ (by assumption) | refine below_step ?_ (Later.below _) | refine below_alloc ?_ _ | refine Below.drew ?_ | refine Below.setCell ?_ (by first | (simp; done) | (simp; omega)) _))⟩
  | true =>
    have Hv := hide hv
    rw [hv] at q
    have hln : n ≤ 30 := by rw [Hn.out]; exact strsB_len hv
    clear hv
    cases hq : inB nd 0 13 with
    | false =>
      have Hq := hide hq
      simp only [hq] at q2
      clear hq
      go_enter Try.func19, Try.ntmps19
      go_wp2_with (first | (go_at_call 33; ((with_reducible refine (q).mono ?_); rintro e w1 ⟨rfl, hb1⟩); obtain ⟨hc1, hf1⟩ := bcell hb1) | (go_at_call 45; ((with_reducible refine (q2 _).mono ?_); rintro e w' ⟨rfl, rfl⟩)))
      all_goals
        go_ret2
        exact ⟨ret_tup2 (by simp [riskV, Hq.out]) rfl, (by repeat (first | exact Below.refl _ _ | refine below_step ?_ (by assumption) | refine below_step ?_ (Later.below _) | refine below_alloc ?_ _ | refine Below.drew ?_ | refine Below.setCell ?_ (by first | (simp; done) | (simp; omega)) _))⟩
    | true =>
      have Hq := hide hq
      simp only [hq] at q2
      clear hq
      go_enter Try.func19, Try.ntmps19
      go_wp2_with (first | (go_at_call 33; ((with_reducible refine (q).mono ?_); rintro e w1 ⟨rfl, hb1⟩); obtain ⟨hc1, hf1⟩ := bcell hb1) | (go_at_call 45; ((with_reducible refine (q2 _).mono ?_); rintro e w' ⟨rfl, rfl⟩)))
      clear q q2
      go_loopw [6, 19] (fun s' t wr => ∃ k : Nat, k ≤ n ∧ t = .int .i64 k ∧ s' = .int .i64 (maxK (riskF nd) l k) ∧ Below w.heap.size w wr) (fun _ t _ => n - (intOf t).toNat)
      case atStart => exact ⟨0, by omega, rfl, by rw [maxK_zero], (by repeat (first | exact Below.refl _ _ | refine below_step ?_ (by assumption) | refine below_step ?_ (Later.below _) | refine below_alloc ?_ _ | refine Below.drew ?_ | refine Below.setCell ?_ (by first | (simp; done) | (simp; omega)) _))⟩
      case round =>
        obtain ⟨k, hk, rfl, rfl, hb⟩ := hrel
        by_cases hlt : k < n
        · obtain ⟨⟨x0, x1, x2, x3, x4⟩, hh⟩ : ∃ h, l[k]? = some h := ⟨_, List.getElem?_eq_getElem (by rw [← Hn.out]; exact hlt)⟩
          obtain ⟨b, off, rfl, hbs, c0, c1, c2, c3, c4⟩ := (Hr.out.below hb).get5 (fun _ => rfl) hh rfl
          have HS := hide (maxK_succ (f := riskF nd) hh)
          have hbd2 := strP_bd (strsB_elem Hv.out (List.mem_of_getElem? hh))
          clear hh
          dsimp only at c0 c1 c2 c3 c4
          by_cases hE : x3 = nd
          · have HF : Hid (riskF nd (x0, x1, x2, x3, x4) = x4) := hide (by rw [riskF, if_pos hE])
            have hE' : (x3 == nd) = true := by simpa using hE
            have HE := hide hE
            clear hE
            go_wp2_with (go_at_call 46; ((with_reducible refine (l1Most_any _ _ _).mono ?_); rintro e w' ⟨rfl, rfl⟩))
            all_goals
              go_roundw
              case rel => exact ⟨k + 1, by omega, by go_num, by rw [HS.out, HF.out] <;> first | rfl | (congr 1; omega), below_alloc hb _⟩
              case measure => simp [intOf]; omega
          · have HF : Hid (riskF nd (x0, x1, x2, x3, x4) = 0) := hide (by rw [riskF, if_neg hE])
            have hE' : (x3 == nd) = false := by simpa using hE
            have HN : Hid (0 ≤ maxK (riskF nd) l k) := hide (maxK_nonneg _ _ _)
            have HE := hide hE
            clear hE
            go_wp2
            go_roundw
            case rel => exact ⟨k + 1, by omega, by go_num, by rw [HS.out, HF.out]; congr 1; have := HN.out; omega, below_alloc hb _⟩
            case measure => simp [intOf]; omega
        · go_wp2
          go_ret2
          exact ⟨ret_tup2 (by rw [riskV, Hv.out, Hq.out, maxK_all (by have := Hn.out; omega)]; rfl) rfl, hb⟩
end Go.Proofs.Ytpkhdmhfkmajcaa

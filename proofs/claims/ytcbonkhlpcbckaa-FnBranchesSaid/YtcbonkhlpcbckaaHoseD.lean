/- The longest hose: what each call returns. -/
import Derived.Test.YtcbonkhlpcbckaaHoseC
namespace Go.Proofs.Ytcbonkhlpcbckaa
open Go.RowKit
set_option linter.unusedVariables false

def longP (kind f p : Int) : Nat → Bool := fun k => decide (lossOf kind k f ≤ p)
def longOf (kind f p : Int) : Int := (greatest (longP kind f p) 5000 : Nat)
attribute [irreducible] longOf
theorem longOf_eq {kind f p : Int} {k : Nat} (hf : 0 ≤ f) (hk : k ≤ 5000) (h0 : k = 0 ∨ lossOf kind k f ≤ p) (h1 : k = 5000 ∨ p < lossOf kind (k + 1) f) : longOf kind f p = k := by
  unfold longOf
  rw [greatest_eq (P := longP kind f p) (fun j hj => ?_) 5000 k hk (h0.imp id fun h => by simpa [longP] using h) (h1.imp id fun h => by simp [longP]; omega)]
  simp only [longP, decide_eq_true_eq] at hj ⊢
  have := lossOf_len (k := kind) (l := (j : Int)) (m := ((j + 1 : Nat) : Int)) hf (by omega)
  omega
theorem longOf_bd (kind f p : Int) : 0 ≤ longOf kind f p ∧ longOf kind f p ≤ 5000 := by
  unfold longOf
  have := greatest_le (longP kind f p) 5000
  omega

def longOk (kind f p : Int) : Bool := inB kind 0 3 && inB f 0 3000 && inB p 0 2000
def longR (kind f p : Int) : Int := if longOk kind f p then longOf kind f p else 0

theorem hoseB_mk {k l : Int} (h : inB k 0 3 = true) (h1 : 1 ≤ l) (h2 : l ≤ 5000) : hoseB k l = true := by
  rw [hoseB, h, inB_true h1 h2]; rfl

set_option maxHeartbeats 1000000 in
theorem hoLongest_any (kind f p : Int) (w : World) (hk : inB kind 0 3 = true) (hf : inB f 0 3000 = true) :
    Calls Try.prog 43 #[.int .i64 kind, .int .i64 f, .int .i64 p] w fun e w' => e = .returned (.int .i64 (longOf kind f p)) ∧ Below w.heap.size w w' := by
  have f0 := (inB_iff.1 hf).1
  have HK := hide hk
  have HF := hide hf
  clear hk hf
  go_enter Try.func43, Try.ntmps43
  go_wp2
  go_loopw [7, 8] (fun t u wr => ∃ k m : Nat, k < m ∧ m ≤ 5001 ∧ t = .int .i64 k ∧ u = .int .i64 m ∧ Hid (k = 0 ∨ lossOf kind k f ≤ p) ∧ Hid (m = 5001 ∨ p < lossOf kind m f) ∧ Below w.heap.size w wr) (fun t u _ => (intOf u - intOf t).toNat)
  case atStart => exact ⟨0, 5001, by omega, by omega, rfl, rfl, hide (.inl rfl), hide (.inl rfl), Below.refl _ _⟩
  case round =>
    obtain ⟨k, m, hkm, hm, rfl, rfl, HP, HR, hb⟩ := hrel
    have hm' : (m : Int) ≤ 5001 := by omega
    clear hm
    by_cases hlt : 1 < (m : Int) - k
    · obtain ⟨j, hj, hj1, hj2⟩ : ∃ j : Nat, ((k : Int) + m) / 2 = j ∧ k < j ∧ j < m := ⟨(k + m) / 2, by omega, by omega, by omega⟩
      have c := fun w => hoLoss_any kind (((k : Int) + m) / 2) f w (hoseB_mk HK.out (by omega) (by omega)) HF.out
      have HJ := hide hj
      clear hj
      by_cases hc : lossOf kind (((k : Int) + m) / 2) f ≤ p
      · go_wp2_with (go_at_call 50; ((with_reducible refine (c _).mono ?_); rintro e w1 ⟨rfl, hb1⟩); obtain ⟨hc1, hf1⟩ := bcell hb1)
        go_roundw
        case rel => exact ⟨j, m, by omega, by omega, by rw [HJ.out], rfl, hide (.inr (by rw [← HJ.out]; exact hc)), HR, below_step hb hb1⟩
        case measure => simp [intOf]; omega
      · go_wp2_with (go_at_call 50; ((with_reducible refine (c _).mono ?_); rintro e w1 ⟨rfl, hb1⟩); obtain ⟨hc1, hf1⟩ := bcell hb1)
        go_roundw
        case rel => exact ⟨k, j, by omega, by omega, rfl, by rw [HJ.out], HP, hide (.inr (by rw [← HJ.out]; omega)), below_step hb hb1⟩
        case measure => simp [intOf]; omega
    · go_wp2
      go_ret
      exact ⟨ret_int (by
        rw [longOf_eq (k := k) f0 (by omega) HP.out]
        rcases HR.out with h | h
        · exact .inl (by omega)
        · rw [show (m : Int) = (k : Int) + 1 by omega] at h
          exact .inr h), hb⟩

set_option maxHeartbeats 400000 in
theorem specLongestHose_any (kind f p : Int) (w : World) :
    Calls Try.prog 15 #[.int .i64 kind, .int .i64 f, .int .i64 p] w fun e w' => e = .returned (.tuple #[.int .i64 (longR kind f p), .bool (decide (0 < longR kind f p))]) ∧ Below w.heap.size w w' := by
  go_enter Try.func15, Try.ntmps15
  go_wp2_with (first | (go_at_call 42; ((with_reducible refine (l1In_any _ _ _ _).mono ?_); rintro e w' ⟨rfl, rfl⟩)) | (go_at_call 26; ((with_reducible refine (hoFlow_any _ _).mono ?_); rintro e w' ⟨rfl, rfl⟩)) | (go_at_call 30; ((with_reducible refine (hoPressure_any _ _).mono ?_); rintro e w' ⟨rfl, rfl⟩)) | (go_at_call 43; ((with_reducible refine (hoLongest_any _ _ _ _ (by first | assumption | exact bnf (by assumption) | exact bnt (by assumption)) (by first | assumption | exact bnf (by assumption) | exact bnt (by assumption))).mono ?_); rintro e w1 ⟨rfl, hb1⟩); obtain ⟨hc1, hf1⟩ := bcell hb1))
  all_goals
    ((try simp only [Bool.not_eq_true'] at *); (try simp only [Bool.not_eq_false'] at *))
    go_ret2
    exact ⟨ret_tup2 (by simp [longR, longOk, *]) (by simp [longR, longOk, *]), (by repeat (first | exact Below.refl _ _ | refine below_step ?_ (by assumption) | refine below_step ?_ (Later.below _) | refine below_alloc ?_ _ | refine Below.drew ?_ | refine Below.setCell ?_ (by first | (simp; done) | (simp; omega)) _))⟩

set_option maxRecDepth 100000 in
set_option maxHeartbeats 1000000 in
theorem implLongestHose_any (kind f p : Int) (w : World) :
    Calls Try.prog 14 #[.int .i64 kind, .int .i64 f, .int .i64 p] w fun e w' => e = .returned (.tuple #[.int .i64 (longR kind f p), .bool (decide (0 < longR kind f p))]) ∧ Below w.heap.size w w' := by
  cases hv : longOk kind f p with
  | false =>
    have e1 : longR kind f p = 0 := by simp [longR, hv]
    rw [e1]
    go_enter Try.func14, Try.ntmps14
    go_wp2_with (go_at_call 23; ((with_reducible refine (inside_any _ _ _ _).mono ?_); rintro e w' ⟨rfl, rfl⟩))
    all_goals first
      | (go_ret2; exact ⟨rfl, Below.refl _ _⟩)
      | (exfalso; ((try simp only [Bool.not_eq_true'] at *); (try simp only [Bool.not_eq_false'] at *)); simp [longOk, *] at hv)
  | true =>
    simp only [longOk, Bool.and_eq_true] at hv
    obtain ⟨⟨hk, hf⟩, hp⟩ := hv
    have f0 := (inB_iff.1 hf).1
    have c1 := fun w => inside_any kind 0 3 w
    have c2 := fun w => inside_any f 0 3000 w
    have c3 := fun w => inside_any p 0 2000 w
    rw [hk] at c1
    rw [hf] at c2
    rw [hp] at c3
    have HK := hide hk
    have HF := hide hf
    have Hp := hide hp
    clear hk hf hp
    go_enter Try.func14, Try.ntmps14
    go_wp2_with (first | (go_at_call 23; ((with_reducible refine (c1 _).mono ?_); rintro e w' ⟨rfl, rfl⟩)) | (go_at_call 23; ((with_reducible refine (c2 _).mono ?_); rintro e w' ⟨rfl, rfl⟩)) | (go_at_call 23; ((with_reducible refine (c3 _).mono ?_); rintro e w' ⟨rfl, rfl⟩)))
    go_loopw [8] (fun t wr => ∃ k : Nat, k ≤ 5000 ∧ t = .int .i64 k ∧ Hid (k = 0 ∨ lossOf kind k f ≤ p) ∧ Below w.heap.size w wr) (fun t _ => (5000 - intOf t).toNat)
    case atStart => exact ⟨0, by omega, rfl, hide (.inl rfl), Below.refl _ _⟩
    case round =>
      obtain ⟨k, hk, rfl, HP, hb⟩ := hrel
      have hk' : (k : Int) ≤ 5000 := by omega
      clear hk
      have hfin : lossOf kind (k + 1) f > p ∨ k = 5000 → longR kind f p = k := fun h => by
        rw [longR, longOk, HK.out, HF.out, Hp.out]
        exact longOf_eq f0 (by omega) HP.out (h.symm.imp id id)
      have HX := hide hfin
      clear hfin
      by_cases hlt : (k : Int) < 5000
      · have c := fun w => hoseLoss_any kind ((k : Int) + 1) f w (hoseB_mk HK.out (by omega) (by omega)) HF.out
        by_cases hc : lossOf kind ((k : Int) + 1) f ≤ p
        · go_wp2_with (go_at_call 41; ((with_reducible refine (c _).mono ?_); rintro e w1 ⟨rfl, hb1⟩); obtain ⟨hc1, hf1⟩ := bcell hb1)
          go_roundw
          case rel => exact ⟨k + 1, by omega, by go_num, hide (.inr (by simpa using hc)), below_step hb hb1⟩
          case measure => simp [intOf]; omega
        · go_wp2_with (go_at_call 41; ((with_reducible refine (c _).mono ?_); rintro e w1 ⟨rfl, hb1⟩); obtain ⟨hc1, hf1⟩ := bcell hb1)
          go_ret2
          have e1 := HX.out (.inl (by omega))
          exact ⟨ret_tup2 e1.symm (by rw [e1, decide_eq_decide]; omega), below_step hb hb1⟩
      · go_wp2
        go_ret2
        have e1 := HX.out (.inr (by omega))
        exact ⟨ret_tup2 e1.symm (by rw [e1, decide_eq_decide]; omega), hb⟩
end Go.Proofs.Ytcbonkhlpcbckaa

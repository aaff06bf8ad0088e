/- Open hydrants: strictly increasing indices. -/
import Derived.Test.YtfcpgpmhjadanaaGreatDoorNetE
namespace Go.Proofs.YtfcpgpmhjadanaaGreatDoor
open Go.RowKit
set_option linter.unusedVariables false

def upB (a b : Int) : Bool := decide (a < b)
def risB (lo hi : Int) (F : List Int) : Bool := chainB (fun x => inB x lo hi) upB F

set_option maxRecDepth 100000 in
set_option maxHeartbeats 4000000 in
theorem l1Rising_any (C : Option Addr) (k ecap : Nat) (F : List Int) (lo hi : Int) (w : World) (hk : k = F.length) (hkm : k ≤ maxLen) (hf : Rd w C (F.map (Value.int .i64))) :
    Calls Tryz.prog 75 #[.slice C k ecap, .int .i64 lo, .int .i64 hi] w fun e w' => e = .returned (.bool (risB lo hi F)) ∧ w = w' := by
  unfold maxLen at hkm
  have Hk := hide hk
  have Hf := hide hf
  clear hk hf
  go_enter Tryz.func75, Tryz.ntmps75
  go_wp2_with fail
  go_loopw [11] (fun t wr => ∃ j : Nat, j ≤ k ∧ t = .int .i64 j ∧ Hid (∀ i, i < j → stepB (fun x => inB x lo hi) upB F i = true) ∧ wr = w) (fun t _ => k - (intOf t).toNat)
  case atStart => exact ⟨0, by omega, rfl, hide (fun i hi => absurd hi (by omega)), rfl⟩
  case round =>
    obtain ⟨j, hj, rfl, HA, rfl⟩ := hrel
    by_cases hlt : j < k
    · obtain ⟨x, hh⟩ : ∃ f, F[j]? = some f := ⟨_, List.getElem?_eq_getElem (by rw [← Hk.out]; exact hlt)⟩
      obtain ⟨b, off, rfl, hbs, c0⟩ := Hf.out.get1 (u := .int .i64 x) (by rw [List.getElem?_map, hh]; rfl)
      have Hh := hide hh
      clear hh
      have q := fun W => l1In_any x lo hi W
      cases hx : inB x lo hi with
      | false =>
        simp only [hx] at q
        have HS := hide (stepB_bad (p := fun x => inB x lo hi) (r := upB) Hh.out hx)
        clear hx
        go_wp2_with (go_at_call 53; ((with_reducible refine (q _).mono ?_); rintro e w' ⟨rfl, rfl⟩))
        go_ret
        exact ⟨ret_bool (by rw [risB, chainB_false HS.out]), rfl⟩
      | true =>
        simp only [hx] at q
        have Hx := hide hx
        clear hx
        by_cases h0 : j = 0
        · have HS := hide (show stepB (fun x => inB x lo hi) upB F j = true by subst h0; rw [stepB_zero Hh.out]; exact Hx.out)
          have h1 : j < 1 := by omega
          have e3 : decide ((0 : Int) < (j : Int)) = false := by simp; omega
          have e3' : decide (0 < j) = false := by simp; omega
          clear h0
          go_wp2_with (go_at_call 53; ((with_reducible refine (q _).mono ?_); rintro e w' ⟨rfl, rfl⟩))
          go_roundw
          case rel => exact ⟨j + 1, by omega, by go_num, hide (fun i hi => by rw [show i = j by omega]; exact HS.out), trivial⟩
          case measure => simp [intOf]; omega
        · obtain ⟨i, hji⟩ : ∃ i, j = i + 1 := ⟨j - 1, by omega⟩
          obtain ⟨y, hy⟩ : ∃ h, F[i]? = some h := ⟨_, List.getElem?_eq_getElem (by rw [← Hk.out]; omega)⟩
          obtain ⟨b', off', hA', hbs', d0⟩ := Hf.out.get1 (u := .int .i64 y) (by rw [List.getElem?_map, hy]; rfl)
          injection hA' with hA'
          injection hA' with hA1 hA2
          subst hA1
          subst hA2
          have HS := hide (show stepB (fun x => inB x lo hi) upB F j = upB y x by subst hji; rw [stepB_succ Hh.out hy, Hx.out, Bool.true_and])
          have e1 : IntKind.i64.wrap ((j : Int) - 1) = (j : Int) - 1 := IntWalk.i64_in _ (by omega)
          have e2 : ((j : Int) - 1).toNat = i := by omega
          have e3 : (0 : Int) < (j : Int) := by omega
          have e3' : 0 < j := by omega
          have e4 : (j : Int) - 1 < (k : Int) := by omega
          have e5 : (0 : Int) ≤ (j : Int) - 1 := by omega
          clear hji h0 hy
          by_cases hc : y < x
          · have HC := hide (show upB y x = true by simpa [upB] using hc)
            go_wp2_with (go_at_call 53; ((with_reducible refine (q _).mono ?_); rintro e w' ⟨rfl, rfl⟩))
            clear e1 e2 e4 e5
            go_roundw
            case rel =>
              refine ⟨j + 1, by omega, by go_num, hide (fun i hi => ?_), trivial⟩
              by_cases hi2 : i < j
              · exact HA.out i hi2
              · rw [show i = j by omega, HS.out, HC.out]
            case measure => simp [intOf]; omega
          · have HC := hide (show upB y x = false by simpa [upB] using hc)
            go_wp2_with (go_at_call 53; ((with_reducible refine (q _).mono ?_); rintro e w' ⟨rfl, rfl⟩))
            go_ret
            exact ⟨ret_bool (by rw [risB, chainB_false (by rw [HS.out, HC.out])]), rfl⟩
    · go_wp2
      go_ret
      exact ⟨ret_bool (by rw [risB, chainB_of (fun i hi => HA.out i (by have := Hk.out; omega))]), rfl⟩

end Go.Proofs.YtfcpgpmhjadanaaGreatDoor

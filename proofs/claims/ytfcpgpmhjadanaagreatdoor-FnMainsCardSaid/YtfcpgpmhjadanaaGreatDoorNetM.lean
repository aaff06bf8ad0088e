/- Nets: plain words. -/
import Derived.Test.YtfcpgpmhjadanaaGreatDoorSmall
namespace Go.Proofs.YtfcpgpmhjadanaaGreatDoor
open Go.RowKit
set_option linter.unusedVariables false
def mcells (c : Int × Int) : List Value := [.int .i64 c.1, .int .i64 c.2]
/-- Whether main i of the list is valid. -/
def mnB (i : Nat) (m : Int × Int) : Bool := (if i = 0 then decide (m.1 = -1) else inB m.1 0 ((i : Int) - 1)) && inB m.2 0 5000
def mstepB (M : List (Int × Int)) (i : Nat) : Bool := match M[i]? with
  | none => true
  | some m => mnB i m
def mainsB (M : List (Int × Int)) : Bool := (List.range M.length).all (mstepB M)
def hydB (k : Nat) (h : Int × Int) : Bool := inB h.1 0 ((k : Int) - 1) && inB h.2 1 5000
def netB (M H : List (Int × Int)) : Bool := inB (M.length : Int) 1 10 && decide (H.length ≤ 10) && mainsB M && H.all (hydB M.length)
theorem mstepB_some {M : List (Int × Int)} {i : Nat} {m : Int × Int} (h : M[i]? = some m) : mstepB M i = mnB i m := by simp [mstepB, h]
theorem mainsB_of {M : List (Int × Int)} (h : ∀ i, i < M.length → mstepB M i = true) : mainsB M = true := by
  rw [mainsB, List.all_eq_true]
  exact fun i hi => h i (List.mem_range.1 hi)
theorem mainsB_step {M : List (Int × Int)} (h : mainsB M = true) (i : Nat) : mstepB M i = true := by
  rw [mainsB, List.all_eq_true] at h
  by_cases hi : i < M.length
  · exact h i (List.mem_range.2 hi)
  · rw [mstepB, List.getElem?_eq_none (by omega)]
theorem mainsB_false {M : List (Int × Int)} {i : Nat} (h : mstepB M i = false) : mainsB M = false := by
  cases hc : mainsB M with
  | false => rfl
  | true => rw [mainsB_step hc i] at h; cases h
structure NetOk (M H : List (Int × Int)) : Prop where
  m1 : 1 ≤ M.length
  m10 : M.length ≤ 10
  h10 : H.length ≤ 10
  main : ∀ (i : Nat) (m : Int × Int), M[i]? = some m → (i = 0 → m.1 = -1) ∧ (0 < i → 0 ≤ m.1 ∧ m.1 ≤ (i : Int) - 1) ∧ 0 ≤ m.2 ∧ m.2 ≤ 5000
  hyd : ∀ (i : Nat) (h : Int × Int), H[i]? = some h → 0 ≤ h.1 ∧ h.1 ≤ (M.length : Int) - 1 ∧ 1 ≤ h.2 ∧ h.2 ≤ 5000
theorem netB_ok {M H : List (Int × Int)} (h : netB M H = true) : NetOk M H := by
  simp only [netB, Bool.and_eq_true, inB_iff, decide_eq_true_eq] at h
  obtain ⟨⟨⟨h1, h2⟩, h3⟩, h4⟩ := h
  refine ⟨by omega, by omega, h2, fun i m hm => ?_, fun i x hx => ?_⟩
  · have := mainsB_step h3 i
    rw [mstepB_some hm, mnB, Bool.and_eq_true, inB_iff] at this
    obtain ⟨a, b⟩ := this
    by_cases h0 : i = 0
    · rw [if_pos h0] at a
      exact ⟨fun _ => by simpa using a, fun _ => by omega, b⟩
    · rw [if_neg h0, inB_iff] at a
      exact ⟨fun _ => by omega, fun _ => a, b⟩
  · have := List.all_eq_true.1 h4 x (List.mem_of_getElem? hx)
    rw [hydB, Bool.and_eq_true, inB_iff, inB_iff] at this
    exact ⟨this.1.1, this.1.2, this.2.1, this.2.2⟩
/-- A net's two slices read. -/
def NetRd (w : World) (A B : Option Addr) (M H : List (Int × Int)) : Prop := Rd w A (M.flatMap mcells) ∧ Rd w B (H.flatMap mcells)
theorem NetRd.below {w w' : World} {A B : Option Addr} {M H : List (Int × Int)} (h : NetRd w A B M H) (hb : Below w.heap.size w w') : NetRd w' A B M H := ⟨h.1.below hb, h.2.below hb⟩
theorem NetRd.alloc {w : World} {A B : Option Addr} {M H : List (Int × Int)} (h : NetRd w A B M H) (o : Obj) : NetRd (w.alloc o) A B M H := ⟨h.1.alloc o, h.2.alloc o⟩
theorem NetRd.drew {w : World} {A B : Option Addr} {M H : List (Int × Int)} (h : NetRd w A B M H) : NetRd w.drew A B M H := h
/-- A net's two rows of its own. -/
def NetRow (w : World) (a b : Nat) (M H : List (Int × Int)) : Prop := Row w a (M.flatMap mcells) ∧ Row w b (H.flatMap mcells)
theorem NetRow.below {w w' : World} {a b : Nat} {M H : List (Int × Int)} (h : NetRow w a b M H) (hb : Below w.heap.size w w') : NetRow w' a b M H := ⟨h.1.below hb, h.2.below hb⟩
theorem NetRow.alloc {w : World} {a b : Nat} {M H : List (Int × Int)} (h : NetRow w a b M H) (o : Obj) : NetRow (w.alloc o) a b M H := h.below ((Below.refl _ _).alloc (Nat.le_refl _) o)
theorem NetRow.rd {w : World} {a b : Nat} {M H : List (Int × Int)} (h : NetRow w a b M H) : NetRd w (some ⟨a, 0, none⟩) (some ⟨b, 0, none⟩) M H := ⟨h.1.rd, h.2.rd⟩
end Go.Proofs.YtfcpgpmhjadanaaGreatDoor

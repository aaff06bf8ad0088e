/- Small functions that many others call: what each returns. -/
import Derived.Test.YtmmeoabmjbclcaaProg
import Derived.Test.YtmmeoabmjbclcaaRegions
import Derived.Test.YtmmeoabmjbclcaaRow
import Derived.WalkKit
import Derived.WalkSpells
import Derived.WalkLawsBesides
import Derived.KernelRfl
namespace Go.Proofs.Ytmmeoabmjbclcaa
open Go.RowKit
set_option linter.unusedVariables false

theorem ret_int {k : IntKind} {a b : Int} (h : a = b) : Ending.returned (.int k a) = .returned (.int k b) := by rw [h]
theorem ret_bool {a b : Bool} (h : a = b) : Ending.returned (.bool a) = .returned (.bool b) := by rw [h]
theorem ret_tup2 {a b : Int} {c d : Bool} (h : a = b) (k : c = d) : Ending.returned (.tuple #[.int .i64 a, .bool c]) = .returned (.tuple #[.int .i64 b, .bool d]) := by rw [h, k]
theorem ret_tupb {a b : Bool} {c d : Bool} (h : a = b) (k : c = d) : Ending.returned (.tuple #[.bool a, .bool c]) = .returned (.tuple #[.bool b, .bool d]) := by rw [h, k]
theorem ret_tup3 {a b a' b' : Int} {c d : Bool} (h : a = b) (h' : a' = b') (k : c = d) : Ending.returned (.tuple #[.int .i64 a, .int .i64 a', .bool c]) = .returned (.tuple #[.int .i64 b, .int .i64 b', .bool d]) := by rw [h, h', k]

theorem mul_bd {a b A B : Int} (h0 : 0 ≤ a) (h1 : a ≤ A) (h2 : 0 ≤ b) (h3 : b ≤ B) : 0 ≤ a * b ∧ a * b ≤ A * B :=
  ⟨Int.mul_nonneg h0 h2, Int.mul_le_mul h1 h3 h2 (by omega)⟩

/-- What stands behind a region is asked of every later world. -/
theorem later_intro {w0 : World} {Q : World → Prop} (h : ∀ w1, Below w0.heap.size w0 w1 → Q w1) : ∀ w', (∃ n : Later w0, w' = n.w) → Q w' := fun _ ⟨n, hn⟩ => h _ (by rw [hn]; exact n.below)

theorem later_of {w w1 : World} (h : Below w.heap.size w w1) : ∃ n : Later w, w1 = n.w := ⟨⟨w1, h⟩, rfl⟩
theorem later_up {w w1 : World} (n : Later w) (h : Below n.w.heap.size n.w w1) : ∃ m : Later w, w1 = m.w := ⟨⟨w1, n.below.trans (h.mono n.below.size)⟩, rfl⟩
theorem Later.lt {w : World} (n : Later w) (b : Nat) (h : b < w.heap.size) : b < n.w.heap.size := Nat.lt_of_lt_of_le h n.below.size
theorem lt2 (n : Nat) : n < n + 1 + 1 := by omega
theorem lt3 (n : Nat) : n < n + 1 + 1 + 1 := by omega
theorem lt4 (n : Nat) : n < n + 1 + 1 + 1 + 1 := by omega
theorem lt5 (n : Nat) : n < n + 1 + 1 + 1 + 1 + 1 := by omega
theorem lt_more (b n : Nat) (h : b < n) : b < n + 1 := by omega
attribute [go_sem] Later.lt lt2 lt3 lt4 lt5 lt_more

def inB (n lo hi : Int) : Bool := decide (lo ≤ n) && decide (n ≤ hi)
theorem inB_true {n lo hi : Int} (h1 : lo ≤ n) (h2 : n ≤ hi) : inB n lo hi = true := by simp [inB, h1, h2]
theorem inB_iff {n lo hi : Int} : inB n lo hi = true ↔ lo ≤ n ∧ n ≤ hi := by simp [inB]

set_option maxHeartbeats 400000 in
theorem inside_any (n lo hi : Int) (w : World) :
    Calls Try.prog 25 #[.int .i64 n, .int .i64 lo, .int .i64 hi] w fun e w' => e = .returned (.bool (inB n lo hi)) ∧ w = w' := by
  go_enter Try.func25, Try.ntmps25
  go_wp2
  all_goals
    go_ret
    exact ⟨by simp [inB, *] <;> omega, rfl⟩
set_option maxHeartbeats 400000 in
theorem l1In_any (n lo hi : Int) (w : World) :
    Calls Try.prog 31 #[.int .i64 n, .int .i64 lo, .int .i64 hi] w fun e w' => e = .returned (.bool (inB n lo hi)) ∧ w = w' := by
  go_enter Try.func31, Try.ntmps31
  go_wp2
  all_goals
    go_ret
    exact ⟨by simp [inB, *] <;> omega, rfl⟩


/-- Of every element p, and of every two neighbours r. -/
def stepB {α : Type} (p : α → Bool) (r : α → α → Bool) (l : List α) (i : Nat) : Bool :=
  match l[i]? with
  | none => true
  | some a => p a && (match i with
    | 0 => true
    | j + 1 => match l[j]? with
      | none => true
      | some b => r b a)
def chainB {α : Type} (p : α → Bool) (r : α → α → Bool) (l : List α) : Bool := (List.range l.length).all (stepB p r l)
section
variable {α : Type} {p : α → Bool} {r : α → α → Bool} {l : List α}
theorem chainB_of (h : ∀ i, i < l.length → stepB p r l i = true) : chainB p r l = true := by
  rw [chainB, List.all_eq_true]
  exact fun i hi => h i (List.mem_range.1 hi)
theorem chainB_step (h : chainB p r l = true) (i : Nat) : stepB p r l i = true := by
  rw [chainB, List.all_eq_true] at h
  by_cases hi : i < l.length
  · exact h i (List.mem_range.2 hi)
  · rw [stepB, List.getElem?_eq_none (by omega)]
theorem chainB_false {i : Nat} (h : stepB p r l i = false) : chainB p r l = false := by
  cases hc : chainB p r l with
  | false => rfl
  | true => rw [chainB_step hc i] at h; cases h
theorem stepB_zero {a : α} (h : l[0]? = some a) : stepB p r l 0 = p a := by simp [stepB, h]
theorem stepB_succ {j : Nat} {a b : α} (h : l[j + 1]? = some a) (h' : l[j]? = some b) : stepB p r l (j + 1) = (p a && r b a) := by simp [stepB, h, h']
theorem stepB_bad {i : Nat} {a : α} (h : l[i]? = some a) (hp : p a = false) : stepB p r l i = false := by simp [stepB, h, hp]
theorem chainB_elem (h : chainB p r l = true) {i : Nat} {a : α} (ha : l[i]? = some a) : p a = true := by
  have := chainB_step h i
  simp only [stepB, ha, Bool.and_eq_true] at this
  exact this.1
theorem chainB_mem (h : chainB p r l = true) {a : α} (ha : a ∈ l) : p a = true := by
  obtain ⟨i, hi⟩ := List.mem_iff_getElem?.1 ha
  exact chainB_elem h hi
theorem chainB_next (h : chainB p r l = true) {i : Nat} {a b : α} (ha : l[i + 1]? = some a) (hb : l[i]? = some b) : r b a = true := by
  have := chainB_step h (i + 1)
  rw [stepB_succ ha hb, Bool.and_eq_true] at this
  exact this.2
end
end Go.Proofs.Ytmmeoabmjbclcaa

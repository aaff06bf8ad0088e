/- Several texts in one. Sums, greatest values and first places along a list. Whether a number is in a list. -/
import Derived.Test.YtfcpgpmhjadanaaMem
import Derived.Test.YtfcpgpmhjadanaaSmall
namespace Go.Proofs.Ytfcpgpmhjadanaa
set_option linter.unusedVariables false

section
variable {α : Type}
def sumK (f : α → Int) (l : List α) (k : Nat) : Int := ((l.take k).map f).foldl (· + ·) 0
theorem sumK_zero (f : α → Int) (l : List α) : sumK f l 0 = 0 := by simp [sumK]
theorem sumK_succ {f : α → Int} {l : List α} {k : Nat} {a : α} (h : l[k]? = some a) : sumK f l (k + 1) = sumK f l k + f a := by
  simp [sumK, List.take_add_one, h]
theorem sumK_all {f : α → Int} {l : List α} {k : Nat} (h : l.length ≤ k) : sumK f l k = sumK f l l.length := by
  simp [sumK, List.take_of_length_le h]
theorem sumK_bd {f : α → Int} {l : List α} (B : Nat) (h : ∀ x ∈ l, 0 ≤ f x ∧ f x ≤ B) : ∀ k : Nat, 0 ≤ sumK f l k ∧ sumK f l k ≤ k * B
  | 0 => by simp [sumK]
  | k + 1 => by
    have ih := sumK_bd B h k
    cases hk : l[k]? with
    | none =>
      have : sumK f l (k + 1) = sumK f l k := by simp [sumK, List.take_add_one, hk]
      rw [this]
      have : ((k + 1 : Nat) : Int) * B = k * B + B := by rw [show ((k + 1 : Nat) : Int) = (k : Int) + 1 by omega, Int.add_mul, Int.one_mul]
      omega
    | some a =>
      rw [sumK_succ hk]
      have h1 := h a (List.mem_of_getElem? hk)
      have : ((k + 1 : Nat) : Int) * B = k * B + B := by rw [show ((k + 1 : Nat) : Int) = (k : Int) + 1 by omega, Int.add_mul, Int.one_mul]
      omega
def maxK (f : α → Int) (l : List α) (k : Nat) : Int := ((l.take k).map f).foldl max 0
theorem maxK_zero (f : α → Int) (l : List α) : maxK f l 0 = 0 := by simp [maxK]
theorem maxK_succ {f : α → Int} {l : List α} {k : Nat} {a : α} (h : l[k]? = some a) : maxK f l (k + 1) = max (maxK f l k) (f a) := by
  simp [maxK, List.take_add_one, h]
theorem maxK_all {f : α → Int} {l : List α} {k : Nat} (h : l.length ≤ k) : maxK f l k = maxK f l l.length := by
  simp [maxK, List.take_of_length_le h]
theorem maxK_nonneg (f : α → Int) (l : List α) : ∀ k : Nat, 0 ≤ maxK f l k
  | 0 => by simp [maxK]
  | k + 1 => by
    have ih := maxK_nonneg f l k
    cases hk : l[k]? with
    | none =>
      have : maxK f l (k + 1) = maxK f l k := by simp [maxK, List.take_add_one, hk]
      rw [this]
      exact ih
    | some a =>
      rw [maxK_succ hk]
      omega

/-- The place of the first element of which p holds; -1 where there is none. -/
def findI (p : α → Bool) (l : List α) : Int := match l.findIdx? p with | some i => (i : Int) | none => -1
theorem findI_none {p : α → Bool} {l : List α} (h : ∀ (i : Nat) (a : α), l[i]? = some a → p a = false) : findI p l = -1 := by
  have : l.findIdx? p = none := by
    rw [List.findIdx?_eq_none_iff]
    intro x hx
    obtain ⟨i, hi⟩ := List.mem_iff_getElem?.1 hx
    exact h i x hi
  rw [findI, this]
theorem findI_at {p : α → Bool} {l : List α} {k : Nat} {a : α} (ha : l[k]? = some a) (hp : p a = true) (h : ∀ (i : Nat) (b : α), i < k → l[i]? = some b → p b = false) : findI p l = k := by
  have : l.findIdx? p = some k := by
    rw [List.findIdx?_eq_some_iff_getElem]
    obtain ⟨hk, rfl⟩ := List.getElem?_eq_some_iff.1 ha
    refine ⟨hk, hp, fun j hj => ?_⟩
    simp [h j _ hj (List.getElem?_eq_getElem (by omega))]
  rw [findI, this]
theorem findI_cases (p : α → Bool) (l : List α) : findI p l = -1 ∨ ∃ k a, findI p l = (k : Nat) ∧ l[k]? = some a ∧ p a = true := by
  unfold findI
  cases h : l.findIdx? p with
  | none => exact .inl rfl
  | some k =>
    rw [List.findIdx?_eq_some_iff_getElem] at h
    obtain ⟨hk, hp, _⟩ := h
    exact .inr ⟨k, l[k], rfl, List.getElem?_eq_getElem hk, hp⟩
end
end Go.Proofs.Ytfcpgpmhjadanaa
namespace Go.Proofs.Ytfcpgpmhjadanaa
open Go.RowKit
set_option linter.unusedVariables false

def hasB (L : List Int) (x : Int) : Bool := L.any fun y => decide (y = x)
theorem hasB_find {L : List Int} {x : Int} : decide (0 ≤ findI (fun y => decide (y = x)) L) = hasB L x := by
  rcases findI_cases (fun y => decide (y = x)) L with h | ⟨k, a, h, hk, hp⟩
  · rw [h]
    unfold findI at h
    cases hf : L.findIdx? (fun y => decide (y = x)) with
    | some q => rw [hf] at h; simp at h
    | none =>
      rw [List.findIdx?_eq_none_iff] at hf
      have : hasB L x = false := by
        rw [hasB, List.any_eq_false]
        intro y hy
        simpa using hf y hy
      rw [this]; rfl
  · rw [h]
    have : hasB L x = true := by rw [hasB, List.any_eq_true]; exact ⟨a, List.mem_of_getElem? hk, hp⟩
    rw [this]; simp
theorem hasB_at {L : List Int} {x : Int} {k : Nat} {y : Int} (h : L[k]? = some y) (e : y = x) : hasB L x = true := by
  rw [hasB, List.any_eq_true]
  exact ⟨y, List.mem_of_getElem? h, by simpa using e⟩
theorem hasB_none {L : List Int} {x : Int} (h : ∀ (i : Nat) (y : Int), L[i]? = some y → ¬ y = x) : hasB L x = false := by
  rw [hasB, List.any_eq_false]
  intro y hy
  obtain ⟨i, hi⟩ := List.mem_iff_getElem?.1 hy
  simpa using h i y hi

set_option maxHeartbeats 1000000 in
theorem l1Has_any (A : Option Addr) (n c : Nat) (L : List Int) (x : Int) (w : World) (hn : n = L.length) (hm : n ≤ 1048576) (hr : Rd w A (L.map (Value.int .i64))) :
    Calls Try.prog 49 #[.slice A n c, .int .i64 x] w fun e w' => e = .returned (.bool (hasB L x)) ∧ w = w' := by
  have Hn := hide hn
  have Hr := hide hr
  clear hn hr
  go_enter Try.func49, Try.ntmps49
  go_wp2_with fail
  go_loop [9] (fun t => ∃ k : Nat, k ≤ n ∧ t = .int .i64 k ∧ Hid (∀ (i : Nat) (y : Int), i < k → L[i]? = some y → ¬ y = x)) (fun t => n - (intOf t).toNat)
  case atStart => exact ⟨0, by omega, rfl, hide (fun i y hi => absurd hi (by omega))⟩
  case round =>
    obtain ⟨k, hk, rfl, HA⟩ := hrel
    by_cases hlt : k < n
    · obtain ⟨y, hy⟩ : ∃ y, L[k]? = some y := ⟨_, List.getElem?_eq_getElem (by rw [← Hn.out]; exact hlt)⟩
      obtain ⟨b', off, rfl, hbs, c0⟩ := Hr.out.get1 (k := k) (u := .int .i64 y) (by simp [hy])
      have Hy := hide hy
      clear hy
      by_cases hxy : y = x
      · have g : (y == x) = true := by simpa using hxy
        have HF : Hid (hasB L x = true) := hide (hasB_at Hy.out hxy)
        clear hxy
        go_wp2
        go_ret
        exact ⟨ret_bool HF.out.symm, rfl⟩
      · have g : (y == x) = false := by simpa using hxy
        have HN : Hid (∀ (i : Nat) (z : Int), i < k + 1 → L[i]? = some z → ¬ z = x) := hide (fun i z hi hz => by
          by_cases hi2 : i < k
          · exact HA.out i z hi2 hz
          · have hik : i = k := by omega
            rw [hik, Hy.out] at hz
            cases hz
            exact hxy)
        clear hxy
        go_wp2
        go_round
        case rel => exact ⟨k + 1, by omega, by go_num, HN⟩
        case measure => simp [intOf]; omega
    · go_wp2
      go_ret
      exact ⟨ret_bool (hasB_none (fun i y hy => HA.out i y (by have := (List.getElem?_eq_some_iff.1 hy).1; have := Hn.out; omega) hy)).symm, rfl⟩

set_option maxHeartbeats 1000000 in
theorem idxInt_any (A : Option Addr) (n c : Nat) (L : List Int) (x : Int) (w : World) (hn : n = L.length) (hm : n ≤ 1048576) (hr : Rd w A (L.map (Value.int .i64))) :
    Calls Try.prog 65 #[.slice A n c, .int .i64 x] w fun e w' => e = .returned (.int .i64 (findI (fun y => decide (y = x)) L)) ∧ w = w' := by
  have Hn := hide hn
  have Hr := hide hr
  clear hn hr
  go_enter Try.func65, Try.ntmps65
  go_wp2_with fail
  go_loop [8] (fun t => ∃ k : Nat, k ≤ n ∧ t = .int .i64 k ∧ Hid (∀ (i : Nat) (y : Int), i < k → L[i]? = some y → decide (y = x) = false)) (fun t => n - (intOf t).toNat)
  case atStart => exact ⟨0, by omega, rfl, hide (fun i y hi => absurd hi (by omega))⟩
  case round =>
    obtain ⟨k, hk, rfl, HA⟩ := hrel
    by_cases hlt : k < n
    · obtain ⟨y, hy⟩ : ∃ y, L[k]? = some y := ⟨_, List.getElem?_eq_getElem (by rw [← Hn.out]; exact hlt)⟩
      obtain ⟨b', off, rfl, hbs, c0⟩ := Hr.out.get1 (k := k) (u := .int .i64 y) (by simp [hy])
      have Hy := hide hy
      clear hy
      by_cases hxy : y = x
      · have g : (x == y) = true := by simpa using hxy.symm
        have HF : Hid (findI (fun y => decide (y = x)) L = (k : Nat)) := hide (findI_at Hy.out (by simpa using hxy) (fun i b hi hb => HA.out i b hi hb))
        clear hxy
        go_wp2
        go_ret
        exact ⟨ret_int HF.out.symm, rfl⟩
      · have g : (x == y) = false := by simpa using fun e => hxy e.symm
        have HN : Hid (∀ (i : Nat) (z : Int), i < k + 1 → L[i]? = some z → decide (z = x) = false) := hide (fun i z hi hz => by
          by_cases hi2 : i < k
          · exact HA.out i z hi2 hz
          · have hik : i = k := by omega
            rw [hik, Hy.out] at hz
            cases hz
            simpa using hxy)
        clear hxy
        go_wp2
        go_round
        case rel => exact ⟨k + 1, by omega, by go_num, HN⟩
        case measure => simp [intOf]; omega
    · go_wp2
      go_ret
      exact ⟨ret_int (findI_none (fun i y hy => HA.out i y (by have := (List.getElem?_eq_some_iff.1 hy).1; have := Hn.out; omega) hy)).symm, rfl⟩

set_option maxHeartbeats 1000000 in
theorem hasInt_any (A : Option Addr) (n c : Nat) (L : List Int) (x : Int) (w : World) (hn : n = L.length) (hm : n ≤ 1048576) (hr : Rd w A (L.map (Value.int .i64))) :
    Calls Try.prog 57 #[.slice A n c, .int .i64 x] w fun e w' => e = .returned (.bool (hasB L x)) ∧ w = w' := by
  have Q := hide (idxInt_any A n c L x w hn hm hr)
  have HE := hide (hasB_find (L := L) (x := x))
  clear hn hr
  go_enter Try.func57, Try.ntmps57
  go_wp2_with (go_at_call 65; ((with_reducible refine (Q.out).mono ?_); rintro e w' ⟨rfl, rfl⟩))
  go_ret
  exact ⟨ret_bool HE.out, rfl⟩
end Go.Proofs.Ytfcpgpmhjadanaa

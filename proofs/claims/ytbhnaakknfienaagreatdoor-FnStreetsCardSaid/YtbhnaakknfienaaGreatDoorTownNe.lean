/- NearestOf. -/
import Derived.Test.YtbhnaakknfienaaGreatDoorTownMi
namespace Go.Proofs.YtbhnaakknfienaaGreatDoor
open Go.RowKit
set_option linter.unusedVariables false

def nearS (D : Nat → Int) (st : Option Int) (n : Int) : Option Int := match st with
  | none => if 0 ≤ D n.toNat then some n else none
  | some b => if 0 ≤ D n.toNat ∧ D n.toNat < D b.toNat then some n else some b
def nearK (D : Nat → Int) (N : List Int) (m : Nat) : Option Int := (N.take m).foldl (nearS D) none
theorem nearK_succ {D : Nat → Int} {N : List Int} {m : Nat} {x : Int} (h : N[m]? = some x) : nearK D N (m + 1) = nearS D (nearK D N m) x := by
  simp [nearK, List.take_add_one, h]
theorem nearK_inv (D : Nat → Int) (N : List Int) : ∀ m b, nearK D N m = some b → b ∈ N ∧ 0 ≤ D b.toNat
  | 0, b, h => by simp [nearK] at h
  | m + 1, b, h => by
    cases hx : N[m]? with
    | none =>
      have : nearK D N (m + 1) = nearK D N m := by simp [nearK, List.take_add_one, hx]
      rw [this] at h
      exact nearK_inv D N m b h
    | some x =>
      rw [nearK_succ hx] at h
      have hm := List.mem_of_getElem? hx
      cases hk : nearK D N m with
      | none =>
        rw [hk] at h
        simp only [nearS] at h
        split at h
        · cases h; exact ⟨hm, by assumption⟩
        · cases h
      | some c =>
        rw [hk] at h
        simp only [nearS] at h
        split at h
        · rename_i hc; cases h; exact ⟨hm, hc.1⟩
        · cases h; exact nearK_inv D N m _ hk
def nearP (nd : Int) (l : List (Int × Int × Int)) (N : List Int) (j : Int) : Bool := goodB nd l j && inB N.length 1 14 && N.all (nodeB nd)
def nearR (nd : Int) (l : List (Int × Int × Int)) (N : List Int) (j : Int) : Option Int := if nearP nd l N j then nearK (timesF nd.toNat l j.toNat) N N.length else none
def nearOk (nd : Int) (l : List (Int × Int × Int)) (N : List Int) (j : Int) : Bool := (nearR nd l N j).isSome
def nearN (nd : Int) (l : List (Int × Int × Int)) (N : List Int) (j : Int) : Int := (nearR nd l N j).getD 0
def nearT (nd : Int) (l : List (Int × Int × Int)) (N : List Int) (j : Int) : Int := match nearR nd l N j with
  | some b => timesF nd.toNat l j.toNat b.toNat
  | none => 0
theorem near_none {nd : Int} {l : List (Int × Int × Int)} {N : List Int} {j : Int} (h : nearR nd l N j = none) : nearN nd l N j = 0 ∧ nearT nd l N j = 0 ∧ nearOk nd l N j = false := by
  rw [nearN, nearT, nearOk, h]; exact ⟨rfl, rfl, rfl⟩
theorem near_no {nd : Int} {l : List (Int × Int × Int)} {N : List Int} {j : Int} (h : nearP nd l N j = false) : nearN nd l N j = 0 ∧ nearT nd l N j = 0 ∧ nearOk nd l N j = false := near_none (by rw [nearR, h]; rfl)
theorem near_some {nd : Int} {l : List (Int × Int × Int)} {N : List Int} {j b : Int} (h : nearR nd l N j = some b) : nearN nd l N j = b ∧ nearT nd l N j = timesF nd.toNat l j.toNat b.toNat ∧ nearOk nd l N j = true := by
  rw [nearN, nearT, nearOk, h]; exact ⟨rfl, rfl, rfl⟩

theorem findI_all {p : Int → Bool} {N : List Int} : decide (0 ≤ findI (fun x => !p x) N) = !(N.all p) := by
  rcases findI_cases (fun x => !p x) N with h | ⟨k, a, h, hk, hp⟩
  · rw [h]
    have : N.all p = true := by
      rw [List.all_eq_true]
      intro x hx
      cases hc : p x with
      | true => rfl
      | false =>
        obtain ⟨i, hi⟩ := List.mem_iff_getElem?.1 hx
        unfold findI at h
        cases hf : N.findIdx? (fun x => !p x) with
        | none => rw [List.findIdx?_eq_none_iff] at hf; have := hf x hx; simp [hc] at this
        | some q => rw [hf] at h; simp at h
    rw [this]; rfl
  · rw [h]
    have : N.all p = false := all_false_of p hk (by simpa using hp)
    rw [this]
    simp

set_option maxHeartbeats 1000000 in
theorem nearFn_any (b : Nat) (nd i : Int) (w : World) (h0 : 1 ≤ nd) (h1 : nd ≤ 14) (hb : b < w.heap.size) (hc : w.cell? ⟨b, 0, none⟩ = some (.int .i64 nd)) :
    Calls Tryz.prog 57 #[.int .i64 i, .pointer (some ⟨b, 0, none⟩)] w fun e w' => e = .returned (.bool (!nodeB nd i)) ∧ w = w' := by
  have q := has_any b nd i w h0 h1 hb hc
  go_enter Tryz.func57, Tryz.ntmps57
  go_wp2_with (go_at_call 36; ((with_reducible refine (q).mono ?_); rintro e w' ⟨rfl, rfl⟩))
  go_ret
  exact ⟨rfl, rfl⟩

set_option maxHeartbeats 1000000 in
theorem nearIdx_any (b : Nat) (nd : Int) (A : Option Addr) (n c : Nat) (N : List Int) (w : World) (h0 : 1 ≤ nd) (h1 : nd ≤ 14) (hb : b < w.heap.size) (hc : w.cell? ⟨b, 0, none⟩ = some (.int .i64 nd)) (hn : n = N.length) (hm : n ≤ 1048576) (hr : Rd w A (N.map (Value.int .i64))) :
    Calls Tryz.prog 83 #[.slice A n c, .func (.func 57) #[] #[.pointer (some ⟨b, 0, none⟩)]] w fun e w' => e = .returned (.int .i64 (findI (fun x => !nodeB nd x) N)) ∧ w = w' := by
  have q := fun i => nearFn_any b nd i w h0 h1 hb hc
  have Q := hide q
  have Hn := hide hn
  have Hr := hide hr
  clear q hb hc hn hr
  go_enter Tryz.func83, Tryz.ntmps83
  go_wp2_with fail
  go_loop [8] (fun t => ∃ k : Nat, k ≤ n ∧ t = .int .i64 k ∧ Hid (∀ (i : Nat) (x : Int), i < k → N[i]? = some x → (!nodeB nd x) = false)) (fun t => n - (intOf t).toNat)
  case atStart => exact ⟨0, by omega, rfl, hide (fun i x hi => absurd hi (by omega))⟩
  case round =>
    obtain ⟨k, hk, rfl, HA⟩ := hrel
    by_cases hlt : k < n
    · obtain ⟨x, hx⟩ : ∃ x, N[k]? = some x := ⟨_, List.getElem?_eq_getElem (by rw [← Hn.out]; exact hlt)⟩
      obtain ⟨b', off, rfl, hbs, c0⟩ := Hr.out.get1 (k := k) (u := .int .i64 x) (by simp [hx])
      have Hx := hide hx
      clear hx
      have q := Q.out x
      cases hp : nodeB nd x with
      | true =>
        have HN : Hid (∀ (i : Nat) (y : Int), i < k + 1 → N[i]? = some y → (!nodeB nd y) = false) := hide (fun i y hi hy => by
          by_cases hi2 : i < k
          · exact HA.out i y hi2 hy
          · have hik : i = k := by omega
            rw [hik, Hx.out] at hy
            cases hy
            rw [hp]; rfl)
        rw [hp] at q
        clear hp
        go_wp2_with (go_at_call 57; ((with_reducible refine (q).mono ?_); rintro e w' ⟨rfl, rfl⟩))
        go_round
        case rel => exact ⟨k + 1, by omega, by go_num, HN⟩
        case measure => simp [intOf]; omega
      | false =>
        have HF : Hid (findI (fun x => !nodeB nd x) N = (k : Nat)) := hide (findI_at Hx.out (by rw [hp]; rfl) (fun i b hi hb => HA.out i b hi hb))
        rw [hp] at q
        clear hp
        go_wp2_with (go_at_call 57; ((with_reducible refine (q).mono ?_); rintro e w' ⟨rfl, rfl⟩))
        go_ret
        exact ⟨ret_int HF.out.symm, rfl⟩
    · go_wp2
      go_ret
      exact ⟨ret_int (findI_none (fun i x hx => HA.out i x (by have := (List.getElem?_eq_some_iff.1 hx).1; have := Hn.out; omega) hx)).symm, rfl⟩

set_option maxHeartbeats 1000000 in
theorem nearAny_any (b : Nat) (nd : Int) (A : Option Addr) (n c : Nat) (N : List Int) (w : World) (h0 : 1 ≤ nd) (h1 : nd ≤ 14) (hb : b < w.heap.size) (hc : w.cell? ⟨b, 0, none⟩ = some (.int .i64 nd)) (hn : n = N.length) (hm : n ≤ 1048576) (hr : Rd w A (N.map (Value.int .i64))) :
    Calls Tryz.prog 56 #[.slice A n c, .func (.func 57) #[] #[.pointer (some ⟨b, 0, none⟩)]] w fun e w' => e = .returned (.bool (!(N.all (nodeB nd)))) ∧ w = w' := by
  have Q := hide (nearIdx_any b nd A n c N w h0 h1 hb hc hn hm hr)
  have HE := hide (findI_all (p := nodeB nd) (N := N))
  clear hb hc hn hr
  go_enter Tryz.func56, Tryz.ntmps56
  go_wp2_with (go_at_call 83; ((with_reducible refine (Q.out).mono ?_); rintro e w' ⟨rfl, rfl⟩))
  go_ret
  exact ⟨ret_bool HE.out, rfl⟩

set_option maxHeartbeats 1000000 in
theorem l1All_any (lo hi : Int) (A : Option Addr) (n c : Nat) (N : List Int) (w : World) (hn : n = N.length) (hm : n ≤ 1048576) (hr : Rd w A (N.map (Value.int .i64))) :
    Calls Tryz.prog 60 #[.slice A n c, .int .i64 lo, .int .i64 hi] w fun e w' => e = .returned (.bool (N.all (fun x => inB x lo hi))) ∧ w = w' := by
  have Hn := hide hn
  have Hr := hide hr
  clear hn hr
  go_enter Tryz.func60, Tryz.ntmps60
  go_wp2_with fail
  go_loop [11] (fun t => ∃ k : Nat, k ≤ n ∧ t = .int .i64 k ∧ Hid ((N.take k).all (fun x => inB x lo hi) = true)) (fun t => n - (intOf t).toNat)
  case atStart => exact ⟨0, by omega, rfl, hide (by simp)⟩
  case round =>
    obtain ⟨k, hk, rfl, HA⟩ := hrel
    by_cases hlt : k < n
    · obtain ⟨x, hx⟩ : ∃ x, N[k]? = some x := ⟨_, List.getElem?_eq_getElem (by rw [← Hn.out]; exact hlt)⟩
      obtain ⟨b', off, rfl, hbs, c0⟩ := Hr.out.get1 (k := k) (u := .int .i64 x) (by simp [hx])
      have Hx := hide hx
      clear hx
      have q := l1In_any x lo hi w
      cases hp : inB x lo hi with
      | true =>
        have HN : Hid ((N.take (k + 1)).all (fun x => inB x lo hi) = true) := hide (all_take_succ _ Hx.out HA.out hp)
        rw [hp] at q
        clear hp
        go_wp2_with (go_at_call 59; ((with_reducible refine (q).mono ?_); rintro e w' ⟨rfl, rfl⟩))
        go_round
        case rel => exact ⟨k + 1, by omega, by go_num, HN⟩
        case measure => simp [intOf]; omega
      | false =>
        have HF : Hid (N.all (fun x => inB x lo hi) = false) := hide (all_false_of _ Hx.out hp)
        rw [hp] at q
        clear hp
        go_wp2_with (go_at_call 59; ((with_reducible refine (q).mono ?_); rintro e w' ⟨rfl, rfl⟩))
        go_ret
        exact ⟨ret_bool HF.out.symm, rfl⟩
    · go_wp2
      go_ret
      exact ⟨ret_bool (all_of_take _ (by have := Hn.out; omega) HA.out).symm, rfl⟩
end Go.Proofs.YtbhnaakknfienaaGreatDoor

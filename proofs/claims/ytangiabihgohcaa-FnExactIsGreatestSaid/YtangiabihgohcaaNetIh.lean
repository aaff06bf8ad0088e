/- IsGreatest: the plain law, and what the program's isGreatest returns. -/
import Derived.Test.YtangiabihgohcaaNetIg
import Derived.Test.YtangiabihgohcaaHasInt
import Derived.Test.YtangiabihgohcaaNetGs
import Derived.Test.YtangiabihgohcaaRegionsS
namespace Go.Proofs.Ytangiabihgohcaa
open Go.RowKit
set_option linter.unusedVariables false

/-- Whether hydrant i's flow is as it must be: TL the tight mains. -/
def igStep (M H : List (Int × Int)) (O F TL : List Int) (i : Nat) : Bool := match H[i]?, F[i]? with
  | some h, some f => if hasB O (i : Int) then decide (f = h.2) || (wayL M h.1).any (fun m => hasB TL (m : Int)) else decide (f = 0)
  | _, _ => false
theorem igStep_in {M H : List (Int × Int)} {O F TL : List Int} {i : Nat} {h : Int × Int} {f : Int} (hh : H[i]? = some h) (hf : F[i]? = some f) (ho : hasB O (i : Int) = true) : igStep M H O F TL i = (decide (f = h.2) || (wayL M h.1).any (fun m => hasB TL (m : Int))) := by simp [igStep, hh, hf, ho]
theorem igStep_out {M H : List (Int × Int)} {O F TL : List Int} {i : Nat} {h : Int × Int} {f : Int} (hh : H[i]? = some h) (hf : F[i]? = some f) (ho : hasB O (i : Int) = false) : igStep M H O F TL i = decide (f = 0) := by simp [igStep, hh, hf, ho]
def igTL (M H : List (Int × Int)) (F : List Int) : List Int := withN tightP M (loadsF M H F) M.length
def igB (M H : List (Int × Int)) (O F : List Int) : Bool := decide (withN overP M (loadsF M H F) M.length = []) && (List.range F.length).all (igStep M H O F (igTL M H F))
theorem igB_over {M H : List (Int × Int)} {O F : List Int} (h : ¬ withN overP M (loadsF M H F) M.length = []) : igB M H O F = false := by simp [igB, h]
theorem igB_bad {M H : List (Int × Int)} {O F : List Int} {i : Nat} (hi : i < F.length) (h : igStep M H O F (igTL M H F) i = false) : igB M H O F = false := by
  cases hc : igB M H O F with
  | false => rfl
  | true =>
    rw [igB, Bool.and_eq_true, List.all_eq_true] at hc
    rw [hc.2 i (List.mem_range.2 hi)] at h
    cases h
theorem igB_of {M H : List (Int × Int)} {O F : List Int} (ho : withN overP M (loadsF M H F) M.length = []) (h : ∀ i, i < F.length → igStep M H O F (igTL M H F) i = true) : igB M H O F = true := by
  rw [igB, Bool.and_eq_true, List.all_eq_true]
  exact ⟨by simpa using ho, fun i hi => h i (List.mem_range.1 hi)⟩

set_option maxHeartbeats 1000000 in
theorem igFn_any (b : Nat) (A : Option Addr) (n c : Nat) (L : List Int) (x : Int) (w : World) (hc : w.cell? ⟨b, 0, none⟩ = some (.slice A n c)) (hn : n = L.length) (hm : n ≤ 1048576) (hr : Rd w A (L.map (Value.int .i64))) :
    Calls Try.prog 99 #[.int .i64 x, .pointer (some ⟨b, 0, none⟩)] w fun e w' => e = .returned (.bool (hasB L x)) ∧ w = w' := by
  have q := hasInt_any A n c L x w hn hm hr
  have hb := World.block_lt_of_cell? w _ hc
  dsimp only at hb
  clear hn hr
  go_enter Try.func99, Try.ntmps99
  go_wp2_with (go_at_call 97; ((with_reducible refine (q).mono ?_); rintro e w' ⟨rfl, rfl⟩))
  go_ret
  exact ⟨rfl, rfl⟩
theorem any_at {α : Type} {p : α → Bool} {l : List α} {k : Nat} {a : α} (h : l[k]? = some a) (hp : p a = true) : l.any p = true := List.any_eq_true.2 ⟨a, List.mem_of_getElem? h, hp⟩
theorem any_none {α : Type} {p : α → Bool} {l : List α} (h : ∀ (i : Nat) (a : α), l[i]? = some a → p a = false) : l.any p = false := by
  rw [List.any_eq_false]
  intro a ha
  obtain ⟨i, hi⟩ := List.mem_iff_getElem?.1 ha
  simp [h i a hi]

set_option maxHeartbeats 1000000 in
theorem igIdx_any (b : Nat) (A : Option Addr) (n c : Nat) (L : List Int) (A' : Option Addr) (k c' : Nat) (N : List Nat) (w : World) (hc : w.cell? ⟨b, 0, none⟩ = some (.slice A n c)) (hn : n = L.length) (hm : n ≤ 1048576) (hr : Rd w A (L.map (Value.int .i64))) (hk : k = N.length) (hk2 : k ≤ 1048576) (hr2 : Rd w A' (natL N)) :
    Calls Try.prog 108 #[.slice A' k c', .func (.func 99) #[] #[.pointer (some ⟨b, 0, none⟩)]] w fun e w' => e = .returned (.int .i64 (findI (fun m : Nat => hasB L (m : Int)) N)) ∧ w = w' := by
  have q := fun x => igFn_any b A n c L x w hc hn hm hr
  have Q := hide q
  have Hk := hide hk
  have Hr := hide hr2
  clear q hc hn hr hk hr2
  go_enter Try.func108, Try.ntmps108
  go_wp2_with fail
  go_loop [8] (fun t => ∃ j : Nat, j ≤ k ∧ t = .int .i64 j ∧ Hid (∀ (i : Nat) (x : Nat), i < j → N[i]? = some x → hasB L (x : Int) = false)) (fun t => k - (intOf t).toNat)
  case atStart => exact ⟨0, by omega, rfl, hide (fun i x hi => absurd hi (by omega))⟩
  case round =>
    obtain ⟨j, hj, rfl, HA⟩ := hrel
    by_cases hlt : j < k
    · obtain ⟨x, hx⟩ : ∃ x, N[j]? = some x := ⟨_, List.getElem?_eq_getElem (by rw [← Hk.out]; exact hlt)⟩
      obtain ⟨b', off, rfl, hbs, c0⟩ := Hr.out.get1 (natL_get hx)
      have Hx := hide hx
      clear hx
      have q := Q.out (x : Int)
      cases hp : hasB L (x : Int) with
      | false =>
        have HN : Hid (∀ (i : Nat) (y : Nat), i < j + 1 → N[i]? = some y → hasB L (y : Int) = false) := hide (fun i y hi hy => by
          by_cases hi2 : i < j
          · exact HA.out i y hi2 hy
          · have hik : i = j := by omega
            rw [hik, Hx.out] at hy
            cases hy
            exact hp)
        rw [hp] at q
        clear hp
        go_wp2_with (go_at_call 99; ((with_reducible refine (q).mono ?_); rintro e w' ⟨rfl, rfl⟩))
        go_round
        case rel => exact ⟨j + 1, by omega, by go_num, HN⟩
        case measure => simp [intOf]; omega
      | true =>
        have HF : Hid (findI (fun m : Nat => hasB L (m : Int)) N = (j : Nat)) := hide (findI_at Hx.out hp (fun i b hi hb => HA.out i b hi hb))
        rw [hp] at q
        clear hp
        go_wp2_with (go_at_call 99; ((with_reducible refine (q).mono ?_); rintro e w' ⟨rfl, rfl⟩))
        go_ret
        exact ⟨ret_int HF.out.symm, rfl⟩
    · go_wp2
      go_ret
      exact ⟨ret_int (findI_none (fun i x hx => HA.out i x (by have := (List.getElem?_eq_some_iff.1 hx).1; have := Hk.out; omega) hx)).symm, rfl⟩
theorem findI_any {α : Type} (p : α → Bool) (l : List α) : decide (0 ≤ findI p l) = l.any p := by
  rcases findI_cases p l with h | ⟨k, a, h, hk, hp⟩
  · rw [h]
    have : l.any p = false := by
      unfold findI at h
      cases hf : l.findIdx? p with
      | some q => rw [hf] at h; simp at h
      | none =>
        rw [List.any_eq_false]
        intro y hy
        simpa using List.findIdx?_eq_none_iff.1 hf y hy
    rw [this]; simp
  · rw [h, any_at hk hp]; simp

set_option maxHeartbeats 1000000 in
theorem igAny_any (b : Nat) (A : Option Addr) (n c : Nat) (L : List Int) (A' : Option Addr) (k c' : Nat) (N : List Nat) (w : World) (hc : w.cell? ⟨b, 0, none⟩ = some (.slice A n c)) (hn : n = L.length) (hm : n ≤ 1048576) (hr : Rd w A (L.map (Value.int .i64))) (hk : k = N.length) (hk2 : k ≤ 1048576) (hr2 : Rd w A' (natL N)) :
    Calls Try.prog 98 #[.slice A' k c', .func (.func 99) #[] #[.pointer (some ⟨b, 0, none⟩)]] w fun e w' => e = .returned (.bool (N.any (fun m => hasB L (m : Int)))) ∧ w = w' := by
  have Q := hide (igIdx_any b A n c L A' k c' N w hc hn hm hr hk hk2 hr2)
  have HE := hide (findI_any (fun m : Nat => hasB L (m : Int)) N)
  clear hc hn hr hk hr2
  go_enter Try.func98, Try.ntmps98
  go_wp2_with (go_at_call 108; ((with_reducible refine (Q.out).mono ?_); rintro e w' ⟨rfl, rfl⟩))
  go_ret
  exact ⟨ret_bool HE.out, rfl⟩
end Go.Proofs.Ytangiabihgohcaa

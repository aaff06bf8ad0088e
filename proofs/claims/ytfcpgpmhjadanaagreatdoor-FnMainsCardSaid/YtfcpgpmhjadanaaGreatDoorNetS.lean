/- Greatest sums: the plain law. -/
import Derived.Test.YtfcpgpmhjadanaaGreatDoorNetL
namespace Go.Proofs.YtfcpgpmhjadanaaGreatDoor
set_option linter.unusedVariables false
/-- What the first j open hydrants at a main have. -/
def baseN (H : List (Int × Int)) (F : List Int) : Nat → Nat → Int
  | 0 => fun _ => 0
  | j + 1 => match F[j]? with
    | some i => match H[i.toNat]? with
      | some h => fun m => if h.1 = (m : Int) then baseN H F j m + h.2 else baseN H F j m
      | none => baseN H F j
    | none => baseN H F j
theorem baseN_succ {H : List (Int × Int)} {F : List Int} {j : Nat} {i : Nat} {h : Int × Int} (hi : F[j]? = some (i : Int)) (hh : H[i]? = some h) : baseN H F (j + 1) = fun m : Nat => if h.1 = (m : Int) then baseN H F j m + h.2 else baseN H F j m := by
  rw [baseN, hi]
  simp [hh]
theorem baseN_upd {H : List (Int × Int)} {F : List Int} {j : Nat} {i q : Nat} {h : Int × Int} (hi : F[j]? = some (i : Int)) (hh : H[i]? = some h) (hq : h.1 = (q : Int)) : baseN H F (j + 1) = upd (baseN H F j) q (baseN H F j q + h.2) := by
  rw [baseN_succ hi hh]
  funext m
  unfold upd
  rw [hq]
  by_cases hm : m = q
  · subst hm; simp
  · rw [if_neg (by omega), if_neg hm]
/-- The sum over the children below j. -/
def kidsN (M : List (Int × Int)) (S : Nat → Int) (m : Nat) : Nat → Int
  | 0 => 0
  | j + 1 => if par M j = (m : Int) then kidsN M S m j + S j else kidsN M S m j
def lim (M : List (Int × Int)) (m : Nat) : Int := match M[m]? with
  | some x => x.2
  | none => 0
def sumF (M H : List (Int × Int)) (F : List Int) : Nat → Nat → Int
  | 0 => fun _ => 0
  | f + 1 => fun m => min (baseN H F F.length m + kidsN M (sumF M H F f) m M.length) (lim M m)
def sumM (M H : List (Int × Int)) (F : List Int) (m : Nat) : Int := sumF M H F (M.length - m) m
theorem kidsN_congr {M : List (Int × Int)} {S T : Nat → Int} {m : Nat} : ∀ (j : Nat), (∀ c, c < j → par M c = (m : Int) → S c = T c) → kidsN M S m j = kidsN M T m j
  | 0, _ => rfl
  | j + 1, h => by
    have ih := kidsN_congr j (fun c hc hp => h c (by omega) hp)
    unfold kidsN
    rw [ih]
    split
    · next hp => rw [h j (by omega) hp]
    · rfl
theorem sumF_any {M H : List (Int × Int)} (hk : NetOk M H) (F : List Int) : ∀ (f g m : Nat), m < M.length → M.length - m ≤ f → M.length - m ≤ g → sumF M H F f m = sumF M H F g m
  | 0, g, m, h, h1, _ => by omega
  | f + 1, 0, m, h, _, h2 => by omega
  | f + 1, g + 1, m, h, h1, h2 => by
    simp only [sumF]
    rw [kidsN_congr (S := sumF M H F f) (T := sumF M H F g) M.length (fun c hc hp => by
      have := (hk.par_lt hc).2
      exact sumF_any hk F f g c hc (by omega) (by omega))]
theorem sumM_eq {M H : List (Int × Int)} (hk : NetOk M H) (F : List Int) {m : Nat} (h : m < M.length) : sumM M H F m = min (baseN H F F.length m + kidsN M (sumM M H F) m M.length) (lim M m) := by
  obtain ⟨f, hf⟩ : ∃ f, M.length - m = f + 1 := ⟨M.length - m - 1, by omega⟩
  have h1 : sumM M H F m = sumF M H F (f + 1) m := by unfold sumM; rw [hf]
  rw [h1]
  simp only [sumF]
  rw [kidsN_congr (S := sumF M H F f) (T := sumM M H F) M.length (fun c hc hp => by
    have := (hk.par_lt hc).2
    exact sumF_any hk F _ _ c hc (by omega) (by omega))]
theorem lim_some {M : List (Int × Int)} {m : Nat} {x : Int × Int} (h : M[m]? = some x) : lim M m = x.2 := by simp [lim, h]
theorem baseN_bd {M H : List (Int × Int)} (hk : NetOk M H) (F : List Int) (m : Nat) : ∀ j : Nat, 0 ≤ baseN H F j m ∧ baseN H F j m ≤ 5000 * j
  | 0 => by simp [baseN]
  | j + 1 => by
    have ih := baseN_bd hk F m j
    simp only [baseN]
    cases hF : F[j]? with
    | none => dsimp only; omega
    | some i =>
      dsimp only
      cases hh : H[i.toNat]? with
      | none => dsimp only; omega
      | some h =>
        have := hk.hyd _ h hh
        dsimp only
        split <;> omega
theorem kidsN_bd {M : List (Int × Int)} {S : Nat → Int} {m : Nat} : ∀ j : Nat, (∀ c, c < j → 0 ≤ S c ∧ S c ≤ 5000) → 0 ≤ kidsN M S m j ∧ kidsN M S m j ≤ 5000 * j
  | 0, _ => by simp [kidsN]
  | j + 1, h => by
    have ih := kidsN_bd (M := M) (m := m) j (fun c hc => h c (by omega))
    have := h j (by omega)
    rw [kidsN]
    split <;> omega
theorem sumF_bd {M H : List (Int × Int)} (hk : NetOk M H) (F : List Int) : ∀ (f m : Nat), m < M.length → 0 ≤ sumF M H F f m ∧ sumF M H F f m ≤ 5000
  | 0, m, _ => by simp [sumF]
  | f + 1, m, h => by
    have h1 := baseN_bd hk F m F.length
    have h2 := kidsN_bd (M := M) (m := m) M.length (fun c hc => sumF_bd hk F f c hc)
    have h3 := hk.main m _ (List.getElem?_eq_getElem h)
    have h4 := lim_some (List.getElem?_eq_getElem h)
    simp only [sumF]
    omega
theorem sumM_bd {M H : List (Int × Int)} (hk : NetOk M H) (F : List Int) {m : Nat} (h : m < M.length) : 0 ≤ sumM M H F m ∧ sumM M H F m ≤ 5000 := sumF_bd hk F _ m h
end Go.Proofs.YtfcpgpmhjadanaaGreatDoor

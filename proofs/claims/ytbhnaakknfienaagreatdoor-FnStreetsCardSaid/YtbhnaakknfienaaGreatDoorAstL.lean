/- A street added: the plain law. -/
import Derived.Test.YtbhnaakknfienaaGreatDoorInsT
import Derived.Test.YtbhnaakknfienaaGreatDoorSrT
import Derived.Test.YtbhnaakknfienaaGreatDoorTownCl
namespace Go.Proofs.YtbhnaakknfienaaGreatDoor
open Go.RowKit
set_option linter.unusedVariables false

theorem ne_succ2 (n : Nat) : (n = n + 1 + 1) = False := by simp only [eq_iff_iff, iff_false]; omega
attribute [go_sem] ne_succ2
def turnT (s : StT) : StT := if s.1 > s.2.1 then (s.2.1, s.1, s.2.2) else s
def insL (l : List StT) (k : Nat) (s : StT) : List StT := l.take k ++ [s] ++ l.drop k
theorem insL_get {l : List StT} {k : Nat} {s : StT} (hk : k ≤ l.length) (i : Nat) : (insL l k s)[i]? = if i < k then l[i]? else if i = k then some s else l[i - 1]? := by
  have ht : (l.take k).length = k := by rw [List.length_take]; omega
  unfold insL
  rw [List.append_assoc]
  by_cases h1 : i < k
  · rw [if_pos h1, List.getElem?_append_left (by omega), List.getElem?_take_of_lt h1]
  · rw [if_neg h1, List.getElem?_append_right (by omega), ht]
    by_cases h2 : i = k
    · rw [if_pos h2]
      subst h2
      simp
    · rw [if_neg h2]
      obtain ⟨d, hd⟩ : ∃ d, i - k = d + 1 := ⟨i - k - 1, by omega⟩
      rw [hd, List.singleton_append, List.getElem?_cons_succ, List.getElem?_drop]
      congr 1
      omega
theorem insL_length {l : List StT} {k : Nat} {s : StT} (hk : k ≤ l.length) : (insL l k s).length = l.length + 1 := by
  simp [insL]
  omega
theorem chainB_ins {p : StT → Bool} {r : StT → StT → Bool} {l : List StT} {s : StT} {k : Nat} (h : chainB p r l = true) (hk : k ≤ l.length) (hp : p s = true)
    (h1 : ∀ x, 0 < k → l[k - 1]? = some x → r x s = true) (h2 : ∀ x, l[k]? = some x → r s x = true) : chainB p r (insL l k s) = true := by
  refine chainB_of fun i hi => ?_
  rw [insL_length hk] at hi
  by_cases e1 : i < k
  · have hx : l[i]? = some l[i] := List.getElem?_eq_getElem (by omega)
    have hs := chainB_step h i
    cases i with
    | zero =>
      rw [stepB_zero hx] at hs
      rw [stepB_zero (a := l[0]) (by rw [insL_get hk, if_pos e1]; exact hx)]
      exact hs
    | succ j =>
      have hy : l[j]? = some l[j] := List.getElem?_eq_getElem (by omega)
      rw [stepB_succ hx hy] at hs
      rw [stepB_succ (a := l[j + 1]) (b := l[j]) (by rw [insL_get hk, if_pos e1]; exact hx) (by rw [insL_get hk, if_pos (by omega)]; exact hy)]
      exact hs
  · by_cases e2 : i = k
    · subst e2
      have hg : (insL l i s)[i]? = some s := by rw [insL_get hk, if_neg (by omega), if_pos rfl]
      cases i with
      | zero => rw [stepB_zero hg]; exact hp
      | succ j =>
        have hy : l[j]? = some l[j] := List.getElem?_eq_getElem (by omega)
        rw [stepB_succ hg (b := l[j]) (by rw [insL_get hk, if_pos (by omega)]; exact hy), hp, h1 l[j] (by omega) hy]
        rfl
    · obtain ⟨j, rfl⟩ : ∃ j, i = j + 1 := ⟨i - 1, by omega⟩
      have hx : l[j]? = some l[j] := List.getElem?_eq_getElem (by omega)
      have hg : (insL l k s)[j + 1]? = some l[j] := by rw [insL_get hk, if_neg e1, if_neg e2]; exact hx
      have hpx : p l[j] = true := chainB_elem h hx
      by_cases e3 : j = k
      · have hg2 : (insL l k s)[j]? = some s := by rw [insL_get hk, if_neg (by omega), if_pos e3]
        rw [stepB_succ hg hg2, hpx, h2 l[j] (by rw [← e3]; exact hx)]
        rfl
      · obtain ⟨q, rfl⟩ : ∃ q, j = q + 1 := ⟨j - 1, by omega⟩
        have hy : l[q]? = some l[q] := List.getElem?_eq_getElem (by omega)
        have hg2 : (insL l k s)[q + 1]? = some l[q] := by rw [insL_get hk, if_neg (by omega), if_neg e3]; exact hy
        rw [stepB_succ hg hg2, hpx, chainB_next h hx hy]
        rfl
theorem findI_neg {p : StT → Bool} {l : List StT} (h : findI p l < 0) : ∀ x ∈ l, p x = false := by
  unfold findI at h
  split at h
  · omega
  · rename_i hn
    rwa [List.findIdx?_eq_none_iff] at hn
theorem stFind_none {l : List StT} {a b : Int} (h : stFind l a b < 0) {x : StT} (hx : x ∈ l) : isSt a b x = false := findI_neg h x hx
theorem befB_trans {a b c : StT} (h1 : befB a b = true) (h2 : befB b c = true) : befB a c = true := by
  simp only [befB, Bool.or_eq_true, Bool.and_eq_true, decide_eq_true_eq] at *
  omega
def putT (l : List StT) (s : StT) : List StT := l.takeWhile (fun x => befB x s) ++ [s] ++ l.dropWhile (fun x => befB x s)
theorem takeWhile_atT {p : StT → Bool} : ∀ {l : List StT} {k : Nat}, k ≤ l.length → (∀ (i : Nat) (x : StT), i < k → l[i]? = some x → p x = true) → (∀ x, l[k]? = some x → p x = false) → l.takeWhile p = l.take k ∧ l.dropWhile p = l.drop k
  | [], k, h, _, _ => by simp
  | x :: l, 0, _, _, h => by
    have := h x rfl
    simp [this]
  | x :: l, k + 1, hk, h1, h2 => by
    have h0 := h1 0 x (by omega) rfl
    have ih := takeWhile_atT (l := l) (k := k) (by simpa using hk) (fun i y hi hy => h1 (i + 1) y (by omega) (by simpa using hy)) (fun y hy => h2 y (by simpa using hy))
    simp [h0, ih.1, ih.2]
theorem srch_all {nd : Int} {l : List StT} {s : StT} {k : Nat} (h : streetsB nd l = true) (h1 : k ≤ l.length) (h2 : ∀ x, 0 < k → l[k - 1]? = some x → befB x s = true) : ∀ (d i : Nat) (x : StT), i + d + 1 = k → l[i]? = some x → befB x s = true
  | 0, i, x, hd, hx => h2 x (by omega) (by rw [show k - 1 = i by omega]; exact hx)
  | d + 1, i, x, hd, hx => by
    have hy : l[i + 1]? = some l[i + 1] := List.getElem?_eq_getElem (by omega)
    exact befB_trans (chainB_next h hy hx) (srch_all h h1 h2 d (i + 1) _ (by omega) hy)
theorem srch_putT {nd : Int} {l : List StT} {s : StT} (h : streetsB nd l = true) {k : Nat} (hk : SrchAt l s k) : putT l s = insL l k s := by
  obtain ⟨h1, h2, h3⟩ := hk
  have key := takeWhile_atT (p := fun x => befB x s) (l := l) (k := k) h1 (fun i x hi hx => srch_all h h1 h2 (k - i - 1) i x (by omega) hx) h3
  rw [putT, key.1, key.2]
  rfl
theorem turn_fit (nd : Int) (s : StT) : fitB nd (turnT s) = strB nd s := by
  obtain ⟨a, b, c⟩ := s
  unfold turnT
  by_cases h : a > b
  · rw [if_pos h, fit_str]
    simp only [strB]
    have h1 : ¬ a < b := by omega
    have h2 : ¬ b = a := by omega
    have h3 : ¬ a = b := by omega
    simp [h1, h2, h3, Bool.and_comm]
  · rw [if_neg h, fit_str]
    have h1 : ¬ b < a := by omega
    simp [h1]
theorem turn_find (l : List StT) (s : StT) : stFind l (turnT s).1 (turnT s).2.1 = stFind l s.1 s.2.1 := by
  unfold turnT
  split
  · rw [stFind, isSt_comm]; rfl
  · rfl
theorem town_ins {nd : Int} {l : List StT} {s : StT} {k : Nat} (ht : townB nd l = true) (hf : fitB nd s = true) (hn : stFind l s.1 s.2.1 < 0) (hk : SrchAt l s k) : townB nd (insL l k s) = decide (l.length < 40) := by
  simp only [townB, Bool.and_eq_true] at ht
  obtain ⟨⟨h1, h2⟩, h3⟩ := ht
  obtain ⟨k1, k2, k3⟩ := hk
  have hlt : s.1 < s.2.1 := by
    simp only [fitB, Bool.and_eq_true, decide_eq_true_eq] at hf
    exact hf.1.2
  have hc : streetsB nd (insL l k s) = true := by
    refine chainB_ins h3 k1 hf (fun x h0 hx => k2 x h0 hx) (fun x hx => ?_)
    have e1 := k3 x hx
    have e2 := stFind_none hn (List.mem_of_getElem? hx)
    obtain ⟨x0, x1, x2⟩ := x
    obtain ⟨s0, s1, s2⟩ := s
    simp only [befB, isSt, Bool.or_eq_false_iff, Bool.and_eq_false_iff, decide_eq_false_iff_not, Bool.or_eq_true, Bool.and_eq_true, decide_eq_true_eq] at e1 e2 hlt ⊢
    have m1 : min s0 s1 = s0 := by omega
    have m2 : max s0 s1 = s1 := by omega
    rw [m1, m2] at e2
    omega
  rw [townB, h1, hc, insL_length k1]
  simp
  omega
def adsOk (nd : Int) (l : List StT) (s : StT) : Bool := townB nd l && strB nd s && decide (stFind l s.1 s.2.1 < 0) && decide (l.length < 40)
def TwPost (ok : Bool) (nd : Int) (L : List StT) (w : World) (e : Ending) (w' : World) : Prop :=
  (∃ v, e = .returned (.tuple #[.agg #[.int .i64 nd, v], .bool ok]) ∧ w'.ownsRow w.heap.size 39 3 v L.length (L.flatMap tcells)) ∧ Below w.heap.size w w'
def adsN (nd : Int) (l : List StT) (s : StT) : Int := if adsOk nd l s then nd else 0
def adsL (nd : Int) (l : List StT) (s : StT) : List StT := if adsOk nd l s then putT l (turnT s) else []
/-- What AddStreet leaves. -/
def AdsPost (nd : Int) (l : List StT) (s : StT) (w : World) (e : Ending) (w' : World) : Prop := TwPost (adsOk nd l s) (adsN nd l s) (adsL nd l s) w e w'
theorem AdsPost.no {nd : Int} {l : List StT} {s : StT} {w w' : World} (h : adsOk nd l s = false) (hb : Below w.heap.size w w') : AdsPost nd l s w (.returned (.tuple #[.agg #[.int .i64 0, .slice none 0 0], .bool false])) w' := by
  refine ⟨⟨.slice none 0 0, by rw [adsN, h]; rfl, ?_⟩, hb⟩
  rw [adsL, h]
  exact World.ownsRow_nil _ _ _ _
theorem AdsPost.yes {nd : Int} {l : List StT} {s : StT} {k n : Nat} {w w' : World} {v : Value} (h : adsOk nd l s = true) (hk : SrchAt l (turnT s) k) (hn : n = l.length + 1) (hv : w'.ownsRow w.heap.size 39 3 v n ((insL l k (turnT s)).flatMap tcells)) (hb : Below w.heap.size w w') : AdsPost nd l s w (.returned (.tuple #[.agg #[.int .i64 nd, v], .bool true])) w' := by
  have hs : streetsB nd l = true := by
    simp only [adsOk, townB, Bool.and_eq_true] at h
    exact h.1.1.1.2
  refine ⟨⟨v, by rw [adsN, h]; rfl, ?_⟩, hb⟩
  rw [adsL, h, if_pos rfl, srch_putT hs hk, insL_length hk.1, ← hn]
  exact hv
end Go.Proofs.YtbhnaakknfienaaGreatDoor

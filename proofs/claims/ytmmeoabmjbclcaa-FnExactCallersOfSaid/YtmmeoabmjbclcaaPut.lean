/- A number put into a rising list: l1Put. -/
import Derived.Test.YtmmeoabmjbclcaaIntS
namespace Go.Proofs.Ytmmeoabmjbclcaa
open Go.RowKit
set_option linter.unusedVariables false

def putI (ys : List Int) (x : Int) : Nat := (ys.takeWhile fun y => decide (y < x)).length
def putF (ys : List Int) (x : Int) : List Int := if ys[putI ys x]? = some x then ys else ys.take (putI ys x) ++ [x] ++ ys.drop (putI ys x)
theorem putI_eq {x : Int} : ∀ {ys : List Int} {k : Nat}, k ≤ ys.length → (∀ (j : Nat) (y : Int), j < k → ys[j]? = some y → y < x) → (∀ y, ys[k]? = some y → ¬ y < x) → putI ys x = k
  | [], k, hk, _, _ => by simp [putI]; simp at hk; omega
  | y :: ys, 0, _, _, h2 => by
    have := h2 y (by simp)
    simp [putI, this]
  | y :: ys, k + 1, hk, h1, h2 => by
    have h := h1 0 y (by omega) (by simp)
    have ih := putI_eq (x := x) (ys := ys) (k := k) (by simpa using hk) (fun j z hj hz => h1 (j + 1) z (by omega) (by simpa using hz)) (fun z hz => h2 z (by simpa using hz))
    simp only [putI, List.takeWhile_cons, h, decide_true, if_true, List.length_cons]
    simp only [putI] at ih
    omega
theorem putF_length (ys : List Int) (x : Int) : (putF ys x).length ≤ ys.length + 1 := by
  unfold putF
  split
  · omega
  · simp; omega

theorem Rd.cellsFrom {w : World} {b off : Nat} {xs : List Value} (h : Rd w (some ⟨b, off, none⟩) xs) (i : Nat) : ∀ (j : Nat) (u : Value), (xs.drop i)[j]? = some u → w.cell? ((⟨b, off + i, none⟩ : Addr).add j) = some u := by
  intro j u hu
  rw [List.getElem?_drop] at hu
  rcases h with h | ⟨b', off', hA, hc⟩
  · rw [h] at hu; simp at hu
  · injection hA with hA
    injection hA with h1 h2
    rw [Addr.add_lit, Nat.add_assoc, h1, h2]
    exact hc _ _ hu
theorem Rd.cellsTo {w : World} {b off : Nat} {xs : List Value} (h : Rd w (some ⟨b, off, none⟩) xs) (i : Nat) : ∀ (j : Nat) (u : Value), (xs.take i)[j]? = some u → w.cell? ((⟨b, off, none⟩ : Addr).add j) = some u := by
  intro j u hu
  rw [List.getElem?_take] at hu
  split at hu
  · exact h.cellsFrom 0 j u (by simpa using hu)
  · cases hu

set_option maxHeartbeats 4000000 in
theorem l1Put_any (B : Nat) (v : Value) (n : Nat) (ys : List Int) (x : Int) (w : World) (h : w.ownsRow B 3 1 v n (ys.map (Value.int .i64))) (hn : n = ys.length) (hm : n ≤ 1048576) (hB : B ≤ w.heap.size) :
    Calls Try.prog 18 #[v, .int .i64 x] w fun e w' => (∃ v', e = .returned v' ∧ w'.ownsRow B 3 1 v' (putF ys x).length ((putF ys x).map (Value.int .i64))) ∧ Below w.heap.size w w' := by
  obtain ⟨i0, hi, hz0, hz1, hz2⟩ := info_parts infoInt
  have HI := hide (And.intro hi (And.intro hz0 (And.intro hz1 hz2)))
  obtain ⟨A, cap, rfl, hrd, hnc, hcm, hA0, hA1⟩ := own_open h
  have HO := hide h
  have HR := hide hrd
  have Hn := hide hn
  have HA := hide hA0
  have HA1 := hide hA1
  unfold maxLen at hcm
  clear h hrd hn hA0 hA1 hi hz0 hz1 hz2
  go_enter Try.func18, Try.ntmps18
  go_wp2_with fail
  go_loop [5] (fun i => ∃ k : Nat, k ≤ n ∧ i = .int .i64 k ∧ Hid (∀ (j : Nat) (y : Int), j < k → ys[j]? = some y → y < x)) (fun i => n - (intOf i).toNat)
  case atStart => exact ⟨0, by omega, rfl, hide (fun j y hj => absurd hj (by omega))⟩
  case round =>
    obtain ⟨k, hk, rfl, HL⟩ := hrel
    by_cases hlt : k < n
    · obtain ⟨y, hy⟩ : ∃ y, ys[k]? = some y := ⟨_, List.getElem?_eq_getElem (by rw [← Hn.out]; exact hlt)⟩
      obtain ⟨b, off, rfl, hbs, c0⟩ := HR.out.get1 (show (ys.map (Value.int .i64))[k]? = some (.int .i64 y) by simp [hy])
      have Hy := hide hy
      clear hy
      by_cases h1 : y < x
      · have H1 := hide h1
        go_wp2
        go_round
        case rel =>
          refine ⟨k + 1, by omega, by go_num, hide (fun j z hj hz => ?_)⟩
          by_cases hjk : j < k
          · exact HL.out j z hjk hz
          · have : j = k := by omega
            rw [this, Hy.out] at hz
            cases hz
            exact H1.out
        case measure => simp [intOf]; omega
      · have HI2 := hide (putI_eq (x := x) (ys := ys) (k := k) (by have := Hn.out; omega) (fun j z hj hz => HL.out j z hj hz) (fun z hz => by rw [Hy.out] at hz; cases hz; exact h1))
        by_cases h2 : y = x
        · have HF := hide (show putF ys x = ys by rw [putF, HI2.out, if_pos (by rw [Hy.out, h2])])
          have h2' : (y == x) = true := by simpa using h2
          have H2 := hide h2
          clear h2
          go_wp2
          go_ret
          exact ⟨⟨_, rfl, by rw [HF.out, ← Hn.out]; exact HO.out⟩, Below.refl _ _⟩
        · have h2' : (y == x) = false := by simpa using h2
          have H2 := hide h2
          clear h2
          have HF := hide (show putF ys x = ys.take k ++ [x] ++ ys.drop k by rw [putF, HI2.out, if_neg (by rw [Hy.out]; intro e; cases e; exact H2.out rfl)])
          have hO1 : (w.alloc (.cells #[] 3)).ownsRow w.heap.size 3 1 (.slice (some ⟨w.heap.size, 0, none⟩) 0 0) 0 [] := World.ownsRow_made w #[] 0 (Nat.le_refl _) (Nat.zero_le _) rfl
          have HO1 := hide hO1
          clear hO1
          have HN1 := hide (Rd.cellsTo (HR.out.alloc (.cells #[] 3)) k)
          have HL1 := hide (show ((ys.map (Value.int .i64)).take k).length = k * 1 by have := Hn.out; simp; omega)
          go_wp2_with (at_builtin; refine wpList_append_own _ rfl _ _ 23 rfl w.heap.size 3 i0 (.int .i64 0) 1 8 Try.underlying23 HI.out.1 HI.out.2.1 HI.out.2.2.1 HI.out.2.2.2 rfl (by decide) _ _ _ rfl HO1.out ⟨b, off, none⟩ k cap ((ys.map (Value.int .i64)).take k) rfl HL1.out HN1.out (fun u hu => ints_oneCell .i64 ys u (List.mem_of_mem_take hu)) (by unfold maxLen; omega) (by omega) (by simp) ?_)
          intro v1 w1 hown1 hg1 hiff1
          try simp only [Nat.zero_add, List.nil_append] at hown1
          have HB1 := hide ((below_alloc (Below.refl _ w) (.cells #[] 3)).grown hg1 (by simp) (fun g hg => by injection hg with hg; simp at hg; omega))
          clear hg1 hiff1
          have HO2 := hide hown1
          have HO3 := hide (hown1.alloc (.cells #[.int .i64 x] 3))
          have HC3 := hide (show ∀ (j : Nat) (u : Value), [Value.int .i64 x][j]? = some u → (w1.alloc (.cells #[.int .i64 x] 3)).cell? ((⟨w1.heap.size, 0, none⟩ : Addr).add j) = some u from fun j u hu => by rw [Addr.add_lit, Nat.zero_add]; exact (Row.new _ _ _).2.1 j u hu)
          have HS3 := hide (show w.heap.size ≤ (w1.alloc (.cells #[.int .i64 x] 3)).heap.size from Nat.le_trans HB1.out.size (by simp))
          clear hown1
          go_wp2_with (at_builtin; refine wpList_append_own _ rfl _ _ 23 rfl w.heap.size 3 i0 (.int .i64 0) 1 8 Try.underlying23 HI.out.1 HI.out.2.1 HI.out.2.2.1 HI.out.2.2.2 rfl (by decide) _ _ _ rfl HO3.out ⟨w1.heap.size, 0, none⟩ 1 1 [.int .i64 x] rfl rfl HC3.out (by simp [Value.oneCell']) (by unfold maxLen; omega) (by omega) HS3.out ?_)
          intro v2 w2 hown2 hg2 hiff2
          have HB2 := hide ((below_alloc HB1.out (.cells #[.int .i64 x] 3)).grown hg2 HS3.out (fun g hg => (HO2.out.lt g hg).1))
          have HO4 := hide hown2
          clear hown2 hg2 hiff2
          have HN3 := hide (Rd.cellsFrom (HR.out.below HB2.out) k)
          have HL3 := hide (show ((ys.map (Value.int .i64)).drop k).length = (n - k) * 1 by have := Hn.out; simp; omega)
          have HS4 := hide (show w.heap.size ≤ w2.heap.size from HB2.out.size)
          go_wp2_with (at_builtin; refine wpList_append_own _ rfl _ _ 23 rfl w.heap.size 3 i0 (.int .i64 0) 1 8 Try.underlying23 HI.out.1 HI.out.2.1 HI.out.2.2.1 HI.out.2.2.2 rfl (by decide) _ _ _ rfl HO4.out ⟨b, off + k, none⟩ (n - k) (cap - k) ((ys.map (Value.int .i64)).drop k) rfl HL3.out HN3.out (fun u hu => ints_oneCell .i64 ys u (List.mem_of_mem_drop hu)) (by unfold maxLen; omega) (by omega) HS4.out ?_)
          intro v3 w3 hown3 hg3 hiff3
          have HB3 := hide (HB2.out.grown hg3 HS4.out (fun g hg => (HO4.out.lt g hg).1))
          have HO5 := hide hown3
          clear hown3 hg3 hiff3
          go_wp2
          go_ret
          have hlen : (putF ys x).length = k + 1 + (n - k) := by rw [HF.out]; have := Hn.out; simp; omega
          have hmap : (putF ys x).map (Value.int .i64) = (ys.map (Value.int .i64)).take k ++ .int .i64 x :: (ys.map (Value.int .i64)).drop k := by rw [HF.out]; simp
          exact ⟨⟨_, rfl, own_le (by rw [hlen, hmap]; exact HO5.out) hB⟩, HB3.out⟩
    · have hkn : k = n := by omega
      have HI2 := hide (putI_eq (x := x) (ys := ys) (k := k) (by have := Hn.out; omega) (fun j z hj hz => HL.out j z hj hz) (fun z hz => by have := (List.getElem?_eq_some_iff.1 hz).1; have := Hn.out; omega))
      have HF := hide (show putF ys x = ys.take k ++ [x] ++ ys.drop k by rw [putF, HI2.out, if_neg (by intro e; have := (List.getElem?_eq_some_iff.1 e).1; have := Hn.out; omega)])
      subst hkn
      by_cases hcap : cap = k
      · subst hcap
        have hO1 : (w.alloc (.cells #[] 3)).ownsRow w.heap.size 3 1 (.slice (some ⟨w.heap.size, 0, none⟩) 0 0) 0 [] := World.ownsRow_made w #[] 0 (Nat.le_refl _) (Nat.zero_le _) rfl
        have HO1 := hide hO1
        clear hO1
        have HN1 := hide (show ∀ ad, A = some ad → ∀ (j : Nat) (u : Value), (ys.map (Value.int .i64))[j]? = some u → (w.alloc (.cells #[] 3)).cell? (ad.add j) = some u from fun ad hA j u hu => by
          obtain ⟨b, off, sp⟩ := ad
          obtain ⟨rfl, rfl, -, -, -⟩ := HA1.out b off sp hA
          have h := HR.out.alloc (.cells #[] 3)
          rw [hA] at h
          exact h.cellsFrom 0 j u (by simpa using hu))
        have HL1 := hide (show (ys.map (Value.int .i64)).length = cap * 1 by have := Hn.out; simp; omega)
        go_wp2_with (at_builtin; refine wpList_append_any rfl _ _ 23 rfl w.heap.size 3 i0 (.int .i64 0) 1 8 Try.underlying23 HI.out.1 HI.out.2.1 HI.out.2.2.1 HI.out.2.2.2 rfl (by decide) _ _ _ rfl HO1.out A cap cap (ys.map (Value.int .i64)) rfl HL1.out (fun h => ⟨(HA.out h).1, (HA.out h).2.1⟩) HN1.out (ints_oneCell .i64 ys) (by unfold maxLen; omega) (by omega) (by simp) ?_)
        intro v1 w1 hown1 hg1
        try simp only [Nat.zero_add, List.nil_append] at hown1
        have HB1 := hide ((below_alloc (Below.refl _ w) (.cells #[] 3)).grown hg1 (by simp) (fun g hg => by injection hg with hg; simp at hg; omega))
        clear hg1
        have HO2 := hide hown1
        have HO3 := hide (hown1.alloc (.cells #[.int .i64 x] 3))
        have HC3 := hide (show ∀ (j : Nat) (u : Value), [Value.int .i64 x][j]? = some u → (w1.alloc (.cells #[.int .i64 x] 3)).cell? ((⟨w1.heap.size, 0, none⟩ : Addr).add j) = some u from fun j u hu => by rw [Addr.add_lit, Nat.zero_add]; exact (Row.new _ _ _).2.1 j u hu)
        have HS3 := hide (show w.heap.size ≤ (w1.alloc (.cells #[.int .i64 x] 3)).heap.size from Nat.le_trans HB1.out.size (by simp))
        clear hown1
        go_wp2_with (at_builtin; refine wpList_append_own _ rfl _ _ 23 rfl w.heap.size 3 i0 (.int .i64 0) 1 8 Try.underlying23 HI.out.1 HI.out.2.1 HI.out.2.2.1 HI.out.2.2.2 rfl (by decide) _ _ _ rfl HO3.out ⟨w1.heap.size, 0, none⟩ 1 1 [.int .i64 x] rfl rfl HC3.out (by simp [Value.oneCell']) (by unfold maxLen; omega) (by omega) HS3.out ?_)
        intro v2 w2 hown2 hg2 hiff2
        have HB2 := hide ((below_alloc HB1.out (.cells #[.int .i64 x] 3)).grown hg2 HS3.out (fun g hg => (HO2.out.lt g hg).1))
        have HO4 := hide hown2
        clear hown2 hg2 hiff2
        have HS4 := hide (show w.heap.size ≤ w2.heap.size from HB2.out.size)
        go_wp2_with (at_builtin; refine wpList_append_any rfl _ _ 23 rfl w.heap.size 3 i0 (.int .i64 0) 1 8 Try.underlying23 HI.out.1 HI.out.2.1 HI.out.2.2.1 HI.out.2.2.2 rfl (by decide) _ _ _ rfl HO4.out A 0 0 [] rfl rfl (fun _ => ⟨rfl, rfl⟩) (fun ad _ j u hu => by simp at hu) (fun u hu => by simp at hu) (by unfold maxLen; omega) (by omega) HS4.out ?_)
        intro v3 w3 hown3 hg3
        try simp only [Nat.add_zero, List.append_nil] at hown3
        have HB3 := hide (HB2.out.grown hg3 HS4.out (fun g hg => (HO4.out.lt g hg).1))
        have HO5 := hide hown3
        clear hown3 hg3
        go_wp2
        go_ret
        have hlen : (putF ys x).length = cap + 1 := by rw [HF.out]; have := Hn.out; simp; omega
        have hmap : (putF ys x).map (Value.int .i64) = ys.map (Value.int .i64) ++ [.int .i64 x] := by rw [HF.out]; simp [show cap = ys.length from Hn.out]
        exact ⟨⟨_, rfl, own_le (by rw [hlen, hmap]; exact HO5.out) hB⟩, HB3.out⟩
      · have HCP := hide hcap
        have hO1 : (w.alloc (.cells #[] 3)).ownsRow w.heap.size 3 1 (.slice (some ⟨w.heap.size, 0, none⟩) 0 0) 0 [] := World.ownsRow_made w #[] 0 (Nat.le_refl _) (Nat.zero_le _) rfl
        have HO1 := hide hO1
        clear hO1
        have HN1 := hide (show ∀ ad, A = some ad → ∀ (j : Nat) (u : Value), (ys.map (Value.int .i64))[j]? = some u → (w.alloc (.cells #[] 3)).cell? (ad.add j) = some u from fun ad hA j u hu => by
          obtain ⟨b, off, sp⟩ := ad
          obtain ⟨rfl, rfl, -, -, -⟩ := HA1.out b off sp hA
          have h := HR.out.alloc (.cells #[] 3)
          rw [hA] at h
          exact h.cellsFrom 0 j u (by simpa using hu))
        have HL1 := hide (show (ys.map (Value.int .i64)).length = k * 1 by have := Hn.out; simp; omega)
        go_wp2_with (at_builtin; refine wpList_append_any rfl _ _ 23 rfl w.heap.size 3 i0 (.int .i64 0) 1 8 Try.underlying23 HI.out.1 HI.out.2.1 HI.out.2.2.1 HI.out.2.2.2 rfl (by decide) _ _ _ rfl HO1.out A k cap (ys.map (Value.int .i64)) rfl HL1.out (fun h => ⟨(HA.out h).1, (HA.out h).2.1⟩) HN1.out (ints_oneCell .i64 ys) (by unfold maxLen; omega) (by omega) (by simp) ?_)
        intro v1 w1 hown1 hg1
        try simp only [Nat.zero_add, List.nil_append] at hown1
        have HB1 := hide ((below_alloc (Below.refl _ w) (.cells #[] 3)).grown hg1 (by simp) (fun g hg => by injection hg with hg; simp at hg; omega))
        clear hg1
        have HO2 := hide hown1
        have HO3 := hide (hown1.alloc (.cells #[.int .i64 x] 3))
        have HC3 := hide (show ∀ (j : Nat) (u : Value), [Value.int .i64 x][j]? = some u → (w1.alloc (.cells #[.int .i64 x] 3)).cell? ((⟨w1.heap.size, 0, none⟩ : Addr).add j) = some u from fun j u hu => by rw [Addr.add_lit, Nat.zero_add]; exact (Row.new _ _ _).2.1 j u hu)
        have HS3 := hide (show w.heap.size ≤ (w1.alloc (.cells #[.int .i64 x] 3)).heap.size from Nat.le_trans HB1.out.size (by simp))
        clear hown1
        go_wp2_with (at_builtin; refine wpList_append_own _ rfl _ _ 23 rfl w.heap.size 3 i0 (.int .i64 0) 1 8 Try.underlying23 HI.out.1 HI.out.2.1 HI.out.2.2.1 HI.out.2.2.2 rfl (by decide) _ _ _ rfl HO3.out ⟨w1.heap.size, 0, none⟩ 1 1 [.int .i64 x] rfl rfl HC3.out (by simp [Value.oneCell']) (by unfold maxLen; omega) (by omega) HS3.out ?_)
        intro v2 w2 hown2 hg2 hiff2
        have HB2 := hide ((below_alloc HB1.out (.cells #[.int .i64 x] 3)).grown hg2 HS3.out (fun g hg => (HO2.out.lt g hg).1))
        have HO4 := hide hown2
        clear hown2 hg2 hiff2
        have HS4 := hide (show w.heap.size ≤ w2.heap.size from HB2.out.size)
        go_wp2_with (at_builtin; refine wpList_append_any rfl _ _ 23 rfl w.heap.size 3 i0 (.int .i64 0) 1 8 Try.underlying23 HI.out.1 HI.out.2.1 HI.out.2.2.1 HI.out.2.2.2 rfl (by decide) _ _ _ rfl HO4.out (A.map _) 0 (cap - k) [] rfl rfl (fun h => ⟨rfl, by have := (HA.out (by simpa using h)).2.1; omega⟩) (fun ad _ j u hu => by simp at hu) (fun u hu => by simp at hu) (by unfold maxLen; omega) (by omega) HS4.out ?_)
        intro v3 w3 hown3 hg3
        try simp only [Nat.add_zero, List.append_nil] at hown3
        have HB3 := hide (HB2.out.grown hg3 HS4.out (fun g hg => (HO4.out.lt g hg).1))
        have HO5 := hide hown3
        clear hown3 hg3
        go_wp2
        go_ret
        have hlen : (putF ys x).length = k + 1 := by rw [HF.out]; have := Hn.out; simp; omega
        have hmap : (putF ys x).map (Value.int .i64) = ys.map (Value.int .i64) ++ [.int .i64 x] := by rw [HF.out]; simp [show k = ys.length from Hn.out]
        exact ⟨⟨_, rfl, own_le (by rw [hlen, hmap]; exact HO5.out) hB⟩, HB3.out⟩
end Go.Proofs.Ytmmeoabmjbclcaa

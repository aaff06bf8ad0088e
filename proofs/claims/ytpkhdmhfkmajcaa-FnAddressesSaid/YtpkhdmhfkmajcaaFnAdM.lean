/- Addresses: what the drawn law asks, in plain words. -/
import Derived.Test.YtpkhdmhfkmajcaaGapB
import Derived.Test.YtpkhdmhfkmajcaaAsA
import Derived.Test.YtpkhdmhfkmajcaaStrF
namespace Go.Proofs.Ytpkhdmhfkmajcaa
open Go.RowKit
set_option linter.unusedVariables false

/-- A sum along a list, by recursion. -/
def sumR {α : Type} (f : α → Int) : List α → Int
  | [] => 0
  | a :: l => f a + sumR f l
theorem sumR_app {α : Type} (f : α → Int) : ∀ a b : List α, sumR f (a ++ b) = sumR f a + sumR f b
  | [], b => by simp [sumR]
  | x :: a, b => by
    rw [List.cons_append, sumR, sumR, sumR_app f a b]
    omega
theorem fold_sumR {α : Type} (f : α → Int) : ∀ (l : List α) (z : Int), (l.map f).foldl (· + ·) z = z + sumR f l
  | [], z => by simp [sumR]
  | a :: l, z => by
    rw [List.map_cons, List.foldl_cons, fold_sumR f l, sumR]
    omega
theorem sumK_sumR {α : Type} (f : α → Int) (l : List α) (k : Nat) : sumK f l k = sumR f (l.take k) := by
  rw [sumK, fold_sumR]
  omega
theorem sumK_allR {α : Type} (f : α → Int) (l : List α) : sumK f l l.length = sumR f l := by
  rw [sumK_sumR, List.take_length]

theorem strP_road {s : StrT} (h : strP s = true) : roadB s.1 = true ∧ (1 ≤ s.2.1 ∧ s.2.1 ≤ s.2.2.1 ∧ s.2.2.1 ≤ 999) := by
  obtain ⟨s0, s1, s2, s3, s4⟩ := s
  refine ⟨?_, (strP_bd h).1⟩
  simp only [strP, strB, Bool.and_eq_true] at h
  exact h.1.1.1.1.1
theorem findP_no {s : ByteArray} {h : Int} {x : StrT} (hx : x.1.toList = s.toList → h < x.2.1 ∨ x.2.2.1 < h) : findP s h x = false := by
  cases hc : findP s h x with
  | false => rfl
  | true =>
    exfalso
    rw [findP, Bool.and_eq_true, inB_iff] at hc
    have := hx (by simpa using hc.1)
    omega
theorem housesV_bd {l : List StrT} {s : ByteArray} : 0 ≤ housesV l s ∧ housesV l s ≤ 29970 := by
  unfold housesV
  split
  · rename_i h
    rw [Bool.and_eq_true] at h
    have h1 := sumK_bd 999 (houseF_bd (s := s) h.1) l.length
    have h2 := strsB_len h.1
    omega
  · omega
theorem housesV_ok {l : List StrT} {s : ByteArray} (h1 : strsB l = true) (h2 : roadB s = true) : housesV l s = sumR (houseF s) l := by
  rw [housesV, h1, h2]
  exact sumK_allR _ _
/-- A stretch that was added. -/
theorem ad1 {l r : List StrT} {s0 : ByteArray} {s1 s2 s3 s4 : Int} (h : asO l (s0, s1, s2, s3, s4) = some r) :
    (1 ≤ s1 ∧ s1 ≤ s2 ∧ s2 ≤ 999) ∧ s0.size ≤ 10 ∧ strsB r = true ∧ (strsB l && roadB s0) = true ∧ (strsB r && roadB s0) = true ∧ 0 ≤ addrK r s0 s2 ∧ addrV r (addrK r s0 s2) = (s3, s4) ∧ housesV r s0 = housesV l s0 + s2 - s1 + 1 ∧ r.length ≤ 30 ∧ ∀ x ∈ r, x.1.size ≤ 10 := by
  cases hc : strsB l && strP (s0, s1, s2, s3, s4) with
  | false => rw [asO_bad hc] at h; cases h
  | true =>
    rw [asO_ok hc] at h
    rw [Bool.and_eq_true] at hc
    obtain ⟨hl, hp⟩ := hc
    cases hr : strsB (putS l (s0, s1, s2, s3, s4)) with
    | false => rw [hr] at h; cases h
    | true =>
      rw [hr, if_pos rfl] at h
      injection h with h
      obtain ⟨hro, hb⟩ := strP_road hp
      dsimp only at hro hb
      have hin : inB s2 1 999 = true := by rw [inB_iff]; omega
      have hsz : ∀ x : StrT, strP x = true → x.1.size ≤ 10 := fun x hx => by
        have := (strP_road hx).1
        rw [roadB, Bool.and_eq_true, inB_iff] at this
        omega
      have hat : r[(l.takeWhile (befB (s0, s1, s2, s3, s4))).length]? = some (s0, s1, s2, s3, s4) := by
        rw [← h, putS, List.append_assoc, List.getElem?_append_right (Nat.le_refl _)]
        simp
      rw [h] at hr
      have hf : findI (findP s0 s2) r = ((l.takeWhile (befB (s0, s1, s2, s3, s4))).length : Nat) := by
        refine findI_at hat (by simp [findP, inB]; omega) (fun i b hi hb2 => findP_no (fun e => ?_))
        generalize (l.takeWhile (befB (s0, s1, s2, s3, s4))).length = p at *
        have := lows hr (p - i - 1) i b _ hb2 (by rw [show i + (p - i - 1) + 1 = p by omega]; exact hat) e
        dsimp only at this
        omega
      have ha : addrK r s0 s2 = ((l.takeWhile (befB (s0, s1, s2, s3, s4))).length : Nat) := by
        rw [addrK, if_pos (by rw [hr, hro, hin]; rfl), hf]
      refine ⟨hb, hsz _ hp, hr, by rw [hl, hro]; rfl, by rw [hr, hro]; rfl, by rw [ha]; omega, ?_, ?_, strsB_len hr, fun x hx => hsz x (strsB_elem hr hx)⟩
      · rw [ha, addrV, if_neg (by omega), Int.toNat_natCast, hat]
      · rw [housesV_ok hr hro, housesV_ok hl hro, ← h, putS, sumR_app, sumR_app]
        have e := congrArg (sumR (houseF s0)) (List.takeWhile_append_dropWhile (p := befB (s0, s1, s2, s3, s4)) (l := l))
        rw [sumR_app] at e
        have e2 : sumR (houseF s0) [(s0, s1, s2, s3, s4)] = s2 - s1 + 1 := by simp [sumR, houseF]
        omega
/-- A house that was removed. -/
theorem ad2 {l r : List StrT} {s : ByteArray} {h : Int} (ho : rhO l s h = some r) :
    0 ≤ addrK l s h ∧ strsB r = true ∧ (strsB l && roadB s) = true ∧ (strsB r && roadB s) = true ∧ addrK r s h = -1 ∧ housesV r s = housesV l s - 1 ∧ r.length ≤ 30 ∧ ∀ x ∈ r, x.1.size ≤ 10 := by
  cases hv : strsB l && roadB s && inB h 1 999 with
  | false => rw [rhO_bad hv] at ho; cases ho
  | true =>
    rcases findI_cases (findP s h) l with hf | ⟨k, x, hf, hx, hp⟩
    · rw [rhO_lost (by omega)] at ho; cases ho
    · rw [rhO_at hv hf hx] at ho
      rw [Bool.and_eq_true, Bool.and_eq_true] at hv
      obtain ⟨⟨hl, hs⟩, hh⟩ := hv
      cases hr : strsB (rhN l k x h) with
      | false => rw [hr] at ho; cases ho
      | true =>
        rw [hr, if_pos rfl] at ho
        injection ho with ho
        rw [ho] at hr
        rw [findP, Bool.and_eq_true, inB_iff] at hp
        obtain ⟨hp0, hp1⟩ := hp
        have hxs : x.1.toList = s.toList := by simpa using hp0
        have ha : addrK l s h = (k : Nat) := by rw [addrK, if_pos (by rw [hl, hs, hh]; rfl), hf]
        have hsz : ∀ x : StrT, strP x = true → x.1.size ≤ 10 := fun x hx => by
          have := (strP_road hx).1
          rw [roadB, Bool.and_eq_true, inB_iff] at this
          omega
        have hno : findI (findP s h) r = -1 := by
          refine findI_none (fun i y hy => findP_no (fun e => ?_))
          have hm := List.mem_of_getElem? hy
          rw [← ho] at hm
          simp only [rhN, List.mem_append] at hm
          rcases hm with ((hm | hm) | hm) | hm
          · obtain ⟨j, hj⟩ := List.mem_iff_getElem?.1 hm
            have hjk : j < k := by
              have := (List.getElem?_eq_some_iff.1 hj).1
              rw [List.length_take] at this
              omega
            rw [List.getElem?_take_of_lt hjk] at hj
            have := lows hl (k - j - 1) j y x hj (by rw [show j + (k - j - 1) + 1 = k by omega]; exact hx) (by rw [e, hxs])
            omega
          · unfold belowL at hm
            split at hm
            · simp at hm; subst hm; simp [belowS]; omega
            · simp at hm
          · unfold aboveL at hm
            split at hm
            · simp at hm; subst hm; simp [aboveS]; omega
            · simp at hm
          · obtain ⟨j, hj⟩ := List.mem_iff_getElem?.1 hm
            rw [List.getElem?_drop] at hj
            have := lows hl j k x y hx (by rw [show k + j + 1 = k + 1 + j by omega]; exact hj) (by rw [e, hxs])
            omega
        refine ⟨by rw [ha]; omega, hr, by rw [hl, hs]; rfl, by rw [hr, hs]; rfl, by rw [addrK, if_pos (by rw [hr, hs, hh]; rfl), hno], ?_, strsB_len hr, fun x hx => hsz x (strsB_elem hr hx)⟩
        rw [housesV_ok hr hs, housesV_ok hl hs, ← ho, rhN, sumR_app, sumR_app, sumR_app]
        have hk := (List.getElem?_eq_some_iff.1 hx).1
        have e := congrArg (sumR (houseF s)) (List.take_append_drop k l)
        rw [sumR_app, List.drop_eq_getElem_cons hk, sumR] at e
        have hxe : l[k] = x := (List.getElem?_eq_some_iff.1 hx).2
        rw [hxe] at e
        have f0 : houseF s x = x.2.2.1 - x.2.1 + 1 := by rw [houseF, if_pos hp0]
        have f1 : sumR (houseF s) (belowL x h) = h - x.2.1 := by
          unfold belowL
          split
          · simp [sumR, houseF, belowS, hxs]; omega
          · simp [sumR]; omega
        have f2 : sumR (houseF s) (aboveL x h) = x.2.2.1 - h := by
          unfold aboveL
          split
          · simp [sumR, houseF, aboveS, hxs]; omega
          · simp [sumR]; omega
        omega
/-- The road's first house, its last house, in the first k stretches. -/
def lowK (l : List StrT) (s : ByteArray) : Nat → Int
  | 0 => 999
  | k + 1 => match l[k]? with
    | some x => if (x.1.toList == s.toList) = true then (if x.2.1 < lowK l s k then x.2.1 else lowK l s k) else lowK l s k
    | none => lowK l s k
def highK (l : List StrT) (s : ByteArray) : Nat → Int
  | 0 => 1
  | k + 1 => match l[k]? with
    | some x => if (x.1.toList == s.toList) = true then (if highK l s k < x.2.2.1 then x.2.2.1 else highK l s k) else highK l s k
    | none => highK l s k
def gapF (p : Int × Int) : Int := p.2 - p.1 + 1
theorem low_no {l : List StrT} {s : ByteArray} {k : Nat} {x : StrT} (hx : l[k]? = some x) (h : (x.1.toList == s.toList) = false) : lowK l s (k + 1) = lowK l s k ∧ highK l s (k + 1) = highK l s k := by
  rw [lowK, highK, hx]
  dsimp only
  rw [h]
  exact ⟨rfl, rfl⟩
theorem low_yes {l : List StrT} {s : ByteArray} {k : Nat} {x : StrT} (hx : l[k]? = some x) (h : (x.1.toList == s.toList) = true) : lowK l s (k + 1) = (if x.2.1 < lowK l s k then x.2.1 else lowK l s k) ∧ highK l s (k + 1) = (if highK l s k < x.2.2.1 then x.2.2.1 else highK l s k) := by
  rw [lowK, highK, hx]
  dsimp only
  rw [h]
  exact ⟨rfl, rfl⟩
theorem low_bd {l : List StrT} (h : strsB l = true) (s : ByteArray) : ∀ k, (1 ≤ lowK l s k ∧ lowK l s k ≤ 999) ∧ 1 ≤ highK l s k ∧ highK l s k ≤ 999
  | 0 => by simp [lowK, highK]
  | k + 1 => by
    have ih := low_bd h s k
    cases hk : l[k]? with
    | none => rw [lowK, highK, hk]; exact ih
    | some x =>
      have hb := elem_bd h hk
      cases hc : (x.1.toList == s.toList) with
      | false => rw [(low_no hk hc).1, (low_no hk hc).2]; exact ih
      | true =>
        rw [(low_yes hk hc).1, (low_yes hk hc).2]
        constructor <;> split <;> omega
/-- What holds of the first k stretches. -/
def GapInv (l : List StrT) (s : ByteArray) (k : Nat) : Prop :=
  ((∀ (i : Nat) (x : StrT), i < k → l[i]? = some x → (x.1.toList == s.toList) = false) ∧ sumK (houseF s) l k = 0 ∧ sumR gapF (gapsK l s k) = 0 ∧ lowK l s k = 999 ∧ highK l s k = 1) ∨
  (∃ (j : Nat) (x : StrT), k = j + 1 ∧ l[j]? = some x ∧ sumK (houseF s) l k + sumR gapF (gapsK l s k) = highK l s k - lowK l s k + 1 ∧ lowK l s k ≤ highK l s k ∧ ((x.1.toList = s.toList ∧ highK l s k = x.2.2.1) ∨ s.toList < x.1.toList))
theorem gapInv {l : List StrT} (h : strsB l = true) (s : ByteArray) : ∀ k, k ≤ l.length → GapInv l s k
  | 0, _ => .inl ⟨fun i x hi => absurd hi (by omega), by simp [sumK], by simp [gapsK_zero, sumR], rfl, rfl⟩
  | k + 1, hk => by
    obtain ⟨a, ha⟩ : ∃ a, l[k]? = some a := ⟨_, List.getElem?_eq_getElem (by omega)⟩
    have hab := elem_bd h ha
    have hS := sumK_succ (f := houseF s) ha
    have hG : sumR gapF (gapsK l s (k + 1)) = sumR gapF (gapsK l s k) + sumR gapF (gapAt l s k) := by rw [gapsK_succ, sumR_app]
    rcases gapInv h s k (by omega) with ⟨h1, h2, h3, h4, h5⟩ | ⟨j, x, rfl, hx, h3, h4, h5⟩
    · have hno : gapAt l s k = [] := by
        cases k with
        | zero => rfl
        | succ j =>
          obtain ⟨x, hx⟩ : ∃ a, l[j]? = some a := ⟨_, List.getElem?_eq_getElem (by omega)⟩
          exact gapAt_no hx ha (by rw [h1 j x (by omega) hx]; rfl)
      rw [hno] at hG
      simp only [sumR] at hG
      cases hc : (a.1.toList == s.toList) with
      | false =>
        left
        obtain ⟨e1, e2⟩ := low_no ha hc
        have e3 : houseF s a = 0 := by rw [houseF, hc]; rfl
        refine ⟨fun i x hi hx => ?_, by omega, by omega, by omega, by omega⟩
        by_cases hik : i < k
        · exact h1 i x hik hx
        · rw [show i = k by omega, ha] at hx
          injection hx with hx
          rw [← hx]
          exact hc
      | true =>
        right
        obtain ⟨e1, e2⟩ := low_yes ha hc
        have e3 : houseF s a = a.2.2.1 - a.2.1 + 1 := by rw [houseF, if_pos hc]
        rw [h4] at e1
        rw [h5] at e2
        have e4 : lowK l s (k + 1) = a.2.1 := by rw [e1]; split <;> omega
        have e5 : highK l s (k + 1) = a.2.2.1 := by rw [e2]; split <;> omega
        exact ⟨k, a, rfl, ha, by omega, by omega, .inl ⟨by simpa using hc, e5⟩⟩
    · right
      rcases h5 with ⟨h5, h6⟩ | h5
      · cases hc : (a.1.toList == s.toList) with
        | false =>
          obtain ⟨e1, e2⟩ := low_no ha hc
          have e3 : houseF s a = 0 := by rw [houseF, hc]; rfl
          rw [gapAt_no hx ha (by rw [hc]; simp)] at hG
          simp only [sumR] at hG
          refine ⟨j + 1, a, rfl, ha, by omega, by omega, .inr ?_⟩
          rcases names_le h 1 j x a hx ha with hn | hn
          · rw [← h5]; exact hn
          · rw [← hn, h5] at hc; simp at hc
        | true =>
          have hc2 : a.1.toList = s.toList := by simpa using hc
          have hlt := strR_same (chainB_next (strsB_chain h) ha hx) (by rw [h5, hc2])
          obtain ⟨e1, e2⟩ := low_yes ha hc
          have e3 : houseF s a = a.2.2.1 - a.2.1 + 1 := by rw [houseF, if_pos hc]
          have e4 : lowK l s (j + 1 + 1) = lowK l s (j + 1) := by rw [e1]; split <;> omega
          have e5 : highK l s (j + 1 + 1) = a.2.2.1 := by rw [e2]; split <;> omega
          have hgap : sumR gapF (gapAt l s (j + 1)) = a.2.1 - x.2.2.1 - 1 := by
            by_cases hg : x.2.2.1 + 1 < a.2.1
            · rw [gapAt_yes hx ha (by rw [hc, h5]; simp [hg])]
              simp [sumR, gapF]
              omega
            · rw [gapAt_no hx ha (by simp [hg])]
              simp [sumR]
              omega
          exact ⟨j + 1, a, rfl, ha, by omega, by omega, .inl ⟨hc2, e5⟩⟩
      · have hlt : s.toList < a.1.toList := by
          rcases names_le h 1 j x a hx ha with hn | hn
          · exact List.lt_trans h5 hn
          · rw [← hn]; exact h5
        have hc : (a.1.toList == s.toList) = false := by
          cases hc : (a.1.toList == s.toList) with
          | false => rfl
          | true =>
            have : a.1.toList = s.toList := by simpa using hc
            rw [this] at hlt
            exact absurd hlt (List.lt_irrefl _)
        obtain ⟨e1, e2⟩ := low_no ha hc
        have e3 : houseF s a = 0 := by rw [houseF, hc]; rfl
        rw [gapAt_no hx ha (by rw [hc]; simp)] at hG
        simp only [sumR] at hG
        exact ⟨j + 1, a, rfl, ha, by omega, by omega, .inr hlt⟩
/-- One gap. -/
theorem gap_in {l : List StrT} {s : ByteArray} : ∀ (k : Nat) (p : Int × Int), p ∈ gapsK l s k → ∃ (j : Nat) (x y : StrT), l[j]? = some x ∧ l[j + 1]? = some y ∧ x.1.toList = s.toList ∧ y.1.toList = s.toList ∧ p.1 = x.2.2.1 + 1 ∧ p.2 = y.2.1 - 1 ∧ x.2.2.1 + 1 < y.2.1
  | 0, p, hp => by simp [gapsK_zero] at hp
  | k + 1, p, hp => by
    rw [gapsK_succ, List.mem_append] at hp
    rcases hp with hp | hp
    · exact gap_in k p hp
    · cases k with
      | zero => simp [gapAt] at hp
      | succ j =>
        cases hx : l[j]? with
        | none => simp [gapAt, hx] at hp
        | some x =>
          cases hy : l[j + 1]? with
          | none => simp [gapAt, hx, hy] at hp
          | some y =>
            cases hc : (x.1.toList == s.toList) && (y.1.toList == s.toList) && decide (x.2.2.1 + 1 < y.2.1) with
            | false => rw [gapAt_no hx hy hc] at hp; simp at hp
            | true =>
              rw [gapAt_yes hx hy hc] at hp
              simp at hp hc
              exact ⟨j, x, y, hx, hy, hc.1.1, hc.1.2, by rw [hp], by rw [hp], hc.2⟩
theorem ad3 {l : List StrT} {s : ByteArray} (hok : gapsOk l s = true) {p : Int × Int} (hp : p ∈ gapsL l s) : addrK l s p.1 = -1 ∧ 1 ≤ p.1 ∧ p.1 ≤ p.2 ∧ p.2 ≤ 999 := by
  rw [gapsL, if_pos hok] at hp
  rw [gapsOk, Bool.and_eq_true] at hok
  obtain ⟨j, x, y, hx, hy, e1, e2, e3, e4, e5⟩ := gap_in _ _ hp
  have hxb := elem_bd hok.1 hx
  have hyb := elem_bd hok.1 hy
  refine ⟨?_, by omega, by omega, by omega⟩
  unfold addrK
  split
  · refine findI_none (fun i z hz => findP_no (fun e => ?_))
    have hzb := elem_bd hok.1 hz
    rcases Nat.lt_trichotomy i j with hi | hi | hi
    · have := lows hok.1 (j - i - 1) i z x hz (by rw [show i + (j - i - 1) + 1 = j by omega]; exact hx) (by rw [e, e1])
      omega
    · rw [hi, hx] at hz
      injection hz with hz
      subst hz
      omega
    · by_cases hi2 : i = j + 1
      · rw [hi2, hy] at hz
        injection hz with hz
        subst hz
        omega
      · have := lows hok.1 (i - (j + 1) - 1) (j + 1) y z hy (by rw [show j + 1 + (i - (j + 1) - 1) + 1 = i by omega]; exact hz) (by rw [e, e2])
        omega
  · rfl
theorem ad4 {l : List StrT} {s : ByteArray} (hok : gapsOk l s = true) (h0 : 0 < housesV l s) : housesV l s + sumK gapF (gapsL l s) (gapsL l s).length = highK l s l.length - lowK l s l.length + 1 := by
  rw [gapsL, if_pos hok, sumK_allR]
  rw [gapsOk, Bool.and_eq_true] at hok
  have e : housesV l s = sumK (houseF s) l l.length := by rw [housesV, hok.1, hok.2]; rfl
  rw [e] at h0 ⊢
  rcases gapInv hok.1 s l.length (Nat.le_refl _) with ⟨-, h2, -⟩ | ⟨j, x, -, -, h3, -⟩
  · omega
  · exact h3
theorem ad5 {l : List StrT} {s : ByteArray} (hok : gapsOk l s = true) : (gapsL l s).length ≤ 30 ∧ ∀ k, 0 ≤ sumK gapF (gapsL l s) k ∧ sumK gapF (gapsL l s) k ≤ k * 999 := by
  refine ⟨?_, fun k => sumK_bd 999 (fun p hp => ?_) k⟩
  · rw [gapsL, if_pos hok]
    rw [gapsOk, Bool.and_eq_true] at hok
    have h1 := gapsK_len l s l.length
    have h2 := strsB_len hok.1
    omega
  · have := (ad3 hok hp).2
    unfold gapF
    omega
theorem gaps_len (l : List StrT) (s : ByteArray) : (gapsL l s).length ≤ 30 := by
  cases h : gapsOk l s with
  | false => rw [gapsL, h]; simp
  | true => exact (ad5 h).1
theorem maxK_ge {α : Type} {f : α → Int} {l : List α} {i : Nat} {a : α} (ha : l[i]? = some a) : ∀ k, i < k → f a ≤ maxK f l k
  | 0, hk => by omega
  | k + 1, hk => by
    cases hx : l[k]? with
    | none =>
      have : i < l.length := (List.getElem?_eq_some_iff.1 ha).1
      have : l.length ≤ k := List.getElem?_eq_none_iff.1 hx
      have e : maxK f l (k + 1) = maxK f l k := by simp [maxK, List.take_add_one, hx]
      rw [e]
      exact maxK_ge ha k (by omega)
    | some b =>
      rw [maxK_succ hx]
      by_cases hik : i = k
      · subst hik
        rw [ha] at hx
        injection hx with hx
        subst hx
        omega
      · have := maxK_ge (f := f) ha k (by omega)
        omega
/-- The highest risk is the highest. -/
theorem ad6 {l : List StrT} {n : Int} (ho : (strsB l && inB n 0 13) = true) {i : Nat} {x : StrT} (hx : l[i]? = some x) (hn : x.2.2.2.1 = n) : x.2.2.2.2 ≤ riskV l n := by
  rw [riskV, if_pos ho]
  have := maxK_ge (f := riskF n) hx l.length (List.getElem?_eq_some_iff.1 hx).1
  rw [riskF, if_pos hn] at this
  exact this
end Go.Proofs.Ytpkhdmhfkmajcaa

/- RouteTime: plain words, small calls. -/
import Derived.Test.YtbkhejkncmgdeaaTownNf
namespace Go.Proofs.Ytbkhejkncmgdeaa
open Go.RowKit
set_option linter.unusedVariables false

def hasB (L : List Int) (x : Int) : Bool := L.any fun y => decide (y = x)
def rtK (k : Nat) (l : List (Int × Int × Int)) (R : List Int) : Nat → Option Int
  | 0 => some 0
  | m + 1 => match rtK k l R m, R[m]? with
    | some s, some x => if nodeB k x && !hasB (R.take m) x then
        (match m with
          | 0 => some s
          | j + 1 => if stFind l (R.getD j 0) x < 0 then none else some (s + secOf l (stFind l (R.getD j 0) x)))
        else none
    | _, _ => none
section
variable {k : Nat} {l : List (Int × Int × Int)} {R : List Int}
theorem rtK_none {m : Nat} (h : rtK k l R m = none) : ∀ m', m ≤ m' → rtK k l R m' = none := by
  intro m' hm
  induction m' with
  | zero => rw [show m = 0 by omega] at h; exact h
  | succ m' ih =>
    by_cases e : m = m' + 1
    · rw [← e]; exact h
    · have := ih (by omega)
      simp only [rtK, this]
theorem rtK_bad {m : Nat} {x : Int} (hx : R[m]? = some x) (h : nodeB k x = false ∨ hasB (R.take m) x = true) : rtK k l R (m + 1) = none := by
  simp only [rtK, hx]
  cases rtK k l R m with
  | none => rfl
  | some s => simp only; rw [if_neg]; rcases h with h | h <;> simp [h]
theorem rtK_first {s x : Int} (h : rtK k l R 0 = some s) (hx : R[0]? = some x) (hn : nodeB k x = true) : rtK k l R 1 = some s := by
  simp only [rtK, hx]
  simp only [rtK] at h
  cases h
  rw [if_pos (by simp [hn, hasB])]
theorem rtK_no {m : Nat} {x : Int} (hx : R[m + 1]? = some x) (hs : stFind l (R.getD m 0) x < 0) : rtK k l R (m + 1 + 1) = none := by
  rw [rtK, hx]
  cases rtK k l R (m + 1) with
  | none => rfl
  | some s =>
    simp only
    split
    · first | rfl | rw [if_pos hs]
    · rfl
theorem rtK_go {m : Nat} {x s : Int} (h : rtK k l R (m + 1) = some s) (hx : R[m + 1]? = some x) (hn : nodeB k x = true) (hh : hasB (R.take (m + 1)) x = false) (hs : ¬ stFind l (R.getD m 0) x < 0) : rtK k l R (m + 1 + 1) = some (s + secOf l (stFind l (R.getD m 0) x)) := by
  rw [rtK, h, hx]
  simp only
  rw [if_pos (by simp [hn, hh]), if_neg hs]
theorem secOf_bd {nd : Nat} (h : Fits nd l) (q : Int) : 0 ≤ secOf l q ∧ secOf l q ≤ 3600 := by
  unfold secOf
  split
  · rename_i t ht
    have := fitB_iff.1 (h t (List.mem_of_getElem? ht))
    omega
  · omega
theorem rtK_bd {nd : Nat} (hf : Fits nd l) : ∀ m s, rtK k l R m = some s → 0 ≤ s ∧ s ≤ 3600 * m
  | 0, s, h => by simp only [rtK] at h; cases h; omega
  | m + 1, s, h => by
    rw [rtK] at h
    cases hr : rtK k l R m with
    | none => rw [hr] at h; cases h
    | some s' =>
      have ih := rtK_bd hf m s' hr
      cases hx : R[m]? with
      | none => rw [hr, hx] at h; cases h
      | some x =>
        rw [hr, hx] at h
        simp only at h
        split at h
        · cases m with
          | zero => simp only at h; cases h; omega
          | succ j =>
            simp only at h
            split at h
            · cases h
            · cases h
              have := secOf_bd hf (stFind l (R.getD j 0) x)
              omega
        · cases h
theorem rtK_all : ∀ m s, m ≤ R.length → rtK k l R m = some s → (R.take m).all (nodeB k) = true
  | 0, s, _, _ => by simp
  | m + 1, s, hm, h => by
    obtain ⟨x, hx⟩ : ∃ x, R[m]? = some x := ⟨_, List.getElem?_eq_getElem (by omega)⟩
    cases hn : nodeB k x with
    | false => rw [rtK_bad hx (.inl hn)] at h; cases h
    | true =>
      cases hr : rtK k l R m with
      | none => rw [rtK_none hr (m + 1) (by omega)] at h; cases h
      | some s' => exact all_take_succ _ hx (rtK_all m s' (by omega) hr) hn
end
def rtP (nd : Int) (l : List (Int × Int × Int)) (R : List Int) : Bool := townB nd l && inB R.length 1 14
def rtR (nd : Int) (l : List (Int × Int × Int)) (R : List Int) : Option Int := if rtP nd l R then rtK nd.toNat l R R.length else none
def rtV (nd : Int) (l : List (Int × Int × Int)) (R : List Int) : Int := (rtR nd l R).getD 0
def rtOk (nd : Int) (l : List (Int × Int × Int)) (R : List Int) : Bool := (rtR nd l R).isSome
theorem rt_none {nd : Int} {l : List (Int × Int × Int)} {R : List Int} (h : rtR nd l R = none) : rtV nd l R = 0 ∧ rtOk nd l R = false := by rw [rtV, rtOk, h]; exact ⟨rfl, rfl⟩
theorem rt_no {nd : Int} {l : List (Int × Int × Int)} {R : List Int} (h : rtP nd l R = false) : rtV nd l R = 0 ∧ rtOk nd l R = false := rt_none (by rw [rtR, h]; rfl)
theorem rt_some {nd s : Int} {l : List (Int × Int × Int)} {R : List Int} (h : rtR nd l R = some s) : rtV nd l R = s ∧ rtOk nd l R = true := by rw [rtV, rtOk, h]; exact ⟨rfl, rfl⟩

theorem hasB_find {L : List Int} {x : Int} : decide (0 ≤ findI (fun y => decide (y = x)) L) = hasB L x := by
  rcases findI_cases (fun y => decide (y = x)) L with h | ⟨k, a, h, hk, hp⟩
  · rw [h]
    unfold findI at h
    cases hf : L.findIdx? (fun y => decide (y = x)) with
    | some q => rw [hf] at h; simp at h
    | none =>
      rw [List.findIdx?_eq_none_iff] at hf
      have : hasB L x = false := by
        rw [hasB, List.any_eq_false]
        intro y hy
        simpa using hf y hy
      rw [this]; rfl
  · rw [h]
    have : hasB L x = true := by rw [hasB, List.any_eq_true]; exact ⟨a, List.mem_of_getElem? hk, hp⟩
    rw [this]; simp
theorem hasB_at {L : List Int} {x : Int} {k : Nat} {y : Int} (h : L[k]? = some y) (e : y = x) : hasB L x = true := by
  rw [hasB, List.any_eq_true]
  exact ⟨y, List.mem_of_getElem? h, by simpa using e⟩
theorem hasB_none {L : List Int} {x : Int} (h : ∀ (i : Nat) (y : Int), L[i]? = some y → ¬ y = x) : hasB L x = false := by
  rw [hasB, List.any_eq_false]
  intro y hy
  obtain ⟨i, hi⟩ := List.mem_iff_getElem?.1 hy
  simpa using h i y hi

set_option maxHeartbeats 1000000 in
theorem l1Has_any (A : Option Addr) (n c : Nat) (L : List Int) (x : Int) (w : World) (hn : n = L.length) (hm : n ≤ 1048576) (hr : Rd w A (L.map (Value.int .i64))) :
    Calls Try.prog 58 #[.slice A n c, .int .i64 x] w fun e w' => e = .returned (.bool (hasB L x)) ∧ w = w' := by
  have Hn := hide hn
  have Hr := hide hr
  clear hn hr
  go_enter Try.func58, Try.ntmps58
  go_wp2_with fail
  go_loop [9] (fun t => ∃ k : Nat, k ≤ n ∧ t = .int .i64 k ∧ Hid (∀ (i : Nat) (y : Int), i < k → L[i]? = some y → ¬ y = x)) (fun t => n - (intOf t).toNat)
  case atStart => exact ⟨0, by omega, rfl, hide (fun i y hi => absurd hi (by omega))⟩
  case round =>
    obtain ⟨k, hk, rfl, HA⟩ := hrel
    by_cases hlt : k < n
    · obtain ⟨y, hy⟩ : ∃ y, L[k]? = some y := ⟨_, List.getElem?_eq_getElem (by rw [← Hn.out]; exact hlt)⟩
      obtain ⟨b', off, rfl, hbs, c0⟩ := Hr.out.get1 (k := k) (u := .int .i64 y) (by simp [hy])
      have Hy := hide hy
      clear hy
      by_cases hxy : y = x
      · have g : (y == x) = true := by simpa using hxy
        have HF : Hid (hasB L x = true) := hide (hasB_at Hy.out hxy)
        clear hxy
        go_wp2
        go_ret
        exact ⟨ret_bool HF.out.symm, rfl⟩
      · have g : (y == x) = false := by simpa using hxy
        have HN : Hid (∀ (i : Nat) (z : Int), i < k + 1 → L[i]? = some z → ¬ z = x) := hide (fun i z hi hz => by
          by_cases hi2 : i < k
          · exact HA.out i z hi2 hz
          · have hik : i = k := by omega
            rw [hik, Hy.out] at hz
            cases hz
            exact hxy)
        clear hxy
        go_wp2
        go_round
        case rel => exact ⟨k + 1, by omega, by go_num, HN⟩
        case measure => simp [intOf]; omega
    · go_wp2
      go_ret
      exact ⟨ret_bool (hasB_none (fun i y hy => HA.out i y (by have := (List.getElem?_eq_some_iff.1 hy).1; have := Hn.out; omega) hy)).symm, rfl⟩

set_option maxHeartbeats 1000000 in
theorem idxInt_any (A : Option Addr) (n c : Nat) (L : List Int) (x : Int) (w : World) (hn : n = L.length) (hm : n ≤ 1048576) (hr : Rd w A (L.map (Value.int .i64))) :
    Calls Try.prog 75 #[.slice A n c, .int .i64 x] w fun e w' => e = .returned (.int .i64 (findI (fun y => decide (y = x)) L)) ∧ w = w' := by
  have Hn := hide hn
  have Hr := hide hr
  clear hn hr
  go_enter Try.func75, Try.ntmps75
  go_wp2_with fail
  go_loop [8] (fun t => ∃ k : Nat, k ≤ n ∧ t = .int .i64 k ∧ Hid (∀ (i : Nat) (y : Int), i < k → L[i]? = some y → decide (y = x) = false)) (fun t => n - (intOf t).toNat)
  case atStart => exact ⟨0, by omega, rfl, hide (fun i y hi => absurd hi (by omega))⟩
  case round =>
    obtain ⟨k, hk, rfl, HA⟩ := hrel
    by_cases hlt : k < n
    · obtain ⟨y, hy⟩ : ∃ y, L[k]? = some y := ⟨_, List.getElem?_eq_getElem (by rw [← Hn.out]; exact hlt)⟩
      obtain ⟨b', off, rfl, hbs, c0⟩ := Hr.out.get1 (k := k) (u := .int .i64 y) (by simp [hy])
      have Hy := hide hy
      clear hy
      by_cases hxy : y = x
      · have g : (x == y) = true := by simpa using hxy.symm
        have HF : Hid (findI (fun y => decide (y = x)) L = (k : Nat)) := hide (findI_at Hy.out (by simpa using hxy) (fun i b hi hb => HA.out i b hi hb))
        clear hxy
        go_wp2
        go_ret
        exact ⟨ret_int HF.out.symm, rfl⟩
      · have g : (x == y) = false := by simpa using fun e => hxy e.symm
        have HN : Hid (∀ (i : Nat) (z : Int), i < k + 1 → L[i]? = some z → decide (z = x) = false) := hide (fun i z hi hz => by
          by_cases hi2 : i < k
          · exact HA.out i z hi2 hz
          · have hik : i = k := by omega
            rw [hik, Hy.out] at hz
            cases hz
            simpa using hxy)
        clear hxy
        go_wp2
        go_round
        case rel => exact ⟨k + 1, by omega, by go_num, HN⟩
        case measure => simp [intOf]; omega
    · go_wp2
      go_ret
      exact ⟨ret_int (findI_none (fun i y hy => HA.out i y (by have := (List.getElem?_eq_some_iff.1 hy).1; have := Hn.out; omega) hy)).symm, rfl⟩

set_option maxHeartbeats 1000000 in
theorem hasInt_any (A : Option Addr) (n c : Nat) (L : List Int) (x : Int) (w : World) (hn : n = L.length) (hm : n ≤ 1048576) (hr : Rd w A (L.map (Value.int .i64))) :
    Calls Try.prog 68 #[.slice A n c, .int .i64 x] w fun e w' => e = .returned (.bool (hasB L x)) ∧ w = w' := by
  have Q := hide (idxInt_any A n c L x w hn hm hr)
  have HE := hide (hasB_find (L := L) (x := x))
  clear hn hr
  go_enter Try.func68, Try.ntmps68
  go_wp2_with (go_at_call 75; ((with_reducible refine (Q.out).mono ?_); rintro e w' ⟨rfl, rfl⟩))
  go_ret
  exact ⟨ret_bool HE.out, rfl⟩

theorem sec_at {l : List (Int × Int × Int)} {q : Nat} {t : Int × Int × Int} (h : l[q]? = some t) : secOf l (q : Int) = t.2.2 := by simp [secOf, h]
theorem getD_at {R : List Int} {m : Nat} {x : Int} (h : R[m]? = some x) : R.getD m 0 = x := by simp [List.getD, h]

set_option maxRecDepth 100000 in
set_option maxHeartbeats 4000000 in
theorem routeTime_any (b0 k n c : Nat) (A : Option Addr) (l : List (Int × Int × Int)) (A2 : Option Addr) (n2 c2 : Nat) (R : List Int) (w : World) (hn : n = l.length) (hk : TownOk k l) (hr : Rd w A (l.flatMap tcells)) (hc0 : w.cell? ⟨b0, 0, none⟩ = some (.int .i64 (k : Int))) (hc1 : w.cell? ⟨b0, 1, none⟩ = some (.slice A n c)) (hn2 : n2 = R.length) (hm2 : n2 ≤ 1048576) (hnc2 : n2 ≤ c2) (hc2 : c2 ≤ maxLen) (hr2 : Rd w A2 (R.map (Value.int .i64))) (ht : townB k l = true) :
    Calls Try.prog 51 #[.pointer (some ⟨b0, 0, none⟩), .slice A2 n2 c2] w fun e w' => e = .returned (.tuple #[.int .i64 (rtV k l R), .bool (rtOk k l R)]) ∧ Below w.heap.size w w' := by
  have Hn := hide hn
  have Hr := hide hr
  have Hn2 := hide hn2
  have Hr2 := hide hr2
  have HC0 := hide hc0
  have HC1 := hide hc1
  have HK := hide hk
  have HT := hide ht
  have h1 := hk.lo
  have h2 := hk.hi
  have hb0 := World.block_lt_of_cell? w _ hc0
  dsimp only at hb0
  unfold maxLen at hc2
  have q14 := inside_any (n2 : Int) 1 14 w
  clear hn hr hn2 hr2 hk ht hc0 hc1
  cases h14 : inB n2 1 14 with
  | false =>
    have HN := hide (rt_no (nd := k) (l := l) (R := R) (by rw [rtP, ← Hn2.out, h14, Bool.and_false]))
    rw [h14] at q14
    clear h14
    go_enter Try.func51, Try.ntmps51
    go_wp2_with (go_at_call 59; ((with_reducible refine (q14).mono ?_); rintro e w' ⟨rfl, rfl⟩))
    go_ret2
    exact ⟨ret_tup2 HN.out.1.symm HN.out.2.symm, (by repeat (first | exact Below.refl _ _ | refine below_step ?_ (by assumption) | refine below_step ?_ (Later.below _) | refine below_alloc ?_ _ | refine Below.drew ?_ | refine Below.setCell ?_ (by first | (simp; done) | (simp; omega)) _))⟩
  | true =>
    have HP : Hid (rtR k l R = rtK k l R R.length) := hide (by rw [rtR, rtP, HT.out, ← Hn2.out, h14]; rfl)
    obtain ⟨l1, l2⟩ := inB_iff.1 h14
    rw [h14] at q14
    clear h14
    have HBD := hide (fun m s h => rtK_bd (k := k) (R := R) HK.out.fits m s h)
    go_enter Try.func51, Try.ntmps51
    go_wp2_with (go_at_call 59; ((with_reducible refine (q14).mono ?_); rintro e w' ⟨rfl, rfl⟩))
    clear q14
    go_loopw [6, 16] (fun s t wr => ∃ (m : Nat) (v : Int), m ≤ n2 ∧ t = .int .i64 m ∧ s = .int .i64 v ∧ Hid (rtK k l R m = some v) ∧ Hid (Below w.heap.size w wr)) (fun _ t _ => n2 - (intOf t).toNat)
    case atStart => exact ⟨0, 0, by omega, rfl, rfl, hide rfl, hide (by repeat (first | exact Below.refl _ _ | refine below_step ?_ (by assumption) | refine below_step ?_ (Later.below _) | refine below_alloc ?_ _ | refine Below.drew ?_ | refine Below.setCell ?_ (by first | (simp; done) | (simp; omega)) _))⟩
    case round =>
      obtain ⟨m, v, hm, rfl, rfl, HV, HB⟩ := hrel
      obtain ⟨v0, v1⟩ := HBD.out m v HV.out
      by_cases hlt : m < n2
      · obtain ⟨x, hx⟩ : ∃ x, R[m]? = some x := ⟨_, List.getElem?_eq_getElem (by rw [← Hn2.out]; exact hlt)⟩
        have HR2 := hide (Hr2.out.below HB.out)
        obtain ⟨b', off, rfl, hbs, c0⟩ := HR2.out.get1 (k := m) (u := .int .i64 x) (by simp [hx])
        have a0 := cell_on HC0.out HB.out
        have a1 := cell_on HC1.out HB.out
        have z0 : b0 < wr.heap.size := Nat.lt_of_lt_of_le hb0 HB.out.size
        have Hx := hide hx
        clear hx
        have i0 : (0 : Int) ≤ (m : Int) := by omega
        have i1 : (m : Int) ≤ (n2 : Int) := by omega
        have q1 := has_any b0 (k : Int) x wr (by omega) (by omega) z0 a0
        have hpart : Rd wr (some ⟨b', off, none⟩) ((R.take m).map (Value.int .i64)) := by
          have := HR2.out.part 0 m
          simpa [List.map_take] using this
        have q2 := hasInt_any (some ⟨b', off, none⟩) m c2 (R.take m) x wr (by rw [List.length_take]; have := Hn2.out; omega) (by omega) hpart
        clear hpart
        cases hnx : nodeB k x with
        | false =>
          have HN := hide (rt_none (nd := k) (l := l) (R := R) (by rw [HP.out]; exact rtK_none (rtK_bad Hx.out (.inl hnx)) _ (by have := Hn2.out; omega)))
          rw [hnx] at q1
          clear hnx
          go_wp2_with (first | (go_at_call 44; ((with_reducible refine (q1).mono ?_); rintro e w' ⟨rfl, rfl⟩)) | (go_at_call 68; ((with_reducible refine (q2).mono ?_); rintro e w' ⟨rfl, rfl⟩)))
          go_ret2
          exact ⟨ret_tup2 HN.out.1.symm HN.out.2.symm, HB.out⟩
        | true =>
          rw [hnx] at q1
          cases hhx : hasB (R.take m) x with
          | true =>
            have HN := hide (rt_none (nd := k) (l := l) (R := R) (by rw [HP.out]; exact rtK_none (rtK_bad Hx.out (.inr hhx)) _ (by have := Hn2.out; omega)))
            rw [hhx] at q2
            clear hnx hhx
            go_wp2_with (first | (go_at_call 44; ((with_reducible refine (q1).mono ?_); rintro e w' ⟨rfl, rfl⟩)) | (go_at_call 68; ((with_reducible refine (q2).mono ?_); rintro e w' ⟨rfl, rfl⟩)))
            go_ret2
            exact ⟨ret_tup2 HN.out.1.symm HN.out.2.symm, HB.out⟩
          | false =>
            rw [hhx] at q2
            by_cases hm0 : m = 0
            · have HV1 : Hid (rtK k l R (m + 1) = some v) := hide (by subst hm0; exact rtK_first HV.out Hx.out hnx)
              have g0 : decide (0 < m) = false := by simp [hm0]
              have g1 : decide ((0 : Int) < (m : Int)) = false := by simp [hm0]
              clear hnx hhx hm0
              go_wp2_with (first | (go_at_call 44; ((with_reducible refine (q1).mono ?_); rintro e w' ⟨rfl, rfl⟩)) | (go_at_call 68; ((with_reducible refine (q2).mono ?_); rintro e w' ⟨rfl, rfl⟩)))
              go_roundw
              case rel => exact ⟨m + 1, v, by omega, by go_num, rfl, HV1, HB⟩
              case measure => simp [intOf]; omega
            · obtain ⟨j, hj⟩ : ∃ j, m = j + 1 := ⟨m - 1, by omega⟩
              obtain ⟨y, hy⟩ : ∃ y, R[j]? = some y := ⟨_, List.getElem?_eq_getElem (by rw [← Hn2.out]; omega)⟩
              have c1 : wr.cell? ⟨b', off + j, none⟩ = some (.int .i64 y) := by
                obtain ⟨b2, off2, hA, _, hc⟩ := HR2.out.get1 (k := j) (u := .int .i64 y) (by simp [hy])
                injection hA with hA
                injection hA with hA1 hA2
                subst hA1
                subst hA2
                exact hc
              have e1 : IntKind.i64.wrap ((m : Int) - 1) = (m : Int) - 1 := IntWalk.i64_in _ (by omega)
              have e2 : ((m : Int) - 1).toNat = j := by omega
              have e3 : (0 : Int) < (m : Int) := by omega
              have e3' : 0 < m := by omega
              have e4 : (m : Int) - 1 < (n2 : Int) := by omega
              have e5 : (0 : Int) ≤ (m : Int) - 1 := by omega
              have HNO : Hid (stFind l y x < 0 → rtK k l R (m + 1) = none) := hide (fun h => by subst hj; exact rtK_no Hx.out (by rw [getD_at hy]; exact h))
              have HGO : Hid (¬ stFind l y x < 0 → rtK k l R (m + 1) = some (v + secOf l (stFind l y x))) := hide (fun h => by
                subst hj
                have := rtK_go HV.out Hx.out hnx hhx (by rw [getD_at hy]; exact h)
                rwa [getD_at hy] at this)
              clear hnx hhx hm0 hj hy
              go_wp2_with (first | (go_at_call 44; ((with_reducible refine (q1).mono ?_); rintro e w' ⟨rfl, rfl⟩)) | (go_at_call 68; ((with_reducible refine (q2).mono ?_); rintro e w' ⟨rfl, rfl⟩)))
              refine (street_any b0 A n c l y x _ Hn.out (by have := Hn.out; have := HK.out.len; omega) (Hr.out.below HB.out) a1).mono ?_
              rintro e w3 ⟨rfl, hq⟩
              have HB3 : Hid (Below w.heap.size w w3) := hide (below_step HB.out hq)
              clear hq a0 a1 z0 q1 q2 c0 c1 e1 e2 e3 e3' e4 e5 hbs
              by_cases hs : stFind l y x < 0
              · have HN := hide (rt_none (nd := k) (l := l) (R := R) (by rw [HP.out]; exact rtK_none (HNO.out (by omega)) _ (by have := Hn2.out; omega)))
                clear HNO HGO
                generalize stFind l y x = s at *
                go_wp2
                go_ret2
                exact ⟨ret_tup2 HN.out.1.symm HN.out.2.symm, HB3.out⟩
              · have HV2 := HGO.out (by omega)
                obtain ⟨q, hq, hql⟩ := stFind_lt (l := l) (a := y) (b := x) (by omega)
                obtain ⟨⟨t0, t1, t2⟩, ht⟩ : ∃ h, l[q]? = some h := ⟨_, List.getElem?_eq_getElem hql⟩
                obtain ⟨b3, off3, rfl, hbs3, d0, d1, d2⟩ := (Hr.out.below HB3.out).get3 (fun _ => rfl) ht rfl
                dsimp only at d2
                rw [hq, sec_at ht] at HV2
                have HV3 := hide HV2
                have hft := fitB_iff.1 (HK.out.fits _ (List.mem_of_getElem? ht))
                dsimp only at hft
                obtain ⟨_, _, _, t2a, t2b⟩ := hft
                have a1 := cell_on HC1.out HB3.out
                rw [hq]
                have hqn : q < n := by have := Hn.out; omega
                have q0 : (0 : Int) ≤ (q : Int) := by omega
                have q1 : (q : Int) < (n : Int) := by omega
                clear HNO HGO HV2 hs hq ht hql
                go_wp2
                go_roundw
                case rel => exact ⟨m + 1, v + t2, by omega, by go_num, rfl, HV3, HB3⟩
                case measure => simp [intOf]; omega
      · have hmn : m = R.length := by have := Hn2.out; omega
        have HN := hide (rt_some (nd := k) (l := l) (R := R) (s := v) (by rw [HP.out, ← hmn]; exact HV.out))
        clear hmn
        go_wp2
        go_ret2
        exact ⟨ret_tup2 HN.out.1.symm HN.out.2.symm, HB.out⟩
end Go.Proofs.Ytbkhejkncmgdeaa

/- Calls that repeat an earlier one. -/
import Derived.Test.YtmmeoabmjbclcaaCallB
import Derived.Test.YtmmeoabmjbclcaaCallL
import Derived.Test.YtmmeoabmjbclcaaSums
import Derived.Test.YtmmeoabmjbclcaaIntS
namespace Go.Proofs.Ytmmeoabmjbclcaa
open Go.RowKit
set_option linter.unusedVariables false

theorem Rd.front {w : World} {A : Option Addr} {xs ys : List Value} (h : Rd w A (xs ++ ys)) : Rd w A xs := by
  rcases h with h | ⟨b, off, hA, hc⟩
  · exact .inl (List.append_eq_nil_iff.1 h).1
  · exact .inr ⟨b, off, hA, fun j u hu => hc j u (by rw [List.getElem?_append_left (List.getElem?_eq_some_iff.1 hu).1]; exact hu)⟩
theorem Rd.take {α : Type} {w : World} {A : Option Addr} {f : α → List Value} {l : List α} (h : Rd w A (l.flatMap f)) (k : Nat) : Rd w A ((l.take k).flatMap f) := by
  refine Rd.front (ys := (l.drop k).flatMap f) ?_
  rw [← List.flatMap_append, List.take_append_drop]
  exact h

def repP (t : Int) (c d : CallT) : Bool := decide (d.2.2.2.2 = c.2.2.2.2) && decide (c.1 - d.1 ≤ t)
def repB (t : Int) (l : List CallT) (i : Nat) : Bool := match l[i]? with | some c => (l.take i).any (repP t c) | none => false
def repK (t : Int) (l : List CallT) (k : Nat) : List Int := ((List.range k).filter (repB t l)).map (fun i : Nat => (i : Int))
theorem repK_yes {t : Int} {l : List CallT} {k : Nat} (h : repB t l k = true) : repK t l (k + 1) = repK t l k ++ [(k : Int)] := by simp [repK, List.range_succ, h]
theorem repK_no {t : Int} {l : List CallT} {k : Nat} (h : repB t l k = false) : repK t l (k + 1) = repK t l k := by simp [repK, List.range_succ, h]
theorem repK_length (t : Int) (l : List CallT) (k : Nat) : (repK t l k).length ≤ k := by
  simp only [repK, List.length_map]
  exact Nat.le_trans (List.length_filter_le _ _) (by simp)
theorem repB_at {t : Int} {l : List CallT} {k : Nat} {c : CallT} (h : l[k]? = some c) : repB t l k = (l.take k).any (repP t c) := by simp [repB, h]

theorem findI_any {α : Type} (p : α → Bool) (l : List α) : decide (0 ≤ findI p l) = l.any p := by
  rcases findI_cases p l with h | ⟨k, a, h, ha, hp⟩
  · rw [h]
    have : l.any p = false := by
      cases hc : l.any p with
      | false => rfl
      | true =>
        rw [List.any_eq_true] at hc
        obtain ⟨x, hx, hpx⟩ := hc
        have hne : l.findIdx? p ≠ none := fun h0 => by
          rw [List.findIdx?_eq_none_iff] at h0
          rw [h0 x hx] at hpx
          cases hpx
        unfold findI at h
        cases h1 : l.findIdx? p with
        | none => exact absurd h1 hne
        | some i => rw [h1] at h; simp only at h; omega
    rw [this]
    rfl
  · rw [h, (List.any_eq_true).2 ⟨a, List.mem_of_getElem? ha, hp⟩]
    simp

set_option maxHeartbeats 1000000 in
theorem repFn_any (d0 d1 d2 d3 d4 x0 x1 x2 x3 x4 t : Int) (B1 B2 : Nat) (w : World) (hd : callB d0 d1 d2 d3 d4 = true) (hx : callB x0 x1 x2 x3 x4 = true) (h1 : B1 < w.heap.size) (h2 : B2 < w.heap.size)
    (hc1 : w.cell? ⟨B1, 0, none⟩ = some (.int .i64 x0)) (hc2 : w.cell? ⟨B1, 4, none⟩ = some (.int .i64 x4)) (hc3 : w.cell? ⟨B2, 0, none⟩ = some (.int .i64 t)) :
    Calls Try.prog 27 #[.agg #[.int .i64 d0, .int .i64 d1, .int .i64 d2, .int .i64 d3, .int .i64 d4], .pointer (some ⟨B1, 0, none⟩), .pointer (some ⟨B2, 0, none⟩)] w fun e w' => e = .returned (.bool (repP t (x0, x1, x2, x3, x4) (d0, d1, d2, d3, d4))) ∧ Below w.heap.size w w' := by
  obtain ⟨⟨a0, a1⟩, _, _, _, _⟩ := callB_ok hx
  obtain ⟨⟨b0, b1⟩, _, _, _, _⟩ := callB_ok hd
  clear hx hd
  go_enter Try.func27, Try.ntmps27
  go_wp2
  all_goals
    go_ret
    exact ⟨ret_bool (by simp [repP, *] <;> omega), (by repeat (first | exact Below.refl _ _ | refine below_step ?_ (by assumption) | refine below_step ?_ (Later.below _) | refine below_alloc ?_ _ | refine Below.drew ?_ | refine Below.setCell ?_ (by first | (simp; done) | (simp; omega)) _))⟩

set_option maxHeartbeats 1000000 in
theorem idxCall_any (A : Option Addr) (n c : Nat) (l : List (Int × Int × Int × Int × Int)) (x0 x1 x2 x3 x4 t : Int) (B1 B2 : Nat) (w : World) (hn : n = l.length) (hm : n ≤ 1048576) (hr : Rd w A (l.flatMap ccells)) (hv : ∀ d ∈ l, callP d = true) (hx : callB x0 x1 x2 x3 x4 = true) (h1 : B1 < w.heap.size) (h2 : B2 < w.heap.size)
    (hc1 : w.cell? ⟨B1, 0, none⟩ = some (.int .i64 x0)) (hc2 : w.cell? ⟨B1, 4, none⟩ = some (.int .i64 x4)) (hc3 : w.cell? ⟨B2, 0, none⟩ = some (.int .i64 t)) :
    Calls Try.prog 32 #[.slice A n c, .func (.func 27) #[] #[.pointer (some ⟨B1, 0, none⟩), .pointer (some ⟨B2, 0, none⟩)]] w fun e w' => e = .returned (.int .i64 (findI (repP t (x0, x1, x2, x3, x4)) l)) ∧ Below w.heap.size w w' := by
  have Hn := hide hn
  have Hr := hide hr
  have HC := hide (And.intro hc1 (And.intro hc2 hc3))
  have H1 := hide (And.intro h1 h2)
  have HV := hide (And.intro hv hx)
  clear hn hr hc1 hc2 hc3 h1 h2 hv hx
  go_enter Try.func32, Try.ntmps32
  go_wp2_with fail
  go_loopw [8] (fun t' wr => ∃ k : Nat, k ≤ n ∧ t' = .int .i64 k ∧ Hid (∀ (i : Nat) (x : CallT), i < k → l[i]? = some x → repP t (x0, x1, x2, x3, x4) x = false) ∧ Below w.heap.size w wr) (fun t _ => n - (intOf t).toNat)
  case atStart => exact ⟨0, by omega, rfl, hide (fun i x hi => absurd hi (by omega)), Below.refl _ _⟩
  case round =>
    obtain ⟨k, hk, rfl, HA, hb⟩ := hrel
    by_cases hlt : k < n
    · obtain ⟨⟨d0, d1, d2, d3, d4⟩, hh⟩ : ∃ h, l[k]? = some h := ⟨_, List.getElem?_eq_getElem (by rw [← Hn.out]; exact hlt)⟩
      obtain ⟨b, off, rfl, hbs, c0, c1, c2, c3, c4⟩ := (Hr.out.below hb).get5 (fun _ => rfl) hh rfl
      have Hh := hide hh
      clear hh
      dsimp only at c0 c1 c2 c3 c4
      have q := repFn_any d0 d1 d2 d3 d4 x0 x1 x2 x3 x4 t B1 B2 wr (HV.out.1 _ (List.mem_of_getElem? Hh.out)) HV.out.2 (Nat.lt_of_lt_of_le H1.out.1 hb.size) (Nat.lt_of_lt_of_le H1.out.2 hb.size) ((hb.cell (p := ⟨B1, 0, none⟩) H1.out.1).trans HC.out.1) ((hb.cell (p := ⟨B1, 4, none⟩) H1.out.1).trans HC.out.2.1) ((hb.cell (p := ⟨B2, 0, none⟩) H1.out.2).trans HC.out.2.2)
      cases hp : repP t (x0, x1, x2, x3, x4) (d0, d1, d2, d3, d4) with
      | true =>
        have HF : Hid (findI (repP t (x0, x1, x2, x3, x4)) l = (k : Nat)) := hide (findI_at Hh.out hp (fun i b hi hb => HA.out i b hi hb))
        rw [hp] at q
        clear hp
        go_wp2_with (go_at_call 27; ((with_reducible refine (q).mono ?_); rintro e w1 ⟨rfl, hb1⟩); obtain ⟨hc1, hf1⟩ := bcell hb1)
        go_ret
        exact ⟨ret_int (by rw [HF.out]), (by repeat (first | exact Below.refl _ _ | refine below_step ?_ (by assumption) | refine below_step ?_ (Later.below _) | refine below_alloc ?_ _ | refine Below.drew ?_ | refine Below.setCell ?_ (by first | (simp; done) | (simp; omega)) _))⟩
      | false =>
        have HP := hide hp
        rw [hp] at q
        clear hp
        go_wp2_with (go_at_call 27; ((with_reducible refine (q).mono ?_); rintro e w1 ⟨rfl, hb1⟩); obtain ⟨hc1, hf1⟩ := bcell hb1)
        go_roundw
        case rel =>
          refine ⟨k + 1, by omega, by go_num, hide (fun i x hi hx => ?_), (by repeat (first | exact Below.refl _ _ | refine below_step ?_ (by assumption) | refine below_step ?_ (Later.below _) | refine below_alloc ?_ _ | refine Below.drew ?_ | refine Below.setCell ?_ (by first | (simp; done) | (simp; omega)) _))⟩
          by_cases hi2 : i < k
          · exact HA.out i x hi2 hx
          · have hik : i = k := by omega
            rw [hik, Hh.out] at hx
            cases hx
            exact HP.out
        case measure => simp [intOf]; omega
    · go_wp2
      go_ret
      exact ⟨ret_int (findI_none (fun i x hx => HA.out i x (by have := (List.getElem?_eq_some_iff.1 hx).1; have := Hn.out; omega) hx)).symm, hb⟩

set_option maxHeartbeats 1000000 in
theorem hasCall_any (A : Option Addr) (n c : Nat) (l : List (Int × Int × Int × Int × Int)) (x0 x1 x2 x3 x4 t : Int) (B1 B2 : Nat) (w : World) (hn : n = l.length) (hm : n ≤ 1048576) (hr : Rd w A (l.flatMap ccells)) (hv : ∀ d ∈ l, callP d = true) (hx : callB x0 x1 x2 x3 x4 = true) (h1 : B1 < w.heap.size) (h2 : B2 < w.heap.size)
    (hc1 : w.cell? ⟨B1, 0, none⟩ = some (.int .i64 x0)) (hc2 : w.cell? ⟨B1, 4, none⟩ = some (.int .i64 x4)) (hc3 : w.cell? ⟨B2, 0, none⟩ = some (.int .i64 t)) :
    Calls Try.prog 26 #[.slice A n c, .func (.func 27) #[] #[.pointer (some ⟨B1, 0, none⟩), .pointer (some ⟨B2, 0, none⟩)]] w fun e w' => e = .returned (.bool (l.any (repP t (x0, x1, x2, x3, x4)))) ∧ Below w.heap.size w w' := by
  have Q := hide (idxCall_any A n c l x0 x1 x2 x3 x4 t B1 B2 w hn hm hr hv hx h1 h2 hc1 hc2 hc3)
  clear hn hr hv hx hc1 hc2 hc3 h1 h2
  go_enter Try.func26, Try.ntmps26
  go_wp2_with fail
  refine Q.out.mono ?_
  rintro e w1 ⟨rfl, hb1⟩
  go_wp2
  go_ret
  exact ⟨ret_bool (findI_any _ _), hb1⟩

def repOk (l : List CallT) (t : Int) : Bool := callsB l && inB t 0 120
def repL (l : List CallT) (t : Int) : List Int := if repOk l t then repK t l l.length else []
theorem repL_length (l : List CallT) (t : Int) : (repL l t).length ≤ l.length := by
  unfold repL
  split
  · exact repK_length _ _ _
  · simp
theorem callsB_mem {l : List CallT} (h : callsB l = true) {x : CallT} (hx : x ∈ l) : callP x = true := by
  simp only [callsB, Bool.and_eq_true] at h
  exact chainB_mem h.1 hx
theorem callsB_len {l : List CallT} (h : callsB l = true) : l.length ≤ 20 := by
  simp only [callsB, Bool.and_eq_true, decide_eq_true_eq] at h
  exact h.2

set_option maxHeartbeats 4000000 in
theorem implRepeatedCalls_any (A : Option Addr) (n c : Nat) (l : List (Int × Int × Int × Int × Int)) (t : Int) (w : World) (hn : n = l.length) (hm : n ≤ 1048576) (hnc : n ≤ c) (hr : Rd w A (l.flatMap ccells)) :
    Calls Try.prog 13 #[.slice A n c, .int .i64 t] w fun e w' => (∃ v, e = .returned (.tuple #[v, .bool (repOk l t)]) ∧ w'.ownsRow w.heap.size 3 1 v (repL l t).length ((repL l t).map (Value.int .i64))) ∧ Below w.heap.size w w' := by
  have Hn := hide hn
  have Hr := hide hr
  have q := fun W hr' => areCalls_any A n c l W hn hm hr'
  have q2 := fun W => inside_any t 0 120 W
  have hmf : ∀ (fn : Fn) (first cap : Array Value) (w : World), (Instr.makeFunc fn first cap).run Try.prog w = .ok (.func fn first cap) w := fun _ _ _ _ => rfl
  obtain ⟨i0, hi, hz0, hz1, hz2⟩ := info_parts infoInt
  have HI := hide (And.intro hi (And.intro hz0 (And.intro hz1 hz2)))
  clear hn hr hi hz0 hz1 hz2
  cases hv : callsB l with
  | false =>
    have Hv := hide hv
    simp only [hv] at q
    have Q := hide q
    clear q hv
    go_enter Try.func13, Try.ntmps13
    go_wp2_with (first | (go_at_call 20; ((with_reducible refine (Q.out _ (Hr.out.alloc _)).mono ?_); rintro e w1 ⟨rfl, hb1⟩); obtain ⟨hc1, hf1⟩ := bcell hb1) | (go_at_call 25; ((with_reducible refine (q2 _).mono ?_); rintro e w' ⟨rfl, rfl⟩)))
    all_goals
      go_ret2
      exact ⟨⟨_, by simp [repOk, Hv.out]; rfl, by simpa [repL, repOk, Hv.out] using World.ownsRow_nil _ _ _ _⟩, (by repeat (first | exact Below.refl _ _ | refine below_step ?_ (by assumption) | refine below_step ?_ (Later.below _) | refine below_alloc ?_ _ | refine Below.drew ?_ | refine Below.setCell ?_ (by first | (simp; done) | (simp; omega)) _))⟩
  | true =>
    have Hv := hide hv
    have hln : n ≤ 20 := by rw [Hn.out]; exact callsB_len hv
    simp only [hv] at q
    have Q := hide q
    clear q hv
    cases hq : inB t 0 120 with
    | false =>
      have Hq := hide hq
      simp only [hq] at q2
      clear hq
      go_enter Try.func13, Try.ntmps13
      go_wp2_with (first | (go_at_call 20; ((with_reducible refine (Q.out _ (Hr.out.alloc _)).mono ?_); rintro e w1 ⟨rfl, hb1⟩); obtain ⟨hc1, hf1⟩ := bcell hb1) | (go_at_call 25; ((with_reducible refine (q2 _).mono ?_); rintro e w' ⟨rfl, rfl⟩)))
      all_goals
        go_ret2
        exact ⟨⟨_, by simp [repOk, Hq.out]; rfl, by simpa [repL, repOk, Hq.out] using World.ownsRow_nil _ _ _ _⟩, (by repeat (first | exact Below.refl _ _ | refine below_step ?_ (by assumption) | refine below_step ?_ (Later.below _) | refine below_alloc ?_ _ | refine Below.drew ?_ | refine Below.setCell ?_ (by first | (simp; done) | (simp; omega)) _))⟩
    | true =>
      have Hq := hide hq
      have htb := inB_iff.1 hq
      simp only [hq] at q2
      clear hq
      have HO : Hid (repOk l t = true) := hide (by simp [repOk, Hv.out, Hq.out])
      have hsz : (w.alloc (.cells #[.int .i64 t] 3)).heap.size = w.heap.size + 1 := by simp
      have HZ := hide hsz
      clear hsz
      simp only [HO.out]
      go_enter Try.func13, Try.ntmps13
      go_wp2_with (first | (go_at_call 20; ((with_reducible refine (Q.out _ (Hr.out.alloc _)).mono ?_); rintro e w1 ⟨rfl, hb1⟩); (first | (obtain ⟨n1, rfl⟩ := later_up n1 hb1) | (obtain ⟨n1, rfl⟩ := later_of hb1)); clear hb1) | (go_at_call 25; ((with_reducible refine (q2 _).mono ?_); rintro e w' ⟨rfl, rfl⟩)))
      clear q2
      go_loopw [6, 19] (fun s i wr => ∃ k : Nat, k ≤ n ∧ i = .int .i64 k ∧ Hid (wr.ownsRow (w.heap.size + 1) 3 1 s (repK t l k).length ((repK t l k).map (Value.int .i64))) ∧ Below (w.heap.size + 1) (w.alloc (.cells #[.int .i64 t] 3)) wr) (fun _ i _ => n - (intOf i).toNat)
      case atStart => exact ⟨0, by omega, rfl, hide (by simpa [repK] using World.ownsRow_nil _ _ _ _), by have := n1.below; rw [HZ.out] at this; exact this⟩
      case round =>
        obtain ⟨k, hk, rfl, HO1, hb⟩ := hrel
        have hbw : Below w.heap.size w wr := (below_alloc (Below.refl _ _) _).trans (hb.mono (by omega))
        by_cases hlt : k < n
        · obtain ⟨⟨x0, x1, x2, x3, x4⟩, hh⟩ : ∃ h, l[k]? = some h := ⟨_, List.getElem?_eq_getElem (by rw [← Hn.out]; exact hlt)⟩
          obtain ⟨b, off, rfl, hbs, c0, c1, c2, c3, c4⟩ := (Hr.out.below hbw).get5 (fun _ => rfl) hh rfl
          have Hh := hide hh
          clear hh
          dsimp only at c0 c1 c2 c3 c4
          have hsl : w.heap.size < wr.heap.size := by have := hb.size; rw [HZ.out] at this; omega
          have ht : wr.cell? ⟨w.heap.size, 0, none⟩ = some (.int .i64 t) := (hb.cell (p := ⟨w.heap.size, 0, none⟩) (by simp)).trans (by simp)
          have q3 := hasCall_any (some ⟨b, off, none⟩) k c (l.take k) x0 x1 x2 x3 x4 t wr.heap.size w.heap.size (wr.alloc (.cells #[.int .i64 x0, .int .i64 x1, .int .i64 x2, .int .i64 x3, .int .i64 x4] 41)) (by have := Hn.out; simp; omega) (by omega) (((Hr.out.below hbw).alloc _).take k) (fun d hd => callsB_mem Hv.out (List.mem_of_mem_take hd)) (callsB_mem Hv.out (List.mem_of_getElem? Hh.out)) (by simp) (by simp; omega) ((Row.new _ _ _).2.1 0 _ rfl) ((Row.new _ _ _).2.1 4 _ rfl) ((((Below.refl wr.heap.size wr).alloc (Nat.le_refl _) _).cell (p := ⟨w.heap.size, 0, none⟩) hsl).trans ht)
          rw [← repB_at Hh.out] at q3
          have Q3 := hide q3
          clear q3
          cases hp : repB t l k with
          | false =>
            have Hp := hide hp
            rw [hp] at Q3
            clear hp
            go_wp2_with fail
            refine Q3.out.mono ?_
            rintro e w2 ⟨rfl, hb2⟩
            have HB2 := hide (below_alloc (Below.refl _ wr) (.cells #[.int .i64 x0, .int .i64 x1, .int .i64 x2, .int .i64 x3, .int .i64 x4] 41))
            have HB3 := hide (below_step HB2.out hb2)
            go_wp2
            go_roundw
            case rel => exact ⟨k + 1, by omega, by go_num, hide (by rw [repK_no Hp.out]; exact own_below HO1.out HB3.out), hb.trans (HB3.out.mono (by omega))⟩
            case measure => simp [intOf]; omega
          | true =>
            have Hp := hide hp
            rw [hp] at Q3
            clear hp
            go_wp2_with fail
            refine Q3.out.mono ?_
            rintro e w2 ⟨rfl, hb2⟩
            have HB2 := hide (below_alloc (Below.refl _ wr) (.cells #[.int .i64 x0, .int .i64 x1, .int .i64 x2, .int .i64 x3, .int .i64 x4] 41))
            have HB3 := hide (below_alloc (below_step HB2.out hb2) (.cells #[.int .i64 k] 3))
            have HO2 := hide (own_below HO1.out HB3.out)
            have hlk := repK_length t l k
            have HC := hide (show ∀ (j : Nat) (u : Value), [Value.int .i64 (k : Int)][j]? = some u → (w2.alloc (.cells #[.int .i64 k] 3)).cell? ((⟨w2.heap.size, 0, none⟩ : Addr).add j) = some u from fun j u hu => by rw [Addr.add_lit, Nat.zero_add]; exact (Row.new _ _ _).2.1 j u hu)
            have HS := hide (show w.heap.size + 1 ≤ (w2.alloc (.cells #[.int .i64 k] 3)).heap.size from Nat.le_trans hsl HB3.out.size)
            go_wp2_with (at_builtin; refine wpList_append_own _ rfl _ _ 23 rfl (w.heap.size + 1) 3 i0 (.int .i64 0) 1 8 Try.underlying23 HI.out.1 HI.out.2.1 HI.out.2.2.1 HI.out.2.2.2 rfl (by decide) _ _ _ rfl HO2.out ⟨w2.heap.size, 0, none⟩ 1 1 [.int .i64 k] rfl rfl HC.out (by simp [Value.oneCell']) (by unfold maxLen; omega) (by omega) HS.out ?_)
            intro v' w3 hown' hg hiff
            have HO3 := hide hown'
            have HG := hide hg
            clear hown' hg hiff
            go_wp2
            go_roundw
            case rel => exact ⟨k + 1, by omega, by go_num, hide (by rw [repK_yes Hp.out]; simpa using HO3.out), (hb.trans (HB3.out.mono (by omega))).grown HG.out HS.out (fun g hg => (HO1.out.lt g hg).1)⟩
            case measure => simp [intOf]; omega
        · go_wp2
          go_ret2
          exact ⟨⟨_, rfl, by rw [repL, if_pos HO.out, show l.length = k by have := Hn.out; omega]; exact own_le HO1.out (by omega)⟩, hbw⟩
end Go.Proofs.Ytmmeoabmjbclcaa

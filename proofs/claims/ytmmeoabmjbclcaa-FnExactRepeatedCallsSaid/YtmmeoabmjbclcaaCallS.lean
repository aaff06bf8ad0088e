/- Calls that repeat an earlier one: the reference. -/
import Derived.Test.YtmmeoabmjbclcaaCallR
namespace Go.Proofs.Ytmmeoabmjbclcaa
open Go.RowKit
set_option linter.unusedVariables false

theorem any_take_false {α : Type} {p : α → Bool} {l : List α} {k : Nat} (h : ∀ (i : Nat) (a : α), i < k → l[i]? = some a → p a = false) : (l.take k).any p = false := by
  rw [List.any_eq_false]
  intro a ha
  obtain ⟨i, hi⟩ := List.mem_iff_getElem?.1 ha
  rw [List.getElem?_take] at hi
  split at hi
  · simp [h i a (by assumption) hi]
  · cases hi
theorem any_take_true {α : Type} {p : α → Bool} {l : List α} {k j : Nat} {a : α} (hj : j < k) (ha : l[j]? = some a) (hp : p a = true) : (l.take k).any p = true := by
  rw [List.any_eq_true]
  exact ⟨a, List.mem_iff_getElem?.2 ⟨j, by rw [List.getElem?_take, if_pos hj]; exact ha⟩, hp⟩

set_option maxHeartbeats 4000000 in
theorem specRepeatedCalls_any (A : Option Addr) (n c : Nat) (l : List (Int × Int × Int × Int × Int)) (t : Int) (w : World) (hn : n = l.length) (hm : n ≤ 1048576) (hnc : n ≤ c) (hr : Rd w A (l.flatMap ccells)) :
    Calls Try.prog 12 #[.slice A n c, .int .i64 t] w fun e w' => (∃ v, e = .returned (.tuple #[v, .bool (repOk l t)]) ∧ w'.ownsRow w.heap.size 3 1 v (repL l t).length ((repL l t).map (Value.int .i64))) ∧ Below w.heap.size w w' := by
  have Hn := hide hn
  have Hr := hide hr
  have q := clGood_any A n c l w hn hm hr
  have q2 := fun W => clWindow_any t W
  obtain ⟨i0, hi, hz0, hz1, hz2⟩ := info_parts infoInt
  have HI := hide (And.intro hi (And.intro hz0 (And.intro hz1 hz2)))
  clear hn hr hi hz0 hz1 hz2
  cases hv : callsB l with
  | false =>
    have Hv := hide hv
    rw [hv] at q
    clear hv
    go_enter Try.func12, Try.ntmps12
    go_wp2_with (first | (go_at_call 23; ((with_reducible refine (q).mono ?_); rintro e w1 ⟨rfl, hb1⟩); obtain ⟨hc1, hf1⟩ := bcell hb1) | (go_at_call 24; ((with_reducible refine (q2 _).mono ?_); rintro e w' ⟨rfl, rfl⟩)))
    all_goals
      go_ret2
      exact ⟨⟨_, by simp [repOk, Hv.out]; rfl, by simpa [repL, repOk, Hv.out] using World.ownsRow_nil _ _ _ _⟩, (by repeat (first | exact Below.refl _ _ | refine below_step ?_ (by assumption) | refine below_step ?_ (Later.below _) | refine below_alloc ?_ _ | refine Below.drew ?_ | refine Below.setCell ?_ (by first | (simp; done) | (simp; omega)) _))⟩
  | true =>
    have Hv := hide hv
    have hln : n ≤ 20 := by rw [Hn.out]; exact callsB_len hv
    rw [hv] at q
    clear hv
    cases hq : inB t 0 120 with
    | false =>
      have Hq := hide hq
      simp only [hq] at q2
      clear hq
      go_enter Try.func12, Try.ntmps12
      go_wp2_with (first | (go_at_call 23; ((with_reducible refine (q).mono ?_); rintro e w1 ⟨rfl, hb1⟩); obtain ⟨hc1, hf1⟩ := bcell hb1) | (go_at_call 24; ((with_reducible refine (q2 _).mono ?_); rintro e w' ⟨rfl, rfl⟩)))
      all_goals
        go_ret2
        exact ⟨⟨_, by simp [repOk, Hq.out]; rfl, by simpa [repL, repOk, Hq.out] using World.ownsRow_nil _ _ _ _⟩, (by repeat (first | exact Below.refl _ _ | refine below_step ?_ (by assumption) | refine below_step ?_ (Later.below _) | refine below_alloc ?_ _ | refine Below.drew ?_ | refine Below.setCell ?_ (by first | (simp; done) | (simp; omega)) _))⟩
    | true =>
      have Hq := hide hq
      have htb := inB_iff.1 hq
      simp only [hq] at q2
      clear hq
      have HO : Hid (repOk l t = true) := hide (by simp [repOk, Hv.out, Hq.out])
      simp only [HO.out]
      go_enter Try.func12, Try.ntmps12
      go_wp2_with (first | (go_at_call 23; ((with_reducible refine (q).mono ?_); rintro e w1 ⟨rfl, hb1⟩); obtain ⟨hc1, hf1⟩ := bcell hb1) | (go_at_call 24; ((with_reducible refine (q2 _).mono ?_); rintro e w' ⟨rfl, rfl⟩)))
      have hb1' := hb1
      have Hb1 := hide hb1'
      clear q q2 hc1 hf1 hb1 hb1'
      go_loopw [6, 21] (fun s i wr => ∃ k : Nat, k ≤ n ∧ i = .int .i64 k ∧ Hid (wr.ownsRow w.heap.size 3 1 s (repK t l k).length ((repK t l k).map (Value.int .i64))) ∧ Below w.heap.size w wr) (fun _ i _ => n - (intOf i).toNat)
      case atStart => exact ⟨0, by omega, rfl, hide (by simpa [repK] using World.ownsRow_nil _ _ _ _), Hb1.out⟩
      case round =>
        obtain ⟨k, hk, rfl, HO1, hb⟩ := hrel
        rename World => wo
        by_cases hlt : k < n
        · obtain ⟨⟨x0, x1, x2, x3, x4⟩, hh⟩ : ∃ h, l[k]? = some h := ⟨_, List.getElem?_eq_getElem (by rw [← Hn.out]; exact hlt)⟩
          obtain ⟨b, off, rfl, hbs, c0, c1, c2, c3, c4⟩ := (Hr.out.below hb).get5 (fun _ => rfl) hh rfl
          have Hh := hide hh
          obtain ⟨⟨a0, a1⟩, _, _, _, _⟩ := callB_ok (callsB_mem Hv.out (List.mem_of_getElem? hh))
          clear hh
          dsimp only at c0 c1 c2 c3 c4
          have hsl : w.heap.size ≤ wo.heap.size := hb.size
          have HW0 := hide (below_alloc (Below.refl _ wo) (.cells #[.int .i64 x0, .int .i64 x1, .int .i64 x2, .int .i64 x3, .int .i64 x4] 41))
          have HX := hide (Row.new wo #[.int .i64 x0, .int .i64 x1, .int .i64 x2, .int .i64 x3, .int .i64 x4] 41)
          go_wp2_with fail
          go_loopw [6, 30] (fun s i wi => ∃ j : Nat, j ≤ k ∧ i = .int .i64 j ∧ Hid (wi.ownsRow w.heap.size 3 1 s (repK t l k).length ((repK t l k).map (Value.int .i64))) ∧ Hid (∀ (i : Nat) (a : CallT), i < j → l[i]? = some a → repP t (x0, x1, x2, x3, x4) a = false) ∧ Hid (Below wo.heap.size wo wi ∧ Row wi wo.heap.size [.int .i64 x0, .int .i64 x1, .int .i64 x2, .int .i64 x3, .int .i64 x4])) (fun _ i _ => k - (intOf i).toNat)
          case atStart => exact ⟨0, by omega, rfl, hide (own_below HO1.out HW0.out), hide (fun i a hi => absurd hi (by omega)), hide ⟨HW0.out, HX.out⟩⟩
          case round =>
            obtain ⟨j, hj, rfl, HO2, HA, HB⟩ := hrel
            by_cases hjk : j < k
            · obtain ⟨⟨y0, y1, y2, y3, y4⟩, hy⟩ : ∃ h, l[j]? = some h := ⟨_, List.getElem?_eq_getElem (by rw [← Hn.out]; omega)⟩
              obtain ⟨b', off', hA', hbs', d0, d1, d2, d3, d4⟩ := ((Hr.out.below hb).below HB.out.1).get5 (fun _ => rfl) hy rfl
              injection hA' with hA'
              injection hA' with hA1 hA2
              subst hA1
              subst hA2
              have Hy := hide hy
              obtain ⟨⟨b0, b1⟩, _, _, _, _⟩ := callB_ok (callsB_mem Hv.out (List.mem_of_getElem? hy))
              clear hy
              dsimp only at d0 d1 d2 d3 d4
              have u0 := HB.out.2.2.1 0 _ rfl
              have u4 := HB.out.2.2.1 4 _ rfl
              have hzo := HB.out.2.1
              have HW1 := hide (below_alloc (Below.refl _ wr) (.cells #[.int .i64 y0, .int .i64 y1, .int .i64 y2, .int .i64 y3, .int .i64 y4] 41))
              by_cases h4 : y4 = x4
              · by_cases h0 : x0 - y0 ≤ t
                · have hp : repP t (x0, x1, x2, x3, x4) (y0, y1, y2, y3, y4) = true := by simp [repP, h4, h0]
                  have HP := hide (show repB t l k = true by rw [repB_at Hh.out]; exact any_take_true hjk Hy.out hp)
                  have h4' : (y4 == x4) = true := by simpa using h4
                  have H4 := hide h4
                  clear hp h4
                  have HB3 := hide (below_alloc HW1.out (.cells #[.int .i64 k] 3))
                  have HO3 := hide (own_below HO2.out HB3.out)
                  have hlk := repK_length t l k
                  have hWs : ∀ o : Obj, ((wr.alloc o).heap.size) = wr.heap.size + 1 := fun o => by simp
                  have HC := hide (show ∀ (i : Nat) (u : Value), [Value.int .i64 (k : Int)][i]? = some u → ((wr.alloc (.cells #[.int .i64 y0, .int .i64 y1, .int .i64 y2, .int .i64 y3, .int .i64 y4] 41)).alloc (.cells #[.int .i64 k] 3)).cell? ((⟨wr.heap.size + 1, 0, none⟩ : Addr).add i) = some u from fun i u hu => by rw [Addr.add_lit, Nat.zero_add, ← hWs (.cells #[.int .i64 y0, .int .i64 y1, .int .i64 y2, .int .i64 y3, .int .i64 y4] 41)]; exact (Row.new _ _ _).2.1 i u hu)
                  have HS := hide (show w.heap.size ≤ ((wr.alloc (.cells #[.int .i64 y0, .int .i64 y1, .int .i64 y2, .int .i64 y3, .int .i64 y4] 41)).alloc (.cells #[.int .i64 k] 3)).heap.size from Nat.le_trans (Nat.le_trans hsl HB.out.1.size) HB3.out.size)
                  clear hWs
                  go_wp2_with (at_builtin; refine wpList_append_own _ rfl _ _ 23 rfl w.heap.size 3 i0 (.int .i64 0) 1 8 Try.underlying23 HI.out.1 HI.out.2.1 HI.out.2.2.1 HI.out.2.2.2 rfl (by decide) _ _ _ rfl HO3.out ⟨wr.heap.size + 1, 0, none⟩ 1 1 [.int .i64 k] rfl rfl HC.out (by simp [Value.oneCell']) (by unfold maxLen; omega) (by omega) HS.out ?_)
                  intro v' w3 hown' hg hiff
                  have HO4 := hide hown'
                  have HG := hide hg
                  clear hown' hg hiff
                  go_wp2
                  go_roundw
                  case rel => exact ⟨k + 1, by omega, by go_num, hide (by rw [repK_yes HP.out]; simpa using HO4.out), (hb.trans ((below_step HB.out.1 HB3.out).mono hsl)).grown HG.out HS.out (fun g hg => (HO2.out.lt g hg).1)⟩
                  case measure => simp [intOf]; omega
                · have hp : repP t (x0, x1, x2, x3, x4) (y0, y1, y2, y3, y4) = false := by simp [repP]; omega
                  have HP := hide hp
                  have h4' : (y4 == x4) = true := by simpa using h4
                  have H4 := hide h4
                  clear hp h4
                  go_wp2
                  go_roundw
                  case rel =>
                    refine ⟨j + 1, by omega, by go_num, hide (own_below HO2.out HW1.out), hide (fun i a hi ha => ?_), hide ⟨below_step HB.out.1 HW1.out, HB.out.2.below HW1.out⟩⟩
                    by_cases hij : i < j
                    · exact HA.out i a hij ha
                    · have hij : i = j := by omega
                      rw [hij, Hy.out] at ha
                      cases ha
                      exact HP.out
                  case measure => simp [intOf]; omega
              · have hp : repP t (x0, x1, x2, x3, x4) (y0, y1, y2, y3, y4) = false := by simp [repP, h4]
                have HP := hide hp
                have h4' : (y4 == x4) = false := by simpa using h4
                have H4 := hide h4
                clear hp h4
                go_wp2
                go_roundw
                case rel =>
                  refine ⟨j + 1, by omega, by go_num, hide (own_below HO2.out HW1.out), hide (fun i a hi ha => ?_), hide ⟨below_step HB.out.1 HW1.out, HB.out.2.below HW1.out⟩⟩
                  by_cases hij : i < j
                  · exact HA.out i a hij ha
                  · have hij : i = j := by omega
                    rw [hij, Hy.out] at ha
                    cases ha
                    exact HP.out
                case measure => simp [intOf]; omega
            · have HP := hide (show repB t l k = false by rw [repB_at Hh.out]; exact any_take_false (fun i a hi ha => HA.out i a (by omega) ha))
              go_wp2
              go_roundw
              case rel => exact ⟨k + 1, by omega, by go_num, hide (by rw [repK_no HP.out]; exact HO2.out), hb.trans (HB.out.1.mono hsl)⟩
              case measure => simp [intOf]; omega
        · go_wp2
          go_ret2
          exact ⟨⟨_, rfl, by rw [repL, if_pos HO.out, show l.length = k by have := Hn.out; omega]; exact HO1.out⟩, hb⟩
end Go.Proofs.Ytmmeoabmjbclcaa

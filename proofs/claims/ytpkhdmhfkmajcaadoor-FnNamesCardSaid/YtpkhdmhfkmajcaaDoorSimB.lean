/- Similar names: what the program's areSimilar returns. -/
import Derived.Test.YtpkhdmhfkmajcaaDoorSimA
namespace Go.Proofs.YtpkhdmhfkmajcaaDoor
open Go.RowKit
set_option linter.unusedVariables false

/-- The rest of the test, behind the swap and the two short tests. -/
def restP (x y : List UInt8) : Bool := if x.length < y.length then decide (x.drop (lcp x y) = y.drop (lcp x y + 1)) else simE x y

set_option maxRecDepth 100000 in
set_option maxHeartbeats 8000000 in
theorem areSimilar_any (a b : ByteArray) (w : World) (ha : a.size ≤ 100) (hb : b.size ≤ 100) :
    Calls Tryd.prog 41 #[.string a, .string b] w fun e w' => e = .returned (.bool (simT a b)) ∧ Below w.heap.size w w' := by
  by_cases h : b.size < a.size
  · have HV := hide (show simT a b = simP b.data.toList a.data.toList by unfold simT simI; first | rw [if_pos (by simpa using h)] | rw [if_neg (by simpa using h)])
    have hxy : b.size ≤ a.size := by omega
    have e0 : IntKind.i64.wrap ((a.size : Int) - (b.size : Int)) = (a.size : Int) - (b.size : Int) := IntWalk.i64_in _ (by omega)
    by_cases he : b.data.toList = a.data.toList
    · have HR := hide (show simT a b = false by rw [HV.out, simP, if_pos he])
      have hE : (b.toList == a.toList) = true := by rw [toList_data, toList_data, he]; simp
      clear he
      go_enter Tryd.func41, Tryd.ntmps41
      go_wp2
      go_ret
      exact ⟨ret_bool HR.out.symm, Below.refl _ _⟩
    · have hE : (b.toList == a.toList) = false := by rw [toList_data, toList_data]; simpa using he
      have hE2 : ¬ b.toList = a.toList := by rw [toList_data, toList_data]; exact he
      by_cases hd : b.size + 1 < a.size
      · have HR := hide (show simT a b = false by rw [HV.out, simP, if_neg he, if_pos (by simpa using hd)])
        have hd2 : (1 : Int) < (a.size : Int) - (b.size : Int) := by omega
        clear he
        go_enter Tryd.func41, Tryd.ntmps41
        go_wp2
        go_ret
        exact ⟨ret_bool HR.out.symm, Below.refl _ _⟩
      · have HR := hide (show simT a b = restP b.data.toList a.data.toList by rw [HV.out, simP, if_neg he, if_neg (by simpa using hd)]; rfl)
        have HE := hide he
        have hd2 : ¬ (1 : Int) < (a.size : Int) - (b.size : Int) := by omega
        clear he HV
        go_enter Tryd.func41, Tryd.ntmps41
        go_wp2_with fail
        go_loopw [5] (fun t wr => ∃ i : Nat, i ≤ b.size ∧ t = .int .i64 i ∧ Hid (∀ j, j < i → b.data.toList[j]? = a.data.toList[j]?) ∧ Hid (Below w.heap.size w wr)) (fun t _ => b.size - (intOf t).toNat)
        case atStart => exact ⟨0, by omega, rfl, hide (fun j hj => absurd hj (by omega)), hide (Below.refl _ _)⟩
        case round =>
          obtain ⟨i, hi, rfl, HA, HB⟩ := hrel
          by_cases hlt : i < b.size
          · have hlt2 : i < a.size := by omega
            by_cases heq : b[i] = a[i]
            · have HN := hide (show ∀ j, j < i + 1 → b.data.toList[j]? = a.data.toList[j]? from fun j hj => by
                by_cases hj2 : j < i
                · exact HA.out j hj2
                · rw [show j = i by omega, data_at hlt, data_at hlt2, heq])
              have hq1 : ((b[i].toNat : Int) == (a[i].toNat : Int)) = true := by rw [heq]; simp
              have hq2 : (b[i].toNat == a[i].toNat) = true := by rw [heq]; simp
              clear heq
              go_wp2_with fail
              go_region
              all_goals go_wp2
              all_goals go_roundw
              case rel => exact ⟨i + 1, by omega, by go_num, HN, hide HB.out.drew⟩
              case measure => simp [intOf]; omega
            · have HLC := hide (show lcp b.data.toList a.data.toList = i from lcp_at i _ _ (by simpa using hi) (by simp <;> omega) HA.out (fun _ _ => by rw [data_at hlt, data_at hlt2]; simpa using heq))
              have hn : ¬ b[i].toNat = a[i].toNat := fun h => heq (UInt8.toNat_inj.1 h)
              have hq1 : ((b[i].toNat : Int) == (a[i].toNat : Int)) = false := by simpa using fun h => hn (by omega)
              have hq2 : (b[i].toNat == a[i].toNat) = false := by simpa using hn
              clear heq hn
              go_wp2_with fail
              go_region
              clear hq1 hq2
              have HB2 := hide HB.out.drew
              generalize wr.drew = W at *
              have hl : b.size < a.size := h
              have hcv : ((b.extract i b.size).toList == (a.extract (i + 1) a.size).toList) = restP b.data.toList a.data.toList := by
                rw [restP, if_pos (by simpa using hl), HLC.out, tail_data, tail_data]
                exact Bool.eq_iff_iff.2 (by simp)
              go_wp2_with fail
              go_region
              all_goals go_wp2
              all_goals go_ret
              exact ⟨ret_bool (by rw [HR.out] <;> exact hcv), HB2.out.drew⟩
          · have hix : i = b.size := by omega
            have hl : b.size < a.size := h
            have HLC := hide (show lcp b.data.toList a.data.toList = i from lcp_at i _ _ (by simpa using hi) (by simp <;> omega) HA.out (fun h1 _ => absurd h1 (by simp <;> omega)))
            have HIX := hide hix
            have hix2 : ¬ ((i : Int) < (b.size : Int)) := by omega
            clear hix
            go_wp2_with fail
            go_region
            have HB2 := hide HB.out.drew
            generalize wr.drew = W at *
            have hcv : ((b.extract i b.size).toList == (a.extract (i + 1) a.size).toList) = restP b.data.toList a.data.toList := by
              rw [restP, if_pos (by simpa using hl), HLC.out, tail_data, tail_data]
              exact Bool.eq_iff_iff.2 (by simp)
            go_wp2_with fail
            go_region
            all_goals go_wp2
            all_goals go_ret
            exact ⟨ret_bool (by rw [HR.out] <;> exact hcv), HB2.out.drew⟩
  · have HV := hide (show simT a b = simP a.data.toList b.data.toList by unfold simT simI; first | rw [if_pos (by simpa using h)] | rw [if_neg (by simpa using h)])
    have hxy : a.size ≤ b.size := by omega
    have e0 : IntKind.i64.wrap ((b.size : Int) - (a.size : Int)) = (b.size : Int) - (a.size : Int) := IntWalk.i64_in _ (by omega)
    by_cases he : a.data.toList = b.data.toList
    · have HR := hide (show simT a b = false by rw [HV.out, simP, if_pos he])
      have hE : (a.toList == b.toList) = true := by rw [toList_data, toList_data, he]; simp
      clear he
      go_enter Tryd.func41, Tryd.ntmps41
      go_wp2
      go_ret
      exact ⟨ret_bool HR.out.symm, Below.refl _ _⟩
    · have hE : (a.toList == b.toList) = false := by rw [toList_data, toList_data]; simpa using he
      have hE2 : ¬ a.toList = b.toList := by rw [toList_data, toList_data]; exact he
      by_cases hd : a.size + 1 < b.size
      · have HR := hide (show simT a b = false by rw [HV.out, simP, if_neg he, if_pos (by simpa using hd)])
        have hd2 : (1 : Int) < (b.size : Int) - (a.size : Int) := by omega
        clear he
        go_enter Tryd.func41, Tryd.ntmps41
        go_wp2
        go_ret
        exact ⟨ret_bool HR.out.symm, Below.refl _ _⟩
      · have HR := hide (show simT a b = restP a.data.toList b.data.toList by rw [HV.out, simP, if_neg he, if_neg (by simpa using hd)]; rfl)
        have HE := hide he
        have hd2 : ¬ (1 : Int) < (b.size : Int) - (a.size : Int) := by omega
        clear he HV
        go_enter Tryd.func41, Tryd.ntmps41
        go_wp2_with fail
        go_loopw [5] (fun t wr => ∃ i : Nat, i ≤ a.size ∧ t = .int .i64 i ∧ Hid (∀ j, j < i → a.data.toList[j]? = b.data.toList[j]?) ∧ Hid (Below w.heap.size w wr)) (fun t _ => a.size - (intOf t).toNat)
        case atStart => exact ⟨0, by omega, rfl, hide (fun j hj => absurd hj (by omega)), hide (Below.refl _ _)⟩
        case round =>
          obtain ⟨i, hi, rfl, HA, HB⟩ := hrel
          by_cases hlt : i < a.size
          · have hlt2 : i < b.size := by omega
            by_cases heq : a[i] = b[i]
            · have HN := hide (show ∀ j, j < i + 1 → a.data.toList[j]? = b.data.toList[j]? from fun j hj => by
                by_cases hj2 : j < i
                · exact HA.out j hj2
                · rw [show j = i by omega, data_at hlt, data_at hlt2, heq])
              have hq1 : ((a[i].toNat : Int) == (b[i].toNat : Int)) = true := by rw [heq]; simp
              have hq2 : (a[i].toNat == b[i].toNat) = true := by rw [heq]; simp
              clear heq
              go_wp2_with fail
              go_region
              all_goals go_wp2
              all_goals go_roundw
              case rel => exact ⟨i + 1, by omega, by go_num, HN, hide HB.out.drew⟩
              case measure => simp [intOf]; omega
            · have HLC := hide (show lcp a.data.toList b.data.toList = i from lcp_at i _ _ (by simpa using hi) (by simp <;> omega) HA.out (fun _ _ => by rw [data_at hlt, data_at hlt2]; simpa using heq))
              have hn : ¬ a[i].toNat = b[i].toNat := fun h => heq (UInt8.toNat_inj.1 h)
              have hq1 : ((a[i].toNat : Int) == (b[i].toNat : Int)) = false := by simpa using fun h => hn (by omega)
              have hq2 : (a[i].toNat == b[i].toNat) = false := by simpa using hn
              clear heq hn
              go_wp2_with fail
              go_region
              clear hq1 hq2
              have HB2 := hide HB.out.drew
              generalize wr.drew = W at *
              by_cases hl : a.size < b.size
              · have hcv : ((a.extract i a.size).toList == (b.extract (i + 1) b.size).toList) = restP a.data.toList b.data.toList := by
                  rw [restP, if_pos (by simpa using hl), HLC.out, tail_data, tail_data]
                  exact Bool.eq_iff_iff.2 (by simp)
                go_wp2_with fail
                go_region
                all_goals go_wp2
                all_goals go_ret
                exact ⟨ret_bool (by rw [HR.out] <;> exact hcv), HB2.out.drew⟩
              · have hl2 : a.size = b.size := by omega
                have HS := hide (show restP a.data.toList b.data.toList = (decide (a.data.toList.drop (i + 1) = b.data.toList.drop (i + 1)) || (decide (i + 1 < a.size) && decide (a.data.toList[i]? = b.data.toList[i + 1]?) && decide (a.data.toList[i + 1]? = b.data.toList[i]?) && decide (a.data.toList.drop (i + 2) = b.data.toList.drop (i + 2)))) by
                  rw [restP, if_neg (by simpa using hl), simE, HLC.out, len_data])
                have HL2 := hide hl2
                have hiy1 : i + 1 ≤ b.size := by omega
                have e1 : IntKind.i64.wrap ((i : Int) + 1) = (i : Int) + 1 := IntWalk.i64_in _ (by omega)
                have e2 : IntKind.i64.wrap ((i : Int) + 2) = (i : Int) + 2 := IntWalk.i64_in _ (by omega)
                have n1 : ((i : Int) + 1).toNat = i + 1 := by omega
                have n2 : ((i : Int) + 2).toNat = i + 2 := by omega
                have p1 : (0 : Int) ≤ (i : Int) + 1 := by omega
                have p2 : (0 : Int) ≤ (i : Int) + 2 := by omega
                by_cases c1 : a.data.toList.drop (i + 1) = b.data.toList.drop (i + 1)
                · have d1 : ((a.extract (i + 1) a.size).toList == (b.extract (i + 1) b.size).toList) = true := by rw [tail_data, tail_data]; simpa using c1
                  have HF := hide (show restP a.data.toList b.data.toList = true by rw [HS.out, decide_eq_true c1]; rfl)
                  clear c1 hl2
                  go_wp2_with fail
                  refine wp_region_later (by kernel_rfl) (by kernel_rfl) ?_
                  repeat (go_big_quiet_step (fail))
                  refine wpQuiet_nil ?_
                  refine later_intro fun w3 hb3 => ?_
                  go_wp2
                  go_ret
                  exact ⟨ret_bool (by rw [HR.out, HF.out]), below_step HB2.out hb3⟩
                · have d1 : ((a.extract (i + 1) a.size).toList == (b.extract (i + 1) b.size).toList) = false := by rw [tail_data, tail_data]; simpa using c1
                  by_cases c2 : i + 1 < a.size
                  · have c2' : (i : Int) + 1 < (a.size : Int) := by omega
                    have c2y : i + 1 < b.size := by omega
                    have c2y' : (i : Int) + 1 < (b.size : Int) := by omega
                    have k1 : a.data.toList[i]? = some a[i] := data_at hlt
                    have k2 : b.data.toList[i]? = some b[i] := data_at hlt2
                    have k3 : a.data.toList[i + 1]? = some a[i + 1] := data_at c2
                    have k4 : b.data.toList[i + 1]? = some b[i + 1] := data_at c2y
                    rw [k1, k2, k3, k4] at HS
                    clear k1 k2 k3 k4 hl2
                    by_cases c3 : a[i] = b[i + 1]
                    · have d3 : ((a[i].toNat : Int) == (b[i + 1].toNat : Int)) = true := by rw [c3]; simp
                      have d3' : (a[i].toNat == b[i + 1].toNat) = true := by rw [c3]; simp
                      by_cases c4 : a[i + 1] = b[i]
                      · have d4 : ((a[i + 1].toNat : Int) == (b[i].toNat : Int)) = true := by rw [c4]; simp
                        have d4' : (a[i + 1].toNat == b[i].toNat) = true := by rw [c4]; simp
                        have hx2 : i + 2 ≤ a.size := by omega
                        have hy2 : i + 2 ≤ b.size := by omega
                        have hx2' : (i : Int) + 2 ≤ (a.size : Int) := by omega
                        have hy2' : (i : Int) + 2 ≤ (b.size : Int) := by omega
                        have HF := hide (show restP a.data.toList b.data.toList = ((a.extract (i + 2) a.size).toList == (b.extract (i + 2) b.size).toList) by
                          rw [HS.out, decide_eq_false c1, decide_eq_true c2, decide_eq_true (congrArg some c3), decide_eq_true (congrArg some c4), tail_data, tail_data]
                          exact Bool.eq_iff_iff.2 (by simp))
                        clear c1 c3 c4
                        generalize hv5 : ((a.extract (i + 2) a.size).toList == (b.extract (i + 2) b.size).toList) = v5 at *
                        go_wp2_with fail
                        refine wp_region_later (by kernel_rfl) (by kernel_rfl) ?_
                        repeat (go_big_quiet_step (fail))
                        refine wpQuiet_nil ?_
                        refine later_intro fun w3 hb3 => ?_
                        go_wp2
                        go_ret
                        exact ⟨ret_bool (by rw [HR.out, HF.out]), below_step HB2.out hb3⟩
                      · have HF := hide (show restP a.data.toList b.data.toList = false by rw [HS.out, decide_eq_false c1, decide_eq_true c2, decide_eq_true (congrArg some c3), decide_eq_false (fun e => c4 (Option.some.inj e))]; rfl)
                        have d4 : ((a[i + 1].toNat : Int) == (b[i].toNat : Int)) = false := by simpa using fun h => c4 (UInt8.toNat_inj.1 (by omega))
                        have d4' : (a[i + 1].toNat == b[i].toNat) = false := by simpa using fun h => c4 (UInt8.toNat_inj.1 h)
                        clear c1 c3 c4
                        go_wp2_with fail
                        refine wp_region_later (by kernel_rfl) (by kernel_rfl) ?_
                        repeat (go_big_quiet_step (fail))
                        refine wpQuiet_nil ?_
                        refine later_intro fun w3 hb3 => ?_
                        go_wp2
                        go_ret
                        exact ⟨ret_bool (by rw [HR.out, HF.out]), below_step HB2.out hb3⟩
                    · have HF := hide (show restP a.data.toList b.data.toList = false by rw [HS.out, decide_eq_false c1, decide_eq_true c2, decide_eq_false (fun e => c3 (Option.some.inj e))]; rfl)
                      have d3 : ((a[i].toNat : Int) == (b[i + 1].toNat : Int)) = false := by simpa using fun h => c3 (UInt8.toNat_inj.1 (by omega))
                      have d3' : (a[i].toNat == b[i + 1].toNat) = false := by simpa using fun h => c3 (UInt8.toNat_inj.1 h)
                      clear c1 c3
                      go_wp2_with fail
                      refine wp_region_later (by kernel_rfl) (by kernel_rfl) ?_
                      repeat (go_big_quiet_step (fail))
                      refine wpQuiet_nil ?_
                      refine later_intro fun w3 hb3 => ?_
                      go_wp2
                      go_ret
                      exact ⟨ret_bool (by rw [HR.out, HF.out]), below_step HB2.out hb3⟩
                  · have HF := hide (show restP a.data.toList b.data.toList = false by rw [HS.out, decide_eq_false c1, decide_eq_false c2]; rfl)
                    have c2' : ¬ ((i : Int) + 1 < (a.size : Int)) := by omega
                    have c2b : decide ((i : Int) + 1 < (a.size : Int)) = false := decide_eq_false c2'
                    have hsx : a.size = i + 1 := by omega
                    clear c1 hl2 hsx
                    go_wp2_with fail
                    refine wp_region_later (by kernel_rfl) (by kernel_rfl) ?_
                    repeat (go_big_quiet_step (fail))
                    refine wpQuiet_nil ?_
                    refine later_intro fun w3 hb3 => ?_
                    go_wp2
                    go_ret
                    exact ⟨ret_bool (by rw [HR.out, HF.out]), below_step HB2.out hb3⟩
          · have hix : i = a.size := by omega
            have hl : a.size < b.size := by
              rcases Nat.lt_or_ge a.size b.size with h1 | h1
              · exact h1
              · exact absurd (List.ext_getElem? fun j => by
                  by_cases hj : j < i
                  · exact HA.out j hj
                  · rw [List.getElem?_eq_none (by simp <;> omega), List.getElem?_eq_none (by simp <;> omega)]) HE.out
            have HLC := hide (show lcp a.data.toList b.data.toList = i from lcp_at i _ _ (by simpa using hi) (by simp <;> omega) HA.out (fun h1 _ => absurd h1 (by simp <;> omega)))
            have HIX := hide hix
            have hix2 : ¬ ((i : Int) < (a.size : Int)) := by omega
            clear hix
            go_wp2_with fail
            go_region
            have HB2 := hide HB.out.drew
            generalize wr.drew = W at *
            have hcv : ((a.extract i a.size).toList == (b.extract (i + 1) b.size).toList) = restP a.data.toList b.data.toList := by
              rw [restP, if_pos (by simpa using hl), HLC.out, tail_data, tail_data]
              exact Bool.eq_iff_iff.2 (by simp)
            go_wp2_with fail
            go_region
            all_goals go_wp2
            all_goals go_ret
            exact ⟨ret_bool (by rw [HR.out] <;> exact hcv), HB2.out.drew⟩
end Go.Proofs.YtpkhdmhfkmajcaaDoor

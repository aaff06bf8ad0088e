/- Similar names: what the reference's adSimilar returns. -/
import Derived.Test.YtpkhdmhfkmajcaaDoorSimC
import Derived.Outline
namespace Go.Proofs.YtpkhdmhfkmajcaaDoor
open Go.RowKit
set_option linter.unusedVariables false

def natC (L : List Nat) : List Value := L.map fun i : Nat => Value.int .i64 (i : Int)
theorem natC_append (A B : List Nat) : natC (A ++ B) = natC A ++ natC B := by simp [natC]
theorem natC_length (A : List Nat) : (natC A).length = A.length := by simp [natC]
theorem natC_get {L : List Nat} {i k : Nat} (h : L[i]? = some k) : (natC L)[i]? = some (.int .i64 (k : Int)) := by simp [natC, h]
theorem infoIntC : (Tryd.prog.info? 3).map (fun i => (i.zero, i.size, i.bytes)) = some (some (.int .i64 0), 1, 8) := by kernel_rfl
def diffK (a b : List UInt8) (i : Nat) : List Nat := (List.range i).filter fun j => decide (a[j]? ≠ b[j]?)
theorem diffK_no {a b : List UInt8} {i : Nat} (h : a[i]? = b[i]?) : diffK a b (i + 1) = diffK a b i := by simp [diffK, List.range_succ, List.filter_append, h]
theorem diffK_yes {a b : List UInt8} {i : Nat} (h : ¬ a[i]? = b[i]?) : diffK a b (i + 1) = diffK a b i ++ [i] := by simp [diffK, List.range_succ, List.filter_append, h]
theorem diffK_length (a b : List UInt8) (i : Nat) : (diffK a b i).length ≤ i := by
  have := List.length_filter_le (fun j => decide (a[j]? ≠ b[j]?)) (List.range i)
  simpa [diffK] using this
theorem diffK_lt {a b : List UInt8} {i j : Nat} (h : j ∈ diffK a b i) : j < i := by
  simp [diffK] at h
  exact h.1

set_option maxRecDepth 100000 in
set_option maxHeartbeats 8000000 in
theorem adSimilar_any (a b : ByteArray) (w : World) (ha : a.size ≤ 100) (hb : b.size ≤ 100) :
    Calls Tryd.prog 45 #[.string a, .string b] w fun e w' => e = .returned (.bool (simS a.data.toList b.data.toList)) ∧ Below w.heap.size w w' := by
  obtain ⟨i0, hi0, hz0, hz1, hz2⟩ := info_parts infoIntC
  have Hi := hide hi0
  have Hz := hide (And.intro hz0 (And.intro hz1 hz2))
  clear hi0 hz0 hz1 hz2
  have QA := hide (fun W => adLess_any a b W ha hb)
  have QB := hide (fun W => adLess_any b a W hb ha)
  have HS := hide (show simS a.data.toList b.data.toList = (lessL a.data.toList b.data.toList || lessL b.data.toList a.data.toList || (decide (a.size = b.size) && diffOk a.data.toList b.data.toList (diffK a.data.toList b.data.toList a.size))) by rw [simS, len_data, len_data]; simp [diffs, diffK])
  generalize simS a.data.toList b.data.toList = R at *
  cases h1 : lessL a.data.toList b.data.toList with
  | true =>
    have HR := hide (show R = true by rw [HS.out, h1]; rfl)
    have Q := hide (fun W => by have := QA.out W; rw [h1] at this; exact this)
    clear h1 HS QB
    go_enter Tryd.func45, Tryd.ntmps45
    go_wp2_with fail
    refine (Q.out _).mono ?_
    rintro e w1 ⟨rfl, hq⟩
    go_wp2
    go_ret
    exact ⟨ret_bool HR.out.symm, hq⟩
  | false =>
    have Q1 := hide (fun W => by have := QA.out W; rw [h1] at this; exact this)
    cases h2 : lessL b.data.toList a.data.toList with
    | true =>
      have HR := hide (show R = true by rw [HS.out, h1, h2]; rfl)
      have Q2 := hide (fun W => by have := QB.out W; rw [h2] at this; exact this)
      clear h1 h2 HS
      go_enter Tryd.func45, Tryd.ntmps45
      go_wp2_with fail
      refine (Q1.out _).mono ?_
      rintro e w1 ⟨rfl, hq⟩
      go_wp2_with fail
      refine (Q2.out _).mono ?_
      rintro e w2 ⟨rfl, hq2⟩
      go_wp2
      go_ret
      exact ⟨ret_bool HR.out.symm, below_step hq hq2⟩
    | false =>
      have Q2 := hide (fun W => by have := QB.out W; rw [h2] at this; exact this)
      have HT := hide (show R = (decide (a.size = b.size) && diffOk a.data.toList b.data.toList (diffK a.data.toList b.data.toList a.size)) by rw [HS.out, h1, h2]; rfl)
      clear h1 h2 HS QA QB
      by_cases hl : a.size = b.size
      · have HR := hide (show R = diffOk a.data.toList b.data.toList (diffK a.data.toList b.data.toList a.size) by rw [HT.out, decide_eq_true hl]; rfl)
        have HL := hide hl
        have hne : ((a.size : Int) != (b.size : Int)) = false := by simpa using (show (a.size : Int) = (b.size : Int) by omega)
        have hne2 : ((a.size : Int) == (b.size : Int)) = true := by simpa using (show (a.size : Int) = (b.size : Int) by omega)
        clear hl HT
        go_enter Tryd.func45, Tryd.ntmps45
        go_wp2_with fail
        refine (Q1.out _).mono ?_
        rintro e w1 ⟨rfl, hq⟩
        go_wp2_with fail
        refine (Q2.out _).mono ?_
        rintro e w2 ⟨rfl, hq2⟩
        have HB2 := hide (below_step hq hq2)
        clear hq hq2
        go_wp2_with fail
        go_loopw [5, 6] (fun v t wr => ∃ i : Nat, i ≤ a.size ∧ t = .int .i64 i ∧ Hid (wr.ownsRow w.heap.size 3 1 v (diffK a.data.toList b.data.toList i).length (natC (diffK a.data.toList b.data.toList i))) ∧ Hid (Below w.heap.size w wr)) (fun _ t _ => a.size - (intOf t).toNat)
        case atStart => exact ⟨0, by omega, rfl, hide (World.ownsRow_nil _ _ _ _), HB2⟩
        case round =>
          obtain ⟨i, hi, rfl, HO, HB⟩ := hrel
          by_cases hlt : i < a.size
          · have hlt2 : i < b.size := by have := HL.out; omega
            by_cases heq : a[i] = b[i]
            · have HD := hide (show diffK a.data.toList b.data.toList (i + 1) = diffK a.data.toList b.data.toList i from diffK_no (by rw [data_at hlt, data_at hlt2, heq]))
              have hq1 : ((a[i].toNat : Int) == (b[i].toNat : Int)) = true := by rw [heq]; simp
              have hq2 : ((a[i].toNat : Int) != (b[i].toNat : Int)) = false := by rw [heq]; simp
              clear heq
              go_wp2_with fail
              go_region
              all_goals go_wp2
              all_goals go_roundw
              case rel => exact ⟨i + 1, by omega, by go_num, hide (by rw [HD.out]; exact HO.out), hide HB.out.drew⟩
              case measure => simp [intOf]; omega
            · have HD := hide (show diffK a.data.toList b.data.toList (i + 1) = diffK a.data.toList b.data.toList i ++ [i] from diffK_yes (by rw [data_at hlt, data_at hlt2]; simpa using heq))
              have HLN := hide (diffK_length a.data.toList b.data.toList i)
              have hn : ¬ (a[i].toNat : Int) = (b[i].toNat : Int) := fun h => heq (UInt8.toNat_inj.1 (by omega))
              have hq1 : ((a[i].toNat : Int) == (b[i].toNat : Int)) = false := by simpa using fun h => hn (by omega)
              have hq2 : ((a[i].toNat : Int) != (b[i].toNat : Int)) = true := by simpa using fun h => hn (by omega)
              clear heq
              go_wp2_with fail
              go_region
              have HO1 : Hid (wr.drew.ownsRow w.heap.size 3 1 _ _ _) := hide HO.out
              have HB1 := hide HB.out.drew
              generalize wr.drew = W at *
              have HOA := hide (World.ownsRow.alloc HO1.out (.cells #[.int .i64 (i : Int)] 3))
              have HNC := hide (show ∀ (j : Nat) (u : Value), [Value.int .i64 (i : Int)][j]? = some u → (W.alloc (.cells #[.int .i64 (i : Int)] 3)).cell? ((⟨W.heap.size, 0, none⟩ : Addr).add j) = some u from fun j u hu => by rw [Addr.add_lit, Nat.zero_add]; exact (Row.new _ _ _).2.1 j u hu)
              have HWZ : Hid (w.heap.size ≤ (W.alloc (.cells #[.int .i64 (i : Int)] 3)).heap.size) := hide (by have := HB1.out.size; simp; omega)
              have HBL := hide (fun q hq => (HO1.out.lt q hq).1)
              go_wp2_with (at_builtin; refine wpList_append_own _ rfl (.tmp 35) (.tmp 37) 69 rfl w.heap.size 3 i0 (.int .i64 0) 1 8 Tryd.underlying69 Hi.out Hz.out.1 Hz.out.2.1 Hz.out.2.2 rfl (by decide) _ _ _ rfl HOA.out ⟨W.heap.size, 0, none⟩ 1 1 [.int .i64 (i : Int)] rfl rfl HNC.out ?c1 ?c2 ?c3 HWZ.out ?_)
              case c1 => simp [Value.oneCell']
              case c2 => have := HLN.out; unfold maxLen; omega
              case c3 => have := HLN.out; omega
              intro v' w5 hown hgrow _
              have HB5 := hide ((below_alloc HB1.out _).grown hgrow (by have := HB1.out.size; simp; omega) HBL.out)
              have HO5 := hide hown
              clear hown hgrow HOA HNC HWZ HBL
              go_wp2
              go_roundw
              case rel => exact ⟨i + 1, by omega, by go_num, hide (by rw [HD.out, List.length_append, natC_append]; exact HO5.out), HB5⟩
              case measure => simp [intOf]; omega
          · obtain rfl : i = a.size := by omega
            have HLT := hide (fun j => diffK_lt (a := a.data.toList) (b := b.data.toList) (i := a.size) (j := j))
            obtain ⟨A', cap, rfl, hrd, -⟩ := own_open HO.out
            have HRD := hide hrd
            clear hrd HO hi hlt
            generalize diffK a.data.toList b.data.toList a.size = d at *
            match d, HR, HLT, HRD with
            | [], HR, HLT, HRD =>
              have HR' := hide (show R = false from HR.out)
              go_wp2
              go_ret
              exact ⟨ret_bool HR'.out.symm, HB.out⟩
            | [x], HR, HLT, HRD =>
              have HR' := hide (show R = true from HR.out)
              go_wp2
              go_ret
              exact ⟨ret_bool HR'.out.symm, HB.out⟩
            | x :: y :: z :: d, HR, HLT, HRD =>
              have HR' := hide (show R = false from HR.out)
              obtain ⟨ll, hll, hl3⟩ : ∃ ll, (x :: y :: z :: d).length = ll ∧ 3 ≤ ll := ⟨_, rfl, by simp⟩
              rw [hll]
              have g1 : ((ll : Int) == 2) = false := by simpa using (show ¬ (ll : Int) = 2 by omega)
              have g2 : ((ll : Int) == 1) = false := by simpa using (show ¬ (ll : Int) = 1 by omega)
              have g3 : ¬ (ll : Int) = 2 := by omega
              have g4 : ¬ (ll : Int) = 1 := by omega
              clear hll hl3
              go_wp2
              go_ret
              exact ⟨ret_bool HR'.out.symm, HB.out⟩
            | [x, y], HR, HLT, HRD =>
              have hx : x < a.size := HLT.out x (by simp)
              have hy : y < a.size := HLT.out y (by simp)
              have hx2 : x < b.size := by have := HL.out; omega
              have hy2 : y < b.size := by have := HL.out; omega
              obtain ⟨b', off, rfl, hbs, c0⟩ := HRD.out.get1 (natC_get (L := [x, y]) (i := 0) rfl)
              obtain ⟨b'', off', hA, -, c1⟩ := HRD.out.get1 (natC_get (L := [x, y]) (i := 1) rfl)
              simp only [Option.some.injEq, Addr.mk.injEq, and_true] at hA
              obtain ⟨rfl, rfl⟩ := hA
              have HR' := hide (show R = (decide (y = x + 1) && decide (a[x] = b[y]) && decide (a[y] = b[x])) by
                rw [HR.out, diffOk, data_at hx, data_at hy2, data_at hy, data_at hx2]; simp)
              have e1 : IntKind.i64.wrap ((x : Int) + 1) = (x : Int) + 1 := IntWalk.i64_in _ (by omega)
              rw [Nat.add_zero] at c0
              clear HRD HR
              rw [show [x, y].length = 2 from rfl]
              by_cases c1 : y = x + 1
              · have d1 : ((y : Int) == (x : Int) + 1) = true := by simpa using (show (y : Int) = (x : Int) + 1 by omega)
                by_cases c2 : a[x] = b[y]
                · have d2 : ((a[x].toNat : Int) == (b[y].toNat : Int)) = true := by rw [c2]; simp
                  by_cases c3 : a[y] = b[x]
                  · have d3 : ((a[y].toNat : Int) == (b[x].toNat : Int)) = true := by rw [c3]; simp
                    have HF := hide (show R = true by rw [HR'.out, decide_eq_true c1, decide_eq_true c2, decide_eq_true c3]; rfl)
                    clear c1 c2 c3
                    go_wp2_with fail
                    go_region
                    have HBx := hide HB.out.drew
                    generalize wr.drew = W at *
                    go_wp2_with fail
                    refine wp_region_later (by kernel_rfl) (by kernel_rfl) ?_
                    repeat (go_big_quiet_step (fail))
                    refine wpQuiet_nil ?_
                    refine later_intro fun w3 hb3 => ?_
                    go_wp2
                    go_ret
                    exact ⟨ret_bool HF.out.symm, below_step HBx.out hb3⟩
                  · have d3 : ((a[y].toNat : Int) == (b[x].toNat : Int)) = false := by simpa using fun h => c3 (UInt8.toNat_inj.1 (by omega))
                    have HF := hide (show R = false by rw [HR'.out, decide_eq_true c1, decide_eq_true c2, decide_eq_false c3]; rfl)
                    clear c1 c2 c3
                    go_wp2_with fail
                    go_region
                    have HBx := hide HB.out.drew
                    generalize wr.drew = W at *
                    go_wp2_with fail
                    refine wp_region_later (by kernel_rfl) (by kernel_rfl) ?_
                    repeat (go_big_quiet_step (fail))
                    refine wpQuiet_nil ?_
                    refine later_intro fun w3 hb3 => ?_
                    go_wp2
                    go_ret
                    exact ⟨ret_bool HF.out.symm, below_step HBx.out hb3⟩
                · have d2 : ((a[x].toNat : Int) == (b[y].toNat : Int)) = false := by simpa using fun h => c2 (UInt8.toNat_inj.1 (by omega))
                  have HF := hide (show R = false by rw [HR'.out, decide_eq_true c1, decide_eq_false c2]; rfl)
                  clear c1 c2
                  go_wp2_with fail
                  go_region
                  have HBx := hide HB.out.drew
                  generalize wr.drew = W at *
                  go_wp2_with fail
                  refine wp_region_later (by kernel_rfl) (by kernel_rfl) ?_
                  repeat (go_big_quiet_step (fail))
                  refine wpQuiet_nil ?_
                  refine later_intro fun w3 hb3 => ?_
                  go_wp2
                  go_ret
                  exact ⟨ret_bool HF.out.symm, below_step HBx.out hb3⟩
              · have d1 : ((y : Int) == (x : Int) + 1) = false := by simpa using (show ¬ (y : Int) = (x : Int) + 1 by omega)
                have HF := hide (show R = false by rw [HR'.out, decide_eq_false c1]; rfl)
                clear c1
                go_wp2_with fail
                go_region
                have HBx := hide HB.out.drew
                generalize wr.drew = W at *
                go_wp2_with fail
                refine wp_region_later (by kernel_rfl) (by kernel_rfl) ?_
                repeat (go_big_quiet_step (fail))
                refine wpQuiet_nil ?_
                refine later_intro fun w3 hb3 => ?_
                go_wp2
                go_ret
                exact ⟨ret_bool HF.out.symm, below_step HBx.out hb3⟩
      · have HR := hide (show R = false by rw [HT.out, decide_eq_false hl]; rfl)
        have hne : ((a.size : Int) != (b.size : Int)) = true := by simpa using (show ¬ (a.size : Int) = (b.size : Int) by omega)
        have hne2 : ((a.size : Int) == (b.size : Int)) = false := by simpa using (show ¬ (a.size : Int) = (b.size : Int) by omega)
        clear HT
        go_enter Tryd.func45, Tryd.ntmps45
        go_wp2_with fail
        refine (Q1.out _).mono ?_
        rintro e w1 ⟨rfl, hq⟩
        go_wp2_with fail
        refine (Q2.out _).mono ?_
        rintro e w2 ⟨rfl, hq2⟩
        go_wp2
        go_ret
        exact ⟨ret_bool HR.out.symm, below_step hq hq2⟩
end Go.Proofs.YtpkhdmhfkmajcaaDoor

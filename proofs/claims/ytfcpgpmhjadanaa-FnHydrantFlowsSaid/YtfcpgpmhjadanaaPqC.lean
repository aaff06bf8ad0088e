/- Several texts in one. IsGreatest: the plain law, and what the program's isGreatest returns. IsGreatest: the program's isGreatest. IsGreatest: what the program's and the reference's return. -/
import Derived.Test.YtfcpgpmhjadanaaNetIg
import Derived.Test.YtfcpgpmhjadanaaPqP
import Derived.Test.YtfcpgpmhjadanaaNetGs
import Derived.Test.YtfcpgpmhjadanaaRegionsS
namespace Go.Proofs.Ytfcpgpmhjadanaa
open Go.RowKit
set_option linter.unusedVariables false

/-- Whether hydrant i's flow is as it must be: TL the tight mains. -/
def igStep (M H : List (Int × Int)) (O F TL : List Int) (i : Nat) : Bool := match H[i]?, F[i]? with
  | some h, some f => if hasB O (i : Int) then decide (f = h.2) || (wayL M h.1).any (fun m => hasB TL (m : Int)) else decide (f = 0)
  | _, _ => false
theorem igStep_in {M H : List (Int × Int)} {O F TL : List Int} {i : Nat} {h : Int × Int} {f : Int} (hh : H[i]? = some h) (hf : F[i]? = some f) (ho : hasB O (i : Int) = true) : igStep M H O F TL i = (decide (f = h.2) || (wayL M h.1).any (fun m => hasB TL (m : Int))) := by simp [igStep, hh, hf, ho]
theorem igStep_out {M H : List (Int × Int)} {O F TL : List Int} {i : Nat} {h : Int × Int} {f : Int} (hh : H[i]? = some h) (hf : F[i]? = some f) (ho : hasB O (i : Int) = false) : igStep M H O F TL i = decide (f = 0) := by simp [igStep, hh, hf, ho]
def igTL (M H : List (Int × Int)) (F : List Int) : List Int := withN tightP M (loadsF M H F) M.length
def igB (M H : List (Int × Int)) (O F : List Int) : Bool := decide (withN overP M (loadsF M H F) M.length = []) && (List.range F.length).all (igStep M H O F (igTL M H F))
theorem igB_over {M H : List (Int × Int)} {O F : List Int} (h : ¬ withN overP M (loadsF M H F) M.length = []) : igB M H O F = false := by simp [igB, h]
theorem igB_bad {M H : List (Int × Int)} {O F : List Int} {i : Nat} (hi : i < F.length) (h : igStep M H O F (igTL M H F) i = false) : igB M H O F = false := by
  cases hc : igB M H O F with
  | false => rfl
  | true =>
    rw [igB, Bool.and_eq_true, List.all_eq_true] at hc
    rw [hc.2 i (List.mem_range.2 hi)] at h
    cases h
theorem igB_of {M H : List (Int × Int)} {O F : List Int} (ho : withN overP M (loadsF M H F) M.length = []) (h : ∀ i, i < F.length → igStep M H O F (igTL M H F) i = true) : igB M H O F = true := by
  rw [igB, Bool.and_eq_true, List.all_eq_true]
  exact ⟨by simpa using ho, fun i hi => h i (List.mem_range.1 hi)⟩

set_option maxHeartbeats 1000000 in
theorem igFn_any (b : Nat) (A : Option Addr) (n c : Nat) (L : List Int) (x : Int) (w : World) (hc : w.cell? ⟨b, 0, none⟩ = some (.slice A n c)) (hn : n = L.length) (hm : n ≤ 1048576) (hr : Rd w A (L.map (Value.int .i64))) :
    Calls Try.prog 59 #[.int .i64 x, .pointer (some ⟨b, 0, none⟩)] w fun e w' => e = .returned (.bool (hasB L x)) ∧ w = w' := by
  have q := hasInt_any A n c L x w hn hm hr
  have hb := World.block_lt_of_cell? w _ hc
  dsimp only at hb
  clear hn hr
  go_enter Try.func59, Try.ntmps59
  go_wp2_with (go_at_call 57; ((with_reducible refine (q).mono ?_); rintro e w' ⟨rfl, rfl⟩))
  go_ret
  exact ⟨rfl, rfl⟩
theorem any_at {α : Type} {p : α → Bool} {l : List α} {k : Nat} {a : α} (h : l[k]? = some a) (hp : p a = true) : l.any p = true := List.any_eq_true.2 ⟨a, List.mem_of_getElem? h, hp⟩
theorem any_none {α : Type} {p : α → Bool} {l : List α} (h : ∀ (i : Nat) (a : α), l[i]? = some a → p a = false) : l.any p = false := by
  rw [List.any_eq_false]
  intro a ha
  obtain ⟨i, hi⟩ := List.mem_iff_getElem?.1 ha
  simp [h i a hi]

set_option maxHeartbeats 1000000 in
theorem igIdx_any (b : Nat) (A : Option Addr) (n c : Nat) (L : List Int) (A' : Option Addr) (k c' : Nat) (N : List Nat) (w : World) (hc : w.cell? ⟨b, 0, none⟩ = some (.slice A n c)) (hn : n = L.length) (hm : n ≤ 1048576) (hr : Rd w A (L.map (Value.int .i64))) (hk : k = N.length) (hk2 : k ≤ 1048576) (hr2 : Rd w A' (natL N)) :
    Calls Try.prog 66 #[.slice A' k c', .func (.func 59) #[] #[.pointer (some ⟨b, 0, none⟩)]] w fun e w' => e = .returned (.int .i64 (findI (fun m : Nat => hasB L (m : Int)) N)) ∧ w = w' := by
  have q := fun x => igFn_any b A n c L x w hc hn hm hr
  have Q := hide q
  have Hk := hide hk
  have Hr := hide hr2
  clear q hc hn hr hk hr2
  go_enter Try.func66, Try.ntmps66
  go_wp2_with fail
  go_loop [8] (fun t => ∃ j : Nat, j ≤ k ∧ t = .int .i64 j ∧ Hid (∀ (i : Nat) (x : Nat), i < j → N[i]? = some x → hasB L (x : Int) = false)) (fun t => k - (intOf t).toNat)
  case atStart => exact ⟨0, by omega, rfl, hide (fun i x hi => absurd hi (by omega))⟩
  case round =>
    obtain ⟨j, hj, rfl, HA⟩ := hrel
    by_cases hlt : j < k
    · obtain ⟨x, hx⟩ : ∃ x, N[j]? = some x := ⟨_, List.getElem?_eq_getElem (by rw [← Hk.out]; exact hlt)⟩
      obtain ⟨b', off, rfl, hbs, c0⟩ := Hr.out.get1 (natL_get hx)
      have Hx := hide hx
      clear hx
      have q := Q.out (x : Int)
      cases hp : hasB L (x : Int) with
      | false =>
        have HN : Hid (∀ (i : Nat) (y : Nat), i < j + 1 → N[i]? = some y → hasB L (y : Int) = false) := hide (fun i y hi hy => by
          by_cases hi2 : i < j
          · exact HA.out i y hi2 hy
          · have hik : i = j := by omega
            rw [hik, Hx.out] at hy
            cases hy
            exact hp)
        rw [hp] at q
        clear hp
        go_wp2_with (go_at_call 59; ((with_reducible refine (q).mono ?_); rintro e w' ⟨rfl, rfl⟩))
        go_round
        case rel => exact ⟨j + 1, by omega, by go_num, HN⟩
        case measure => simp [intOf]; omega
      | true =>
        have HF : Hid (findI (fun m : Nat => hasB L (m : Int)) N = (j : Nat)) := hide (findI_at Hx.out hp (fun i b hi hb => HA.out i b hi hb))
        rw [hp] at q
        clear hp
        go_wp2_with (go_at_call 59; ((with_reducible refine (q).mono ?_); rintro e w' ⟨rfl, rfl⟩))
        go_ret
        exact ⟨ret_int HF.out.symm, rfl⟩
    · go_wp2
      go_ret
      exact ⟨ret_int (findI_none (fun i x hx => HA.out i x (by have := (List.getElem?_eq_some_iff.1 hx).1; have := Hk.out; omega) hx)).symm, rfl⟩
theorem findI_any {α : Type} (p : α → Bool) (l : List α) : decide (0 ≤ findI p l) = l.any p := by
  rcases findI_cases p l with h | ⟨k, a, h, hk, hp⟩
  · rw [h]
    have : l.any p = false := by
      unfold findI at h
      cases hf : l.findIdx? p with
      | some q => rw [hf] at h; simp at h
      | none =>
        rw [List.any_eq_false]
        intro y hy
        simpa using List.findIdx?_eq_none_iff.1 hf y hy
    rw [this]; simp
  · rw [h, any_at hk hp]; simp

set_option maxHeartbeats 1000000 in
theorem igAny_any (b : Nat) (A : Option Addr) (n c : Nat) (L : List Int) (A' : Option Addr) (k c' : Nat) (N : List Nat) (w : World) (hc : w.cell? ⟨b, 0, none⟩ = some (.slice A n c)) (hn : n = L.length) (hm : n ≤ 1048576) (hr : Rd w A (L.map (Value.int .i64))) (hk : k = N.length) (hk2 : k ≤ 1048576) (hr2 : Rd w A' (natL N)) :
    Calls Try.prog 58 #[.slice A' k c', .func (.func 59) #[] #[.pointer (some ⟨b, 0, none⟩)]] w fun e w' => e = .returned (.bool (N.any (fun m => hasB L (m : Int)))) ∧ w = w' := by
  have Q := hide (igIdx_any b A n c L A' k c' N w hc hn hm hr hk hk2 hr2)
  have HE := hide (findI_any (fun m : Nat => hasB L (m : Int)) N)
  clear hc hn hr hk hr2
  go_enter Try.func58, Try.ntmps58
  go_wp2_with (go_at_call 66; ((with_reducible refine (Q.out).mono ?_); rintro e w' ⟨rfl, rfl⟩))
  go_ret
  exact ⟨ret_bool HE.out, rfl⟩
end Go.Proofs.Ytfcpgpmhjadanaa
namespace Go.Proofs.Ytfcpgpmhjadanaa
open Go.RowKit
set_option linter.unusedVariables false

set_option maxRecDepth 100000 in
set_option maxHeartbeats 8000000 in
theorem isGreatest_any (b0 : Nat) (A B C E : Option Addr) (n c m d k ecap j jcap : Nat) (M H : List (Int × Int)) (O F : List Int) (w : World) (hn : n = M.length) (hm : m = H.length) (hk : NetOk M H) (hkO : k = O.length) (hk10 : k ≤ 1048576) (hfl : flowsB H F = true) (hj : j = F.length) (hr : NetRd w A B M H) (ho : Rd w C (O.map (Value.int .i64))) (hf : Rd w E (F.map (Value.int .i64))) (hc0 : w.cell? ⟨b0, 0, none⟩ = some (.slice A n c)) (hc1 : w.cell? ⟨b0, 1, none⟩ = some (.slice B m d)) :
    Calls Try.prog 39 #[.pointer (some ⟨b0, 0, none⟩), .slice C k ecap, .slice E j jcap] w fun e w' => e = .returned (.bool (igB M H O F)) ∧ Below w.heap.size w w' := by
  have hn10 : n ≤ 10 := by have := hk.m10; omega
  have hm10 : m ≤ 10 := by have := hk.h10; omega
  have HJM := hide (show j = m by have := (flowsB_get hfl).1; omega)
  have hjm : j ≤ m := by have := HJM.out; omega
  have Hn := hide hn
  have Hm := hide hm
  have HK := hide hk
  have HkO := hide hkO
  have HFL := hide (flowsB_get hfl)
  have HF5 := hide (flowsB_5000 hk hfl)
  have Hj := hide hj
  have Hr := hide hr
  have Ho := hide ho
  have Hf := hide hf
  have HC0 := hide hc0
  have HC1 := hide hc1
  have hb0 := World.block_lt_of_cell? w _ hc0
  dsimp only at hb0
  have QO := hide (igOver_any b0 A B E n c m d j jcap M H F w hn hm hk hj (by omega) (flowsB_5000 hk hfl) hr hf hc0 hc1)
  clear hn hm hk hkO hfl hj hr ho hf
  have HLO := hide (igB_over (M := M) (H := H) (O := O) (F := F))
  have HOF := hide (igB_of (M := M) (H := H) (O := O) (F := F))
  have HBAD := hide (fun (i : Nat) => igB_bad (M := M) (H := H) (O := O) (F := F) (i := i))
  rw [← show n = M.length from Hn.out] at HLO HOF
  have HTE := hide (show igTL M H F = withN tightP M (loadsF M H F) n by rw [igTL, ← show n = M.length from Hn.out])
  rw [HTE.out] at HOF HBAD
  have HTL := hide (withN_length tightP M (loadsF M H F) n)
  clear HTE
  generalize igB M H O F = R at *
  go_enter Try.func39, Try.ntmps39
  go_wp2_with fail
  refine QO.out.mono ?_
  rintro e w1 ⟨⟨v, rfl, hov⟩, hq⟩
  obtain ⟨A1, k1, rfl, -⟩ := own_open hov
  have HB1 := hide hq
  have a0 := cell_on hc0 hq
  have a1 := cell_on hc1 hq
  have QT := hide (igTight_any b0 A B E n c m d j jcap M H F w1 Hn.out Hm.out HK.out Hj.out (by omega) HF5.out (NetRd.below Hr.out HB1.out) (Hf.out.below HB1.out) a0 a1)
  clear hov hq QO hc0 hc1 a0 a1
  generalize withN overP M (loadsF M H F) n = L1 at *
  by_cases hL : L1.length = 0
  · have HL0 := hide (show L1 = [] from List.eq_nil_of_length_eq_zero hL)
    rw [hL]
    clear hL
    go_wp2_with fail
    refine QT.out.mono ?_
    rintro e w2 ⟨⟨v, rfl, hov⟩, hq⟩
    obtain ⟨A2, k2, rfl, -⟩ := own_open hov
    have HB2 := hide (below_step HB1.out hq)
    have HT := hide (own_rd hov)
    clear hov hq QT
    generalize withN tightP M (loadsF M H F) n = TL at *
    have HTE := hide (show TL.length ≤ 10 by have := HTL.out; omega)
    go_wp2_with fail
    have HQ := hide (Row.new w2 #[.slice A2 TL.length k2] 28)
    have HB3 := hide (below_alloc HB2.out (.cells #[.slice A2 TL.length k2] 28))
    have HTA := hide (HT.out.alloc (.cells #[.slice A2 TL.length k2] 28))
    generalize w2.alloc (.cells #[.slice A2 TL.length k2] 28) = W at *
    have HP1 := hide (HOF.out HL0.out)
    clear HOF HT HB1 HB2 HLO
    go_loopw [20] (fun t wr => ∃ i : Nat, i ≤ j ∧ t = .int .i64 i ∧ Hid (∀ q, q < i → igStep M H O F TL q = true) ∧ Hid (Below W.heap.size W wr)) (fun t _ => j - (intOf t).toNat)
    case atStart => exact ⟨0, by omega, rfl, hide (fun q hq => absurd hq (by omega)), hide (Below.refl _ _)⟩
    case round =>
      obtain ⟨i, hi, rfl, HA, HBi⟩ := hrel
      have HBA := hide (below_step HB3.out HBi.out)
      by_cases hij : i < j
      · obtain ⟨f, hh⟩ : ∃ f, F[i]? = some f := ⟨_, List.getElem?_eq_getElem (by rw [← Hj.out]; exact hij)⟩
        have him : i < m := by omega
        obtain ⟨⟨y0, y1⟩, hy⟩ : ∃ h, H[i]? = some h := ⟨_, List.getElem?_eq_getElem (by rw [← Hm.out]; exact him)⟩
        obtain ⟨z0, z1, z2, z3⟩ := HK.out.hyd i _ hy
        obtain ⟨f0, f1⟩ := HFL.out.2 i _ f hy hh
        obtain ⟨b, off, rfl, hbs, c0⟩ := (Hf.out.below HBA.out).get1 (u := .int .i64 f) (by rw [List.getElem?_map, hh]; rfl)
        obtain ⟨b', off', rfl, hbs', d0, d1⟩ := (Hr.out.below HBA.out).2.get2 (fun _ => rfl) hy rfl
        have HIN := hide (fun h => igStep_in (M := M) (O := O) (TL := TL) hy hh h)
        have HOUT := hide (fun h => igStep_out (M := M) (O := O) (TL := TL) hy hh h)
        have HY := hide hy
        have q0 := cell_on HC0.out HBA.out
        have q1 := cell_on HC1.out HBA.out
        have hbw := World.block_lt_of_cell? wr _ q0
        have hx0 : y0 < n := by have := Hn.out; dsimp only at z1; omega
        have HWL : Hid ((wayL M y0).length ≤ 10) := hide (by have := wayL_length M y0; omega)
        have QC := hasInt_any C k ecap O (i : Int) wr HkO.out hk10 (Ho.out.below HBA.out)
        have r0 := (HQ.out.below HBi.out).2.1 0 _ rfl
        have hrz := (HQ.out.below HBi.out).1
        have HB_ := hide (HBAD.out i (by rw [← show j = F.length from Hj.out]; exact hij))
        dsimp only at d0 d1 z0 z1 z2 z3 f1 hbw HIN HOUT
        clear hh hy z1
        cases hO : hasB O (i : Int) with
        | false =>
          rw [hO] at QC
          have HST := hide (HOUT.out hO)
          clear hO
          by_cases hf0 : f = 0
          · have HG := hide (show igStep M H O F TL i = true by rw [HST.out]; simpa using hf0)
            subst hf0
            go_wp2_with (go_at_call 57; ((with_reducible refine (QC).mono ?_); rintro e w' ⟨rfl, rfl⟩))
            go_roundw
            case rel =>
              refine ⟨i + 1, by omega, by go_num, hide (fun q hq => ?_), HBi⟩
              by_cases hq2 : q < i
              · exact HA.out q hq2
              · rw [show q = i by omega]; exact HG.out
            case measure => simp [intOf]; omega
          · have HG := hide (HB_.out (by rw [HST.out]; simpa using hf0))
            have hf2 : (f == 0) = false := by simpa using hf0
            have hf3 : (f != 0) = true := by simpa using hf0
            go_wp2_with (go_at_call 57; ((with_reducible refine (QC).mono ?_); rintro e w' ⟨rfl, rfl⟩))
            go_ret
            exact ⟨ret_bool HG.out.symm, HBA.out⟩
        | true =>
          rw [hO] at QC
          have HST := hide (HIN.out hO)
          clear hO
          by_cases hfm : f < y1
          · have HST2 := hide (show igStep M H O F TL i = (wayL M y0).any (fun m => hasB TL (m : Int)) by rw [HST.out, decide_eq_false (by omega)]; rfl)
            go_wp2_with (go_at_call 57; ((with_reducible refine (QC).mono ?_); rintro e w' ⟨rfl, rfl⟩))
            refine (way_any b0 A (some ⟨b', off', none⟩) n c m d i M H y0 y1 wr Hn.out Hm.out HK.out HY.out (Hr.out.below HBA.out) q0 q1).mono ?_
            rintro e w4 ⟨⟨v, rfl, ho⟩, hq⟩
            obtain ⟨A', cap, rfl, -⟩ := own_open ho
            have QA := hide (igAny_any w2.heap.size A2 TL.length k2 TL A' (wayL M y0).length cap (wayL M y0) w4 (cell_on r0 hq) rfl (by have := HTE.out; omega) (HTA.out.below (below_step HBi.out hq)) rfl (by have := HWL.out; omega) (own_rd ho))
            have HB4 := hide (below_step HBi.out hq)
            have hrz4 := Nat.lt_of_lt_of_le hrz hq.size
            clear ho hq q0 q1 d0 d1 c0 r0 QC
            cases hA : (wayL M y0).any (fun m => hasB TL (m : Int)) with
            | true =>
              have HG := hide (show igStep M H O F TL i = true by rw [HST2.out, hA])
              rw [hA] at QA
              clear hA
              generalize (wayL M y0).length = L at *
              go_wp2_with (go_at_call 58; ((with_reducible refine (QA.out).mono ?_); rintro e w' ⟨rfl, rfl⟩))
              go_roundw
              case rel =>
                refine ⟨i + 1, by omega, by go_num, hide (fun q hq => ?_), HB4⟩
                by_cases hq2 : q < i
                · exact HA.out q hq2
                · rw [show q = i by omega]; exact HG.out
              case measure => simp [intOf]; omega
            | false =>
              have HG := hide (HB_.out (by rw [HST2.out, hA]))
              rw [hA] at QA
              clear hA
              generalize (wayL M y0).length = L at *
              go_wp2_with (go_at_call 58; ((with_reducible refine (QA.out).mono ?_); rintro e w' ⟨rfl, rfl⟩))
              go_ret
              exact ⟨ret_bool HG.out.symm, below_step HB3.out HB4.out⟩
          · have HG := hide (show igStep M H O F TL i = true by rw [HST.out, decide_eq_true (by omega)]; rfl)
            go_wp2_with (go_at_call 57; ((with_reducible refine (QC).mono ?_); rintro e w' ⟨rfl, rfl⟩))
            go_roundw
            case rel =>
              refine ⟨i + 1, by omega, by go_num, hide (fun q hq => ?_), HBi⟩
              by_cases hq2 : q < i
              · exact HA.out q hq2
              · rw [show q = i by omega]; exact HG.out
            case measure => simp [intOf]; omega
      · have HG := hide (HP1.out (fun q hq => HA.out q (by have := Hj.out; omega)))
        go_wp2
        go_ret
        exact ⟨ret_bool HG.out.symm, HBA.out⟩
  · have HN := hide (HLO.out (fun e => hL (by rw [e]; rfl)))
    have hL3 : (0 : Int) < (L1.length : Int) := by omega
    generalize L1.length = ll at *
    go_wp2
    go_ret
    exact ⟨ret_bool HN.out.symm, HB1.out⟩
end Go.Proofs.Ytfcpgpmhjadanaa
namespace Go.Proofs.Ytfcpgpmhjadanaa
open Go.RowKit
set_option linter.unusedVariables false

def igOk (M H : List (Int × Int)) (O F : List Int) : Bool := openB M H O && flowsB H F
def igV (M H : List (Int × Int)) (O F : List Int) : Bool := igOk M H O F && igB M H O F
theorem igV_no {M H : List (Int × Int)} {O F : List Int} (h : igOk M H O F = false) : igV M H O F = false := by rw [igV, h]; rfl
theorem igV_yes {M H : List (Int × Int)} {O F : List Int} (h : igOk M H O F = true) : igV M H O F = igB M H O F := by rw [igV, h]; rfl

set_option maxRecDepth 100000 in
set_option maxHeartbeats 4000000 in
theorem implIsGreatest_any (A B C E : Option Addr) (n c m d k ecap j jcap : Nat) (M H : List (Int × Int)) (O F : List Int) (w : World) (hn : n = M.length) (hm : m = H.length) (hnm : n ≤ maxLen) (hmm : m ≤ maxLen) (hkO : k = O.length) (hkm : k ≤ 1048576) (hjF : j = F.length) (hjm : j ≤ 1048576) (hr : NetRd w A B M H) (ho : Rd w C (O.map (Value.int .i64))) (hf : Rd w E (F.map (Value.int .i64))) :
    Calls Try.prog 16 #[.agg #[.slice A n c, .slice B m d], .slice C k ecap, .slice E j jcap] w fun e w' => e = .returned (.tuple #[.bool (igV M H O F), .bool (igOk M H O F)]) ∧ Below w.heap.size w w' := by
  have hc := cell_new2 w (.slice A n c) (.slice B m d) 27
  have Q := hide (implisNet_any w.heap.size A B n c m d M H (w.alloc (.cells #[.slice A n c, .slice B m d] 27)) hn hm hnm hmm (hr.alloc _) hc.1 hc.2)
  have Hn := hide hn
  have Hm := hide hm
  have HkO := hide hkO
  have HjF := hide hjF
  have Hr := hide hr
  have Ho := hide ho
  have Hf := hide hf
  clear hn hm hkO hjF hr ho hf
  cases hN : netB M H with
  | false =>
    rw [hN] at Q
    have HE := hide (show igOk M H O F = false by rw [igOk, openB_no hN]; rfl)
    clear hN hc
    go_enter Try.func16, Try.ntmps16
    go_wp2_with (go_at_call 24; ((with_reducible refine (Q.out).mono ?_); rintro e w1 ⟨rfl, hb1⟩); obtain ⟨hc1, hf1⟩ := bcell hb1)
    go_ret2
    exact ⟨ret_tupb (igV_no HE.out).symm HE.out.symm, (by repeat (first | exact Below.refl _ _ | refine below_step ?_ (by assumption) | refine below_step ?_ (Later.below _) | refine below_alloc ?_ _ | refine Below.drew ?_ | refine Below.setCell ?_ (by first | (simp; done) | (simp; omega)) _))⟩
  | true =>
    have hk := netB_ok hN
    have HK := hide hk
    have HE := hide (show openB M H O = risB 0 ((m : Int) - 1) O by rw [openB_eq hN, ← show m = H.length from Hm.out])
    rw [hN] at Q
    have hm10 : m ≤ 10 := by have := hk.h10; have := Hm.out; omega
    clear hN hk
    go_enter Try.func16, Try.ntmps16
    go_wp2_with fail
    refine Q.out.mono ?_
    rintro e w1 ⟨rfl, hq⟩
    have HW1 : Hid (Below w.heap.size w w1) := hide (below_step (below_alloc (Below.refl _ _) _) hq)
    have a0 := cell_on hc.1 hq
    have a1 := cell_on hc.2 hq
    clear hq Q hc
    have QA := areOpen_any w.heap.size B m d C k ecap O w1 (by omega) HkO.out (by unfold maxLen; omega) (Ho.out.below HW1.out) a1
    cases hff : risB 0 ((m : Int) - 1) O with
    | false =>
      rw [hff] at QA
      have HE' := hide (show igOk M H O F = false by rw [igOk, HE.out, hff]; rfl)
      clear hff
      go_wp2_with fail
      refine QA.mono ?_
      rintro e w' ⟨rfl, rfl⟩
      go_wp2
      go_ret2
      exact ⟨ret_tupb (igV_no HE'.out).symm HE'.out.symm, HW1.out⟩
    | true =>
      rw [hff] at QA
      have HE2 := hide (show igOk M H O F = flowsB H F by rw [igOk, HE.out, hff]; rfl)
      have QB := areFlows_any w.heap.size A B E n c m d j jcap M H F w1 Hm.out hm10 HjF.out (by unfold maxLen; omega) (Hr.out.below HW1.out) (Hf.out.below HW1.out) a0 a1
      clear hff
      cases hfl : flowsB H F with
      | false =>
        rw [hfl] at QB
        have HE' := hide (show igOk M H O F = false by rw [HE2.out, hfl])
        clear hfl
        go_wp2_with fail
        refine QA.mono ?_
        rintro e w' ⟨rfl, rfl⟩
        go_wp2_with fail
        refine QB.mono ?_
        rintro e w' ⟨rfl, rfl⟩
        go_wp2
        go_ret2
        exact ⟨ret_tupb (igV_no HE'.out).symm HE'.out.symm, HW1.out⟩
      | true =>
        rw [hfl] at QB
        have HE' := hide (show igOk M H O F = true by rw [HE2.out, hfl])
        have HFL := hide hfl
        clear hfl
        go_wp2_with fail
        refine QA.mono ?_
        rintro e w' ⟨rfl, rfl⟩
        go_wp2_with fail
        refine QB.mono ?_
        rintro e w' ⟨rfl, rfl⟩
        go_wp2_with fail
        refine (isGreatest_any w.heap.size A B C E n c m d k ecap j jcap M H O F w1 Hn.out Hm.out HK.out HkO.out hkm HFL.out HjF.out (Hr.out.below HW1.out) (Ho.out.below HW1.out) (Hf.out.below HW1.out) a0 a1).mono ?_
        rintro e w2 ⟨rfl, hq⟩
        go_wp2
        go_ret2
        exact ⟨ret_tupb (igV_yes HE'.out).symm HE'.out.symm, below_step HW1.out hq⟩

set_option maxRecDepth 100000 in
set_option maxHeartbeats 8000000 in
theorem specIsGreatest_any (A B C E : Option Addr) (n c m d k ecap j jcap : Nat) (M H : List (Int × Int)) (O F : List Int) (w : World) (hn : n = M.length) (hm : m = H.length) (hnm : n ≤ maxLen) (hmm : m ≤ maxLen) (hkO : k = O.length) (hkm : k ≤ 1048576) (hjF : j = F.length) (hjm : j ≤ 1048576) (hr : NetRd w A B M H) (ho : Rd w C (O.map (Value.int .i64))) (hf : Rd w E (F.map (Value.int .i64))) :
    Calls Try.prog 22 #[.agg #[.slice A n c, .slice B m d], .slice C k ecap, .slice E j jcap] w fun e w' => e = .returned (.tuple #[.bool (igV M H O F), .bool (igOk M H O F)]) ∧ Below w.heap.size w w' := by
  have hc := cell_new2 w (.slice A n c) (.slice B m d) 27
  have Q := hide (hyOpen_any A B C n c m d k ecap M H O (w.alloc (.cells #[.slice A n c, .slice B m d] 27)) hn hm hnm hmm hkO (by unfold maxLen; omega) (hr.alloc _) (ho.alloc _))
  have Hn := hide hn
  have Hm := hide hm
  have HkO := hide hkO
  have HjF := hide hjF
  have Hr := hide hr
  have Ho := hide ho
  have Hf := hide hf
  clear hn hm hkO hjF hr ho hf
  cases hA : openB M H O with
  | false =>
    rw [hA] at Q
    have HE := hide (show igOk M H O F = false by rw [igOk, hA]; rfl)
    clear hA hc
    go_enter Try.func22, Try.ntmps22
    go_wp2_with (go_at_call 28; ((with_reducible refine (Q.out).mono ?_); rintro e w1 ⟨rfl, hb1⟩); obtain ⟨hc1, hf1⟩ := bcell hb1)
    go_ret2
    exact ⟨ret_tupb (igV_no HE.out).symm HE.out.symm, (by repeat (first | exact Below.refl _ _ | refine below_step ?_ (by assumption) | refine below_step ?_ (Later.below _) | refine below_alloc ?_ _ | refine Below.drew ?_ | refine Below.setCell ?_ (by first | (simp; done) | (simp; omega)) _))⟩
  | true =>
    rw [hA] at Q
    have HE2 := hide (show igOk M H O F = flowsB H F by rw [igOk, hA]; rfl)
    rw [openB, Bool.and_eq_true] at hA
    have HK := hide (netB_ok hA.1)
    have hm10 : m ≤ 10 := by have := HK.out.h10; have := Hm.out; omega
    have hn10 : n ≤ 10 := by have := HK.out.m10; have := Hn.out; omega
    clear hA
    go_enter Try.func22, Try.ntmps22
    go_wp2_with fail
    refine Q.out.mono ?_
    rintro e w1 ⟨rfl, hq⟩
    have HW1 : Hid (Below w.heap.size w w1) := hide (below_step (below_alloc (Below.refl _ _) _) hq)
    have a0 := cell_on hc.1 hq
    have a1 := cell_on hc.2 hq
    have z0 := World.block_lt_of_cell? w1 _ a0
    clear hq Q hc
    dsimp only at z0
    have QB := hide (hyFlows_any A B E n c m d j jcap M H F w1 Hm.out hm10 HjF.out (by unfold maxLen; omega) (Hr.out.below HW1.out) (Hf.out.below HW1.out))
    cases hfl : flowsB H F with
    | false =>
      rw [hfl] at QB
      have HE' := hide (show igOk M H O F = false by rw [HE2.out, hfl])
      clear hfl
      go_wp2_with fail
      refine QB.out.mono ?_
      rintro e w2 ⟨rfl, hq⟩
      go_wp2
      go_ret2
      exact ⟨ret_tupb (igV_no HE'.out).symm HE'.out.symm, below_step HW1.out hq⟩
    | true =>
      rw [hfl] at QB
      have HE' := hide (show igOk M H O F = true by rw [HE2.out, hfl])
      have HFL := hide (flowsB_get hfl)
      have HF5 := hide (flowsB_5000 HK.out hfl)
      have HJM := hide (show j = m by have := HFL.out.1; have := Hm.out; have := HjF.out; omega)
      have hjm2 : j ≤ m := by have := HJM.out; omega
      have HLO := hide (igB_over (M := M) (H := H) (O := O) (F := F))
      have HOF := hide (igB_of (M := M) (H := H) (O := O) (F := F))
      have HBAD := hide (fun (i : Nat) => igB_bad (M := M) (H := H) (O := O) (F := F) (i := i))
      rw [← show n = M.length from Hn.out] at HLO HOF
      have HTE := hide (show igTL M H F = withN tightP M (loadsF M H F) n by rw [igTL, ← show n = M.length from Hn.out])
      rw [HTE.out] at HOF HBAD
      have HTL := hide (withN_length tightP M (loadsF M H F) n)
      have HVV := hide (igV_yes HE'.out)
      clear HTE hfl
      generalize igB M H O F = R at *
      go_wp2_with fail
      refine QB.out.mono ?_
      rintro e w2 ⟨rfl, hq⟩
      have HB2 := hide (below_step HW1.out hq)
      replace a0 := cell_on a0 hq
      replace a1 := cell_on a1 hq
      have z0 := World.block_lt_of_cell? w2 _ a0
      dsimp only at z0
      clear hq QB
      have QO := hide (hyOver_any A B E n c m d j jcap M H F w2 Hn.out Hm.out HK.out HjF.out (by omega) HF5.out (NetRd.below Hr.out HB2.out) (Hf.out.below HB2.out))
      go_wp2_with fail
      refine QO.out.mono ?_
      rintro e w3 ⟨⟨v, rfl, hov⟩, hq⟩
      obtain ⟨A1, k1, rfl, -⟩ := own_open hov
      have HB3 := hide (below_step HB2.out hq)
      replace a0 := cell_on a0 hq
      replace a1 := cell_on a1 hq
      have z0 := World.block_lt_of_cell? w3 _ a0
      dsimp only at z0
      have QT := hide (hyTight_any A B E n c m d j jcap M H F w3 Hn.out Hm.out HK.out HjF.out (by omega) HF5.out (NetRd.below Hr.out HB3.out) (Hf.out.below HB3.out))
      clear hov hq QO
      generalize withN overP M (loadsF M H F) n = L1 at *
      by_cases hL : L1.length = 0
      · have HL0 := hide (show L1 = [] from List.eq_nil_of_length_eq_zero hL)
        rw [hL]
        clear hL
        have HC0 := hide a0
        have HC1 := hide a1
        go_wp2_with fail
        refine QT.out.mono ?_
        rintro e w4 ⟨⟨v, rfl, hov⟩, hq⟩
        obtain ⟨A2, k2, rfl, -⟩ := own_open hov
        have HB4 := hide (below_step HB3.out hq)
        have HD0 := hide (cell_on a0 hq)
        have HD1 := hide (cell_on a1 hq)
        have HT := hide (own_rd hov)
        clear hov hq QT a0 a1
        generalize withN tightP M (loadsF M H F) n = TL at *
        have HTE := hide (show TL.length ≤ 10 by have := HTL.out; omega)
        have HP1 := hide (HOF.out HL0.out)
        clear HOF HLO
        go_wp2_with fail
        go_loopw [33] (fun t wr => ∃ i : Nat, i ≤ j ∧ t = .int .i64 i ∧ Hid (∀ q, q < i → igStep M H O F TL q = true) ∧ Hid (Below w4.heap.size w4 wr)) (fun t _ => j - (intOf t).toNat)
        case atStart => exact ⟨0, by omega, rfl, hide (fun q hq => absurd hq (by omega)), hide (Below.refl _ _)⟩
        case round =>
          obtain ⟨i, hi, rfl, HA, HBi⟩ := hrel
          have HBA := hide (below_step HB4.out HBi.out)
          by_cases hij : i < j
          · obtain ⟨f, hh⟩ : ∃ f, F[i]? = some f := ⟨_, List.getElem?_eq_getElem (by rw [← HjF.out]; exact hij)⟩
            have him : i < m := by omega
            obtain ⟨⟨y0, y1⟩, hy⟩ : ∃ h, H[i]? = some h := ⟨_, List.getElem?_eq_getElem (by rw [← Hm.out]; exact him)⟩
            obtain ⟨z00, z1, z2, z3⟩ := HK.out.hyd i _ hy
            obtain ⟨f0, f1⟩ := HFL.out.2 i _ f hy hh
            obtain ⟨b, off, rfl, hbs, c0⟩ := (Hf.out.below HBA.out).get1 (u := .int .i64 f) (by rw [List.getElem?_map, hh]; rfl)
            obtain ⟨b', off', rfl, hbs', d0, d1⟩ := (Hr.out.below HBA.out).2.get2 (fun _ => rfl) hy rfl
            have HIN := hide (fun h => igStep_in (M := M) (O := O) (TL := TL) hy hh h)
            have HOUT := hide (fun h => igStep_out (M := M) (O := O) (TL := TL) hy hh h)
            have q0 := cell_on HD0.out HBi.out
            have q1 := cell_on HD1.out HBi.out
            have hbw := World.block_lt_of_cell? wr _ q0
            have hx0 : y0 < n := by have := Hn.out; dsimp only at z1; omega
            have QC := l1Has_any C k ecap O (i : Int) wr HkO.out hkm (Ho.out.below HBA.out)
            have HB_ := hide (HBAD.out i (by rw [← show j = F.length from HjF.out]; exact hij))
            dsimp only at d0 d1 z00 z1 z2 z3 f1 hbw HIN HOUT
            have ey : IntKind.i64.wrap (y0 + 1) = y0 + 1 := IntWalk.i64_in _ (by omega)
            clear hh hy z1
            cases hO : hasB O (i : Int) with
            | false =>
              rw [hO] at QC
              have HST := hide (HOUT.out hO)
              clear hO
              by_cases hf0 : f = 0
              · have HG := hide (show igStep M H O F TL i = true by rw [HST.out]; simpa using hf0)
                subst hf0
                go_wp2_with (go_at_call 49; ((with_reducible refine (QC).mono ?_); rintro e w' ⟨rfl, rfl⟩))
                go_roundw
                case rel =>
                  refine ⟨i + 1, by omega, by go_num, hide (fun q hq => ?_), HBi⟩
                  by_cases hq2 : q < i
                  · exact HA.out q hq2
                  · rw [show q = i by omega]; exact HG.out
                case measure => simp [intOf]; omega
              · have HG := hide (HB_.out (by rw [HST.out]; simpa using hf0))
                have hf2 : 0 < f := by omega
                go_wp2_with (go_at_call 49; ((with_reducible refine (QC).mono ?_); rintro e w' ⟨rfl, rfl⟩))
                go_ret2
                exact ⟨ret_tupb (by rw [HVV.out, HG.out]) HE'.out.symm, HBA.out⟩
            | true =>
              rw [hO] at QC
              have HST := hide (HIN.out hO)
              clear hO
              obtain ⟨wo, rfl⟩ : ∃ wo, wo = wr := ⟨_, rfl⟩
              go_wp2_with (go_at_call 49; ((with_reducible refine (QC).mono ?_); rintro e w' ⟨rfl, rfl⟩))
              go_loopw [11, 12] (fun v t wr => ∃ (P : List Nat) (a : Int) (fb : Bool), t = .int .i64 a ∧ -1 ≤ a ∧ a < n ∧ v = .bool fb ∧ Hid (P ++ wayL M a = wayL M y0) ∧ Hid (fb = (decide (f = y1) || P.any (fun m => hasB TL (m : Int)))) ∧ Hid (Below wo.heap.size wo wr)) (fun _ t _ => (intOf t + 1).toNat)
              case atStart => exact ⟨[], y0, _, rfl, by omega, by omega, rfl, hide rfl, hide (by rw [Bool.eq_iff_iff]; simp), hide (Below.refl _ _)⟩
              case round =>
                obtain ⟨P, a, fb, rfl, ha0, ha1, rfl, HP, HFB, HBo⟩ := hrel
                have HBC := hide (below_step HBA.out HBo.out)
                by_cases h0 : 0 ≤ a
                · obtain ⟨q, rfl⟩ := Int.eq_ofNat_of_zero_le h0
                  have hqn : q < n := by omega
                  obtain ⟨⟨p0, p1⟩, hp⟩ : ∃ h, M[q]? = some h := ⟨_, List.getElem?_eq_getElem (by rw [← Hn.out]; exact hqn)⟩
                  have hpl := HK.out.par_lt (k := q) (by rw [← Hn.out]; exact hqn)
                  rw [par_some hp] at hpl
                  obtain ⟨hp1, hp2⟩ := hpl
                  dsimp only at hp1 hp2
                  have HW := hide (show wayL M q = q :: wayL M p0 by rw [wayL_step HK.out (by rw [← Hn.out]; exact hqn), par_some hp])
                  obtain ⟨b3, off3, rfl, hbs3, e0, e1⟩ := (Hr.out.below HBC.out).1.get2 (fun _ => rfl) hp rfl
                  have q2 := cell_on q0 HBo.out
                  have hbz3 := World.block_lt_of_cell? wr _ q2
                  dsimp only at e0 e1 hbz3
                  have QD := l1Has_any A2 TL.length k2 TL (q : Int) wr rfl (by have := HTE.out; omega) (HT.out.below (below_step HBi.out HBo.out))
                  have HNX := hide (show ∀ fb', fb' = (fb || hasB TL (q : Int)) → fb' = (decide (f = y1) || (P ++ [q]).any (fun m => hasB TL (m : Int))) from fun fb' hfb => by rw [hfb, HFB.out, List.any_append]; simp [Bool.or_assoc])
                  have HPX := hide (show (P ++ [q]) ++ wayL M p0 = wayL M y0 by rw [List.append_assoc, List.singleton_append, ← HW.out]; exact HP.out)
                  clear hp h0
                  cases fb with
                  | true =>
                    go_wp2
                    go_roundw
                    case rel => exact ⟨P ++ [q], p0, true, rfl, by omega, by omega, rfl, HPX, hide (HNX.out true rfl), HBo⟩
                    case measure => simp [intOf]; omega
                  | false =>
                    have HQD := hide QD
                    clear QD
                    generalize hqq : hasB TL (q : Int) = hb at *
                    cases hb with
                    | true =>
                      have QD := HQD.out
                      go_wp2_with (go_at_call 49; ((with_reducible refine (QD).mono ?_); rintro e w' ⟨rfl, rfl⟩))
                      go_roundw
                      case rel => exact ⟨P ++ [q], p0, true, rfl, by omega, by omega, rfl, HPX, hide (HNX.out true rfl), HBo⟩
                      case measure => simp [intOf]; omega
                    | false =>
                      have QD := HQD.out
                      go_wp2_with (go_at_call 49; ((with_reducible refine (QD).mono ?_); rintro e w' ⟨rfl, rfl⟩))
                      go_roundw
                      case rel => exact ⟨P ++ [q], p0, false, rfl, by omega, by omega, rfl, HPX, hide (HNX.out false rfl), HBo⟩
                      case measure => simp [intOf]; omega
                · have HPE := hide (show P = wayL M y0 by have := HP.out; rwa [wayL_neg M a (by omega), List.append_nil] at this)
                  have HST2 := hide (show igStep M H O F TL i = fb by rw [HST.out, HFB.out, HPE.out])
                  cases fb with
                  | true =>
                    go_wp2
                    go_roundw
                    case rel =>
                      refine ⟨i + 1, by omega, by go_num, hide (fun q hq => ?_), hide (below_step HBi.out HBo.out)⟩
                      by_cases hq2 : q < i
                      · exact HA.out q hq2
                      · rw [show q = i by omega]; exact HST2.out
                    case measure => simp [intOf]; omega
                  | false =>
                    have HG := hide (HB_.out HST2.out)
                    go_wp2
                    go_ret2
                    exact ⟨ret_tupb (by rw [HVV.out, HG.out]) HE'.out.symm, HBC.out⟩
          · have HG := hide (HP1.out (fun q hq => HA.out q (by have := HjF.out; omega)))
            go_wp2
            go_ret2
            exact ⟨ret_tupb (by rw [HVV.out, HG.out]) HE'.out.symm, HBA.out⟩
      · have HN := hide (HLO.out (fun e => hL (by rw [e]; rfl)))
        have hL3 : (0 : Int) < (L1.length : Int) := by omega
        generalize L1.length = ll at *
        go_wp2
        go_ret2
        exact ⟨ret_tupb (by rw [HVV.out, HN.out]) HE'.out.symm, HB3.out⟩
end Go.Proofs.Ytfcpgpmhjadanaa

/- ParseAddress: both sides. -/
import Derived.Test.YtpkhdmhfkmajcaaDoorParA
import Derived.Test.YtpkhdmhfkmajcaaDoorParE
import Derived.Test.YtpkhdmhfkmajcaaDoorStrA
namespace Go.Proofs.YtpkhdmhfkmajcaaDoor
open Go.RowKit
set_option linter.unusedVariables false

/-- What is handed back where there is an address, and where there is none. -/
def adT (o : Option (ByteArray × Int)) : Value := match o with
  | some x => .tuple #[.string x.1, .int .i64 x.2, .bool true]
  | none => .tuple #[.string ⟨#[]⟩, .int .i64 0, .bool false]
def adI (s : ByteArray) : Option (ByteArray × Int) := if roadB (cutA s 32) && rnOk (cutB s 32) && inB (rnV (cutB s 32)) 1 999 then some (cutA s 32, rnV (cutB s 32)) else none
def adS (s : ByteArray) : Option (ByteArray × Int) := if decide ((splitS s 32).length = 2) && roadB ((splitS s 32).getD 0 ByteArray.empty) && inB (readS ((splitS s 32).getD 1 ByteArray.empty)) 1 999 then some ((splitS s 32).getD 0 ByteArray.empty, readS ((splitS s 32).getD 1 ByteArray.empty)) else none
theorem adI_some {s : ByteArray} {x : ByteArray × Int} (h : adI s = some x) : adS s = some x := by
  unfold adI at h
  split at h
  · rename_i hc
    simp only [Bool.and_eq_true] at hc
    injection h with h
    subst h
    obtain ⟨h1, h2⟩ := ad_same hc.1.2 hc.2
    unfold adS
    rw [h1]
    simp only [List.getD_cons_zero, List.getD_cons_succ, List.length_cons, List.length_nil, h2, hc.1.1, hc.2]
    rfl
  · cases h
theorem adS_some {s : ByteArray} {x : ByteArray × Int} (h : adS s = some x) : adI s = some x := by
  unfold adS at h
  split at h
  · rename_i hc
    simp only [Bool.and_eq_true, decide_eq_true_eq] at hc
    obtain ⟨a, b, hab⟩ : ∃ a b, splitS s 32 = [a, b] := by
      match hq : splitS s 32, hc.1.1 with
      | [a, b], _ => exact ⟨a, b, rfl⟩
    rw [hab] at h hc
    simp only [List.getD_cons_zero, List.getD_cons_succ] at h hc
    injection h with h
    subst h
    obtain ⟨e1, e2, e3, e4⟩ := ad_back hab hc.2
    unfold adI
    rw [e1, e2, e3, e4, hc.1.2, hc.2]
    rfl
  · cases h
theorem ad_eq (s : ByteArray) : adI s = adS s := by
  cases h : adI s with
  | some x => exact (adI_some h).symm
  | none =>
    cases h2 : adS s with
    | none => rfl
    | some x => rw [adS_some h2] at h; cases h
theorem ret_ad {o p : Option (ByteArray × Int)} (h : o = p) : Ending.returned (adT o) = .returned (adT p) := by rw [h]
theorem cut_size (s : ByteArray) (b : UInt8) : (cutA s b).size ≤ s.size ∧ (cutB s b).size ≤ s.size := by
  have ha : (cutA s b).size = (Lib.cut s.data.toList [b]).1.length := rfl
  have hb : (cutB s b).size = (Lib.cut s.data.toList [b]).2.1.length := rfl
  have hs : s.size = s.data.toList.length := rfl
  rw [ha, hb, hs]
  rcases cut_cases b s.data.toList with h | ⟨p, r, e, hp⟩
  · rw [cut_no h]; simp
  · have hc := cut_byte (r := r) hp
    rw [← e] at hc
    rw [hc, e]
    simp only [List.length_append, List.length_cons]
    omega

set_option maxHeartbeats 2000000 in
theorem implParseAddress_any (s : ByteArray) (w : World) (hs : s.size ≤ 1048576) (he : TxtEnv w) :
    Calls Tryd.prog 11 #[.string s] w fun e w' => e = .returned (adT (adI s)) ∧ Below w.heap.size w w' := by
  have HE := hide he
  have Q := hide (cut_any s 32 w (by omega) he.max)
  have hz := cut_size s 32
  have Q2 := hide (fun W (h : Below w.heap.size w W) => readNumber_any (cutB s 32) W (by omega) (HE.out.below h).num)
  have Q3 := hide (fun W => isRoad_any (cutA s 32) W (by unfold maxLen; omega))
  have HV : Hid (adI s = if roadB (cutA s 32) && rnOk (cutB s 32) && inB (rnV (cutB s 32)) 1 999 then some (cutA s 32, rnV (cutB s 32)) else none) := hide rfl
  generalize adI s = o at *
  generalize cutA s 32 = a at *
  generalize cutB s 32 = b at *
  generalize (Lib.cut s.data.toList [32]).2.2 = c at *
  clear he hz hs
  go_enter Tryd.func11, Tryd.ntmps11
  go_wp2_with fail
  refine Q.out.mono ?_
  rintro e w1 ⟨rfl, hq⟩
  have HB1 := hide hq
  clear hq Q
  go_wp2_with fail
  refine (Q2.out _ HB1.out).mono ?_
  rintro e w2 ⟨rfl, hq⟩
  have HB2 := hide (below_step HB1.out hq)
  clear hq Q2
  go_wp2_with fail
  refine (Q3.out _).mono ?_
  rintro e w' ⟨rfl, rfl⟩
  clear Q3
  generalize rnV b = v at *
  cases hr : roadB a with
  | false =>
    rw [hr] at HV
    go_wp2_with fail
    go_ret3
    exact ⟨ret_ad HV.out.symm, HB2.out⟩
  | true =>
    cases hk : rnOk b with
    | false =>
      rw [hr, hk] at HV
      go_wp2_with fail
      go_ret3
      exact ⟨ret_ad HV.out.symm, HB2.out⟩
    | true =>
      have c := fun w => inside_any v 1 999 w
      cases hi : inB v 1 999 with
      | false =>
        rw [hr, hk, hi] at HV
        rw [hi] at c
        clear hi
        go_wp2_with (go_at_call 28; ((with_reducible refine (c _).mono ?_); rintro e w' ⟨rfl, rfl⟩))
        go_ret3
        exact ⟨ret_ad HV.out.symm, HB2.out⟩
      | true =>
        rw [hr, hk, hi] at HV
        rw [hi] at c
        clear hi
        go_wp2_with (go_at_call 28; ((with_reducible refine (c _).mono ?_); rintro e w' ⟨rfl, rfl⟩))
        go_ret3
        exact ⟨ret_ad HV.out.symm, HB2.out⟩

set_option maxHeartbeats 2000000 in
theorem specParseAddress_any (s : ByteArray) (w : World) (hs : s.size ≤ 1048576) :
    Calls Tryd.prog 12 #[.string s] w fun e w' => e = .returned (adT (adS s)) ∧ Below w.heap.size w w' := by
  have Q := hide (split_any s 32 w (by omega))
  have HZ := hide (fun x (hx : x ∈ splitS s 32) => Nat.le_trans (splitS_size s 32 hx) hs)
  have HV : Hid (adS s = if decide ((splitS s 32).length = 2) && roadB ((splitS s 32).getD 0 ByteArray.empty) && inB (readS ((splitS s 32).getD 1 ByteArray.empty)) 1 999 then some ((splitS s 32).getD 0 ByteArray.empty, readS ((splitS s 32).getD 1 ByteArray.empty)) else none) := hide rfl
  generalize adS s = o at *
  by_cases h2 : (splitS s 32).length = 2
  · obtain ⟨a, b, hab⟩ : ∃ a b, splitS s 32 = [a, b] := by
      match hq : splitS s 32, h2 with
      | [a, b], _ => exact ⟨a, b, rfl⟩
    rw [hab] at HV HZ Q
    have hza := HZ.out a (by simp)
    have hzb := HZ.out b (by simp)
    have Q2 := hide (fun W => read_any b W (by unfold maxLen; omega))
    have Q3 := hide (fun W => adName_any a W (by unfold maxLen; omega))
    simp only [List.getD_cons_zero, List.getD_cons_succ, List.length_cons, List.length_nil] at HV
    clear h2 hab hza hzb HZ hs
    go_enter Tryd.func12, Tryd.ntmps12
    go_wp2_with fail
    refine Q.out.mono ?_
    rintro e w1 ⟨⟨v, rfl, ho⟩, hq⟩
    obtain ⟨A, cap, rfl, hrd, -⟩ := own_open ho
    obtain ⟨b1, off, rfl, hbs, c0⟩ := hrd.get1 (k := 0) (u := .string a) rfl
    obtain ⟨b2, off2, e2, hbs2, c1⟩ := hrd.get1 (k := 1) (u := .string b) rfl
    injection e2 with e2; injection e2 with e3 e4; subst e3; subst e4
    have c0 : w1.cell? ⟨b1, off, none⟩ = some (.string a) := c0
    have HR := hide hrd
    have HB1 := hide hq
    clear hq Q ho hrd c1
    go_wp2_with fail
    refine (Q3.out _).mono ?_
    rintro e w' ⟨rfl, rfl⟩
    clear Q3 c0
    cases hr : roadB a with
    | false =>
      rw [hr] at HV
      go_wp2_with fail
      go_ret3
      exact ⟨ret_ad HV.out.symm, HB1.out⟩
    | true =>
      rw [hr] at HV
      obtain ⟨b3, off3, e3, hbs3, c1⟩ := HR.out.get1 (k := 1) (u := .string b) rfl
      injection e3 with e3; injection e3 with e4 e5; subst e4; subst e5
      go_wp2_with fail
      refine (Q2.out _).mono ?_
      rintro e w2 ⟨rfl, hq⟩
      have HB2 := hide (below_step HB1.out hq)
      have HR2 := hide (HR.out.below hq)
      clear hq c1 hbs hbs2 hbs3 HR
      generalize hv : readS b = v at *
      have HVV := hide hv
      clear hv
      have c := fun w => adHouse_any v w
      cases hi : inB v 1 999 with
      | false =>
        rw [hi] at HV c
        clear hi
        go_wp2_with (go_at_call 37; ((with_reducible refine (c _).mono ?_); rintro e w' ⟨rfl, rfl⟩))
        go_ret3
        exact ⟨ret_ad HV.out.symm, HB2.out⟩
      | true =>
        rw [hi] at HV c
        clear hi
        obtain ⟨b3, off3, e3, hbs3, c0⟩ := HR2.out.get1 (k := 0) (u := .string a) rfl
        injection e3 with e3; injection e3 with e4 e5; subst e4; subst e5
        obtain ⟨b3, off3, e3, hbs4, c1⟩ := HR2.out.get1 (k := 1) (u := .string b) rfl
        injection e3 with e3; injection e3 with e4 e5; subst e4; subst e5
        have c0 : w2.cell? ⟨b1, off, none⟩ = some (.string a) := c0
        go_wp2_with (go_at_call 37; ((with_reducible refine (c _).mono ?_); rintro e w' ⟨rfl, rfl⟩))
        refine wp_region_later (by kernel_rfl) (by kernel_rfl) ?_
        repeat (go_big_quiet_step ((go_at_call 38; with_reducible exact calls_later (Q2.out _))))
        refine wpQuiet_nil ?_
        refine later_intro fun w5 hb5 => ?_
        have HB5 := hide (below_step HB2.out hb5)
        clear hb5
        go_wp2
        go_ret3
        exact ⟨ret_ad HV.out.symm, HB5.out⟩
  · have HF := hide (show o = none by rw [HV.out, decide_eq_false h2]; rfl)
    have g2 : ((splitS s 32).length : Int) ≠ 2 := by omega
    generalize splitS s 32 = L at *
    clear HV HZ h2 hs
    go_enter Tryd.func12, Tryd.ntmps12
    go_wp2_with fail
    refine Q.out.mono ?_
    rintro e w1 ⟨⟨v, rfl, ho⟩, hq⟩
    obtain ⟨A, cap, rfl, hrd, -⟩ := own_open ho
    have HB1 := hide hq
    clear hq Q ho hrd
    go_wp2_with fail
    go_ret3
    exact ⟨ret_ad HF.out.symm, HB1.out⟩
end Go.Proofs.YtpkhdmhfkmajcaaDoor

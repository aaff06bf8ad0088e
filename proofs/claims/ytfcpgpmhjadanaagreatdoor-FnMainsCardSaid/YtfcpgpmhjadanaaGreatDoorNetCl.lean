/- Nets cloned, one main closed. -/
import Derived.Test.YtfcpgpmhjadanaaGreatDoorRowsX
import Derived.Test.YtfcpgpmhjadanaaGreatDoorNetG
namespace Go.Proofs.YtfcpgpmhjadanaaGreatDoor
open Go.RowKit
set_option linter.unusedVariables false

theorem mcells_one (l : List (Int × Int)) : ∀ u ∈ l.flatMap mcells, u.oneCell' = true := by
  intro u hu
  obtain ⟨t, _, ht⟩ := List.mem_flatMap.1 hu
  simp [mcells] at ht
  rcases ht with rfl | rfl <;> rfl
theorem infoMainT : (Tryz.prog.info? 36).map (fun i => (i.zero, i.size, i.bytes)) = some (some (.agg #[.int .i64 0, .int .i64 0]), 2, 16) := by kernel_rfl
set_option maxRecDepth 100000 in
set_option maxHeartbeats 2000000 in
theorem cloneMain_any (A : Option Addr) (n c : Nat) (l : List (Int × Int)) (w : World) (hn : n = l.length) (hm : n ≤ 1048576) (hr : Rd w A (l.flatMap mcells)) :
    Calls Tryz.prog 73 #[.slice A n c] w fun e w' => (∃ v, e = .returned v ∧ w'.ownsRow w.heap.size 36 2 v n (l.flatMap mcells)) ∧ Below w.heap.size w w' := by
  have hnil := fun W => Lib.run_eql_slice_nil (P := Tryz.prog) W 24 36 A n c 0 0 Tryz.underlying24
  cases A with
  | none =>
    have hl : l = [] := by
      rcases hr with h | ⟨b, off, hA, _⟩
      · match l, h with
        | [], _ => rfl
        | x :: l, h => simp [mcells] at h
      · cases hA
    subst hl
    have hn0 : n = 0 := by simpa using hn
    subst hn0
    clear hr hn
    go_enter Tryz.func73, Tryz.ntmps73
    go_wp2
    go_ret
    exact ⟨⟨_, rfl, World.ownsRow_nil _ _ _ _⟩, (by repeat (first | exact Below.refl _ _ | refine below_step ?_ (by assumption) | refine below_step ?_ (Later.below _) | refine below_alloc ?_ _ | refine Below.drew ?_ | refine Below.setCell ?_ (by first | (simp; done) | (simp; omega)) _))⟩
  | some ad =>
    obtain ⟨i0, hi, hz0, hz1, hz2⟩ := info_parts infoMainT
    have hO1 : (w.alloc (.cells #[] 36)).ownsRow w.heap.size 36 2 (.slice (some ⟨w.heap.size, 0, none⟩) 0 0) 0 [] := World.ownsRow_made w #[] 0 (Nat.le_refl _) (Nat.zero_le _) rfl
    have HO1 := hide hO1
    have Hn := hide hn
    have hrd : ∀ j u, (l.flatMap mcells)[j]? = some u → (w.alloc (.cells #[] 36)).cell? (ad.add j) = some u := fun j u hu => by
      rcases hr.alloc (.cells #[] 36) with h | ⟨b, off, hA, hc⟩
      · rw [h] at hu; simp at hu
      · injection hA with hA
        subst hA
        rw [Addr.add_lit]
        exact hc j u hu
    have Hr := hide hrd
    have Hi := hide hi
    have Hz := hide (And.intro hz0 (And.intro hz1 hz2))
    clear hO1 hn hr hrd hi hz0 hz1 hz2
    go_enter Tryz.func73, Tryz.ntmps73
    go_wp2_with (at_builtin; refine wpList_append_own _ rfl (.tmp 5) (.tmp 6) 24 rfl w.heap.size 36 i0 _ 2 16 Tryz.underlying24 Hi.out Hz.out.1 Hz.out.2.1 Hz.out.2.2 rfl (by decide) (.slice (some ⟨w.heap.size, 0, none⟩) 0 0) 0 [] rfl HO1.out ad n c (l.flatMap mcells) rfl ?c1 Hr.out (mcells_one l) ?c2 ?c3 ?c4 ?_)
    case c1 => rw [flat_length mcells 2 (fun _ => rfl)]; have := Hn.out; omega
    case c2 => unfold maxLen; omega
    case c3 => omega
    case c4 => simp
    intro v' w1 hown hgrow _
    have HOW := hide hown
    have HG : Hid (Below w.heap.size w w1) := hide ((below_alloc (Below.refl _ _) _).grown hgrow (by simp) (fun k hk => by simp [Value.ownBlock] at hk; omega))
    clear hown hgrow
    go_wp2
    go_ret
    exact ⟨⟨_, rfl, by have := HOW.out; simpa using this⟩, HG.out⟩
theorem infoHydrantT : (Tryz.prog.info? 73).map (fun i => (i.zero, i.size, i.bytes)) = some (some (.agg #[.int .i64 0, .int .i64 0]), 2, 16) := by kernel_rfl
set_option maxRecDepth 100000 in
set_option maxHeartbeats 2000000 in
theorem cloneHydrant_any (A : Option Addr) (n c : Nat) (l : List (Int × Int)) (w : World) (hn : n = l.length) (hm : n ≤ 1048576) (hr : Rd w A (l.flatMap mcells)) :
    Calls Tryz.prog 74 #[.slice A n c] w fun e w' => (∃ v, e = .returned v ∧ w'.ownsRow w.heap.size 73 2 v n (l.flatMap mcells)) ∧ Below w.heap.size w w' := by
  have hnil := fun W => Lib.run_eql_slice_nil (P := Tryz.prog) W 25 73 A n c 0 0 Tryz.underlying25
  cases A with
  | none =>
    have hl : l = [] := by
      rcases hr with h | ⟨b, off, hA, _⟩
      · match l, h with
        | [], _ => rfl
        | x :: l, h => simp [mcells] at h
      · cases hA
    subst hl
    have hn0 : n = 0 := by simpa using hn
    subst hn0
    clear hr hn
    go_enter Tryz.func74, Tryz.ntmps74
    go_wp2
    go_ret
    exact ⟨⟨_, rfl, World.ownsRow_nil _ _ _ _⟩, (by repeat (first | exact Below.refl _ _ | refine below_step ?_ (by assumption) | refine below_step ?_ (Later.below _) | refine below_alloc ?_ _ | refine Below.drew ?_ | refine Below.setCell ?_ (by first | (simp; done) | (simp; omega)) _))⟩
  | some ad =>
    obtain ⟨i0, hi, hz0, hz1, hz2⟩ := info_parts infoHydrantT
    have hO1 : (w.alloc (.cells #[] 73)).ownsRow w.heap.size 73 2 (.slice (some ⟨w.heap.size, 0, none⟩) 0 0) 0 [] := World.ownsRow_made w #[] 0 (Nat.le_refl _) (Nat.zero_le _) rfl
    have HO1 := hide hO1
    have Hn := hide hn
    have hrd : ∀ j u, (l.flatMap mcells)[j]? = some u → (w.alloc (.cells #[] 73)).cell? (ad.add j) = some u := fun j u hu => by
      rcases hr.alloc (.cells #[] 73) with h | ⟨b, off, hA, hc⟩
      · rw [h] at hu; simp at hu
      · injection hA with hA
        subst hA
        rw [Addr.add_lit]
        exact hc j u hu
    have Hr := hide hrd
    have Hi := hide hi
    have Hz := hide (And.intro hz0 (And.intro hz1 hz2))
    clear hO1 hn hr hrd hi hz0 hz1 hz2
    go_enter Tryz.func74, Tryz.ntmps74
    go_wp2_with (at_builtin; refine wpList_append_own _ rfl (.tmp 5) (.tmp 6) 25 rfl w.heap.size 73 i0 _ 2 16 Tryz.underlying25 Hi.out Hz.out.1 Hz.out.2.1 Hz.out.2.2 rfl (by decide) (.slice (some ⟨w.heap.size, 0, none⟩) 0 0) 0 [] rfl HO1.out ad n c (l.flatMap mcells) rfl ?c1 Hr.out (mcells_one l) ?c2 ?c3 ?c4 ?_)
    case c1 => rw [flat_length mcells 2 (fun _ => rfl)]; have := Hn.out; omega
    case c2 => unfold maxLen; omega
    case c3 => omega
    case c4 => simp
    intro v' w1 hown hgrow _
    have HOW := hide hown
    have HG : Hid (Below w.heap.size w w1) := hide ((below_alloc (Below.refl _ _) _).grown hgrow (by simp) (fun k hk => by simp [Value.ownBlock] at hk; omega))
    clear hown hgrow
    go_wp2
    go_ret
    exact ⟨⟨_, rfl, by have := HOW.out; simpa using this⟩, HG.out⟩
def closeM (M : List (Int × Int)) (i : Nat) : List (Int × Int) := M.set i (par M i, 0)
/-- A net of the call's own. -/
def OwnN (w : World) (B : Nat) (M H : List (Int × Int)) (v v' : Value) : Prop := w.ownsRow B 36 2 v M.length (M.flatMap mcells) ∧ w.ownsRow B 73 2 v' H.length (H.flatMap mcells)
def CutNPost (M H : List (Int × Int)) (i : Nat) (w : World) (e : Ending) (w' : World) : Prop :=
  (∃ v v', e = .returned (.agg #[v, v']) ∧ OwnN w' w.heap.size (closeM M i) H v v') ∧ Below w.heap.size w w'

set_option maxRecDepth 100000 in
set_option maxHeartbeats 4000000 in
theorem withoutMain_any (b0 : Nat) (A B : Option Addr) (n c m d i : Nat) (M H : List (Int × Int)) (w : World) (hn : n = M.length) (hm : m = H.length) (hn10 : n ≤ 10) (hm10 : m ≤ 10) (hi : i < n) (hr : NetRd w A B M H) (hc0 : w.cell? ⟨b0, 0, none⟩ = some (.slice A n c)) (hc1 : w.cell? ⟨b0, 1, none⟩ = some (.slice B m d)) :
    Calls Tryz.prog 52 #[.pointer (some ⟨b0, 0, none⟩), .int .i64 (i : Int)] w (CutNPost M H i w) := by
  have Hn := hide hn
  have Hm := hide hm
  have Hr := hide hr
  have hz := World.block_lt_of_cell? w _ hc1
  dsimp only at hz
  clear hn hm hr
  go_enter Tryz.func52, Tryz.ntmps52
  go_wp2_with fail
  have HF0 := hide (Row.new w #[.slice none 0 0, .slice none 0 0] 27)
  have HB0 : Hid (Below w.heap.size w (w.alloc (.cells #[.slice none 0 0, .slice none 0 0] 27))) := hide (below_alloc (Below.refl _ _) _)
  have hw0 : (w.alloc (.cells #[.slice none 0 0, .slice none 0 0] 27)).heap.size = w.heap.size + 1 := by simp
  replace hc0 := cell_on hc0 HB0.out
  replace hc1 := cell_on hc1 HB0.out
  generalize w.alloc (.cells #[.slice none 0 0, .slice none 0 0] 27) = W0 at *
  have HW0 := hide hw0
  have hz0 : b0 < W0.heap.size := by omega
  clear hw0
  refine wpAnyS_start (fun w' => ∃ n : Later W0, w' = n.w) (n := 13) (by kernel_rfl) rfl rfl ?_
  refine wpAnyS_take_all [0, 1, 2, 3, 5, 6, 7, 8] 5 rfl (by kernel_rfl) (by intro c a d v w h; cases d <;> exact h) (by kernel_rfl) (by simp; rfl) rfl (later_drew _) ?_
  repeat (go_big_quiet_step (fail))
  refine wpQuiet_nil ?_
  have HBD : Hid (Below W0.heap.size W0 W0.drew) := hide (Below.refl _ _).drew
  have HF1 : Hid (Row W0.drew w.heap.size [.slice none 0 0, .slice none 0 0]) := hide HF0.out.drew
  have HWD : Hid (W0.drew.heap.size = w.heap.size + 1) := hide HW0.out
  generalize W0.drew = W1 at *
  have HR1 := hide (NetRd.below Hr.out (below_step HB0.out HBD.out))
  have QM := hide (fun W h => cloneMain_any A n c M W Hn.out (by omega) h)
  have QH := hide (fun W h => cloneHydrant_any B m d H W Hm.out (by omega) h)
  refine wpAnyS_two 4 11 (by kernel_rfl) (by simp; rfl) (by simp; rfl) rfl rfl rfl rfl (fun K hK => ?_) (fun K hK => ?_)
  · go_wp2_with fail
    refine (QM.out W1 HR1.out.1).mono ?_
    rintro e w2 ⟨⟨v, rfl, ho⟩, hq⟩
    obtain ⟨g, cap1, rfl, -, -, -, -⟩ := own_some ho (by omega)
    have HV := hide ho
    have HB12 := hide hq
    have HB2 := hide (below_step HBD.out hq)
    have HF2 := hide (HF1.out.below hq)
    clear ho hq
    go_wp2_with fail
    refine ⟨later_of HB2.out, ?_⟩
    refine wpAnyS_two 9 11 (by kernel_rfl) (by simp; rfl) (by simp; rfl) rfl rfl rfl rfl (fun K hK => ?_) (fun K hK => ?_)
    · go_wp2_with fail
      refine (QH.out w2 (HR1.out.2.below HB12.out)).mono ?_
      rintro e w3 ⟨⟨v', rfl, ho'⟩, hq⟩
      obtain ⟨A2, cap2, rfl, -⟩ := own_open ho'
      have HB3 := hide (below_step HB2.out hq)
      have HV3 := hide (own_le (B' := w.heap.size + 1) (own_below HV.out hq) (by have := HWD.out; omega))
      have HH3 := hide (own_le (B' := w.heap.size + 1) ho' (by have := HB2.out.size; have := HW0.out; omega))
      have HF3 := hide (HF2.out.below hq)
      have HL3 := hide (fun k hk => (own_below HV.out hq).lt k hk)
      have HM3 := hide (fun k hk => ho'.lt k hk)
      clear ho' hq
      go_wp2_with fail
      refine ⟨later_of HB3.out, ?_⟩
      refine wpAnyS_take_all [10] 2 rfl (by kernel_rfl) (by intro c a d v w h; cases d <;> exact h) (by kernel_rfl) (by simp; rfl) rfl (later_of HB3.out) ?_
      repeat (go_big_quiet_step (fail))
      refine wpQuiet_nil ?_
      refine wpAnyS_only 11 (by kernel_rfl) (by simp; rfl) rfl rfl (fun K hK => ?_)
      go_wp2_with fail
      refine ⟨later_of (below_alloc HB3.out _), ?_⟩
      have HQ4 := hide (Row.new w3 #[.slice none 0 0, .slice none 0 0] 27)
      have HB4 : Hid (Below W0.heap.size W0 (w3.alloc (.cells #[.slice none 0 0, .slice none 0 0] 27))) := hide (below_alloc HB3.out _)
      have HV4 := hide (World.ownsRow.alloc HV3.out (.cells #[.slice none 0 0, .slice none 0 0] 27))
      have HH4 := hide (World.ownsRow.alloc HH3.out (.cells #[.slice none 0 0, .slice none 0 0] 27))
      have HF4 := hide (HF3.out.alloc (.cells #[.slice none 0 0, .slice none 0 0] 27))
      have HNV : Hid (g ≠ w3.heap.size) := hide (fun e => by have := (HL3.out g rfl).2; omega)
      have HNH : Hid (∀ k, (Value.slice A2 m cap2).ownBlock = some k → k ≠ w3.heap.size ∧ k ≠ g) := hide (fun k hk => by have h1 := (HM3.out k hk); have h2 := HV.out.lt g rfl; omega)
      have HQ0 : Hid (W0.heap.size ≤ w3.heap.size) := hide HB3.out.size
      generalize w3.alloc (.cells #[.slice none 0 0, .slice none 0 0] 27) = W3 at *
      generalize w3.heap.size = q at *
      have r0 := HQ4.out.2.1 0 _ rfl
      have r1 := HQ4.out.2.1 1 _ rfl
      have r2 := HQ4.out.free 0
      have r3 := HQ4.out.free 1
      have hq4 := HQ4.out.1
      have HS4 : Hid (Below W0.heap.size W0 ((W3.setCell ⟨q, 0, none⟩ (.slice (some ⟨g, 0, none⟩) n cap1)).setCell ⟨q, 1, none⟩ (.slice A2 m cap2))) := hide ((HB4.out.setCell HQ0.out _).setCell HQ0.out _)
      have HQ5 : Hid (Row ((W3.setCell ⟨q, 0, none⟩ (.slice (some ⟨g, 0, none⟩) n cap1)).setCell ⟨q, 1, none⟩ (.slice A2 m cap2)) q [.slice (some ⟨g, 0, none⟩) n cap1, .slice A2 m cap2]) := hide ((HQ4.out.set (k := 0) (by simp) _).set (k := 1) (by simp) _)
      refine wpAnyS_only 12 (by kernel_rfl) (by simp; rfl) rfl rfl (fun K hK => ?_)
      go_wp2_with fail
      refine ⟨later_of HS4.out, ?_⟩
      refine wpAnyH_done (by kernel_rfl) ?_ _
      have HV5 := hide (ownsRow_far (ownsRow_far HV4.out (q := q) (o := 0) (u := .slice (some ⟨g, 0, none⟩) n cap1) (fun e => HNV.out e.symm)) (q := q) (o := 1) (u := .slice A2 m cap2) (fun e => HNV.out e.symm))
      have HH5 := hide (own_apart (own_apart HH4.out (grown_set (p := ⟨q, 0, none⟩) (.slice (some ⟨g, 0, none⟩) n cap1) rfl) (fun k hk e => (HNH.out k hk).1 (by injection e))) (grown_set (p := ⟨q, 1, none⟩) (.slice A2 m cap2) rfl) (fun k hk e => (HNH.out k hk).1 (by injection e)))
      have HF5 := hide ((HF4.out.far (p := ⟨q, 0, none⟩) (by have := HQ0.out; have := HW0.out; simp; omega) (.slice (some ⟨g, 0, none⟩) n cap1)).far (p := ⟨q, 1, none⟩) (by have := HQ0.out; have := HW0.out; simp; omega) (.slice A2 m cap2))
      have hgq : ¬ g = q := HNV.out
      have hgw : w.heap.size < q := by have := HQ0.out; have := HW0.out; omega
      have hgb : w.heap.size + 1 ≤ g := (HV4.out.lt g rfl).1
      have hgw2 : ¬ g = w.heap.size := by omega
      generalize (W3.setCell ⟨q, 0, none⟩ (.slice (some ⟨g, 0, none⟩) n cap1)).setCell ⟨q, 1, none⟩ (.slice A2 m cap2) = W4 at *
      clear r0 r1 r2 r3 hq4
      have r0 := HQ5.out.2.1 0 _ rfl
      have r1 := HQ5.out.2.1 1 _ rfl
      have hq4 := HQ5.out.1
      have f0 := HF5.out.2.1 0 _ rfl
      have f1 := HF5.out.2.1 1 _ rfl
      have f2 := HF5.out.free 0
      have f3 := HF5.out.free 1
      have hf4 := HF5.out.1
      obtain ⟨⟨p0, p1⟩, hp⟩ : ∃ h, M[i]? = some h := ⟨_, List.getElem?_eq_getElem (by rw [← Hn.out]; exact hi)⟩
      obtain ⟨g', off', hA, -, d0, d1⟩ := (own_rd HV5.out).get2 (fun _ => rfl) hp rfl
      simp only [Option.some.injEq, Addr.mk.injEq, and_true] at hA
      obtain ⟨rfl, rfl⟩ := hA
      have d2 := World.ownsRow.frozenAt HV5.out (i * 2 + 1)
      have hg4 := (HV5.out.lt g rfl).2
      rw [Nat.zero_add] at d1
      dsimp only at d1
      have HST := (World.ownsRow.stored HV5.out (i * 2 + 1) (.int .i64 0)).1
      rw [flat_set mcells 2 (fun _ => rfl) 1 (by omega) (.int .i64 0) (par M i, 0) M i _ hp (by rw [par_some hp]; rfl)] at HST
      have HST := hide HST
      clear d0 hp
      go_wp2
      refine bodyPost_ret (v := .agg #[.slice (some ⟨g, 0, none⟩) n cap1, .slice A2 m cap2]) (by simp [results, Tryz.results52, go_sem, *]) rfl ⟨⟨_, _, rfl, ?_, ?_⟩, ?_⟩
      · have h := own_far_any (own_far_any HST.out (q := w.heap.size) (o := 0) (u := .slice (some ⟨g, 0, none⟩) n cap1) (by omega)) (q := w.heap.size) (o := 1) (u := .slice A2 m cap2) (by omega)
        have h2 := own_le h (B' := w.heap.size) (by omega)
        rw [show (closeM M i).length = n by rw [closeM, List.length_set]; exact Hn.out.symm]
        exact h2
      · have h := own_apart HH5.out (grown_set (p := ⟨g, i * 2 + 1, none⟩) (.int .i64 0) rfl) (fun k hk e => (HNH.out k hk).2 (by injection e))
        have h1 := own_far_any (own_far_any h (q := w.heap.size) (o := 0) (u := .slice (some ⟨g, 0, none⟩) n cap1) (by omega)) (q := w.heap.size) (o := 1) (u := .slice A2 m cap2) (by omega)
        have h2 := own_le h1 (B' := w.heap.size) (by omega)
        rw [← show m = H.length from Hm.out]
        exact h2
      · exact (((below_step HB0.out HS4.out).setCell (p := ⟨g, i * 2 + 1, none⟩) (show w.heap.size ≤ g by omega) _).setCell (p := ⟨w.heap.size, 0, none⟩) (Nat.le_refl _) _).setCell (p := ⟨w.heap.size, 1, none⟩) (Nat.le_refl _) _
    · go_wp2_with fail
      refine ⟨later_of (below_alloc HB2.out _), ?_⟩
      have HQ4' := hide (Row.new w2 #[.slice none 0 0, .slice none 0 0] 27)
      have HB4' : Hid (Below W0.heap.size W0 (w2.alloc (.cells #[.slice none 0 0, .slice none 0 0] 27))) := hide (below_alloc HB2.out _)
      have HB5' : Hid (Below W1.heap.size W1 (w2.alloc (.cells #[.slice none 0 0, .slice none 0 0] 27))) := hide (below_alloc HB12.out _)
      have HV4' := hide (World.ownsRow.alloc HV.out (.cells #[.slice none 0 0, .slice none 0 0] 27))
      have HF4' := hide (HF2.out.alloc (.cells #[.slice none 0 0, .slice none 0 0] 27))
      have HNV : Hid (g ≠ w2.heap.size) := hide (fun e => by have := (HV.out.lt g rfl).2; omega)
      have HQ0 : Hid (W0.heap.size ≤ w2.heap.size) := hide HB2.out.size
      have hz2 : (w2.alloc (.cells #[.slice none 0 0, .slice none 0 0] 27)).heap.size = w2.heap.size + 1 := by simp
      refine wpAnyS_only 9 (by kernel_rfl) (by simp; rfl) rfl rfl (fun K hK => ?_)
      go_wp2_with fail
      refine (QH.out _ (HR1.out.2.below HB5'.out)).mono ?_
      rintro e W3 ⟨⟨v', rfl, ho'⟩, hq⟩
      obtain ⟨A2, cap2, rfl, -⟩ := own_open ho'
      have HB4 := hide (below_step HB4'.out hq)
      have HV4 := hide (own_le (B' := w.heap.size + 1) (own_below HV4'.out hq) (by have := HWD.out; first | omega | (simp; omega)))
      have HH4 := hide (own_le (B' := w.heap.size + 1) ho' (by have := HB4'.out.size; have := HW0.out; omega))
      have HF4 := hide (HF4'.out.below hq)
      have HQ4 := hide (HQ4'.out.below hq)
      have HNH : Hid (∀ k, (Value.slice A2 m cap2).ownBlock = some k → k ≠ w2.heap.size ∧ k ≠ g) := hide (fun k hk => by have h1 := (ho'.lt k hk); have h2 := HV.out.lt g rfl; omega)
      clear ho' hq hz2
      go_wp2_with fail
      refine ⟨later_of HB4.out, ?_⟩
      refine wpAnyS_take_all [10] 1 rfl (by kernel_rfl) (by intro c a d v w h; cases d <;> exact h) (by kernel_rfl) (by simp; rfl) rfl (later_of HB4.out) ?_
      repeat (go_big_quiet_step (fail))
      refine wpQuiet_nil ?_
      generalize w2.heap.size = q at *
      have r0 := HQ4.out.2.1 0 _ rfl
      have r1 := HQ4.out.2.1 1 _ rfl
      have r2 := HQ4.out.free 0
      have r3 := HQ4.out.free 1
      have hq4 := HQ4.out.1
      have HS4 : Hid (Below W0.heap.size W0 ((W3.setCell ⟨q, 0, none⟩ (.slice (some ⟨g, 0, none⟩) n cap1)).setCell ⟨q, 1, none⟩ (.slice A2 m cap2))) := hide ((HB4.out.setCell HQ0.out _).setCell HQ0.out _)
      have HQ5 : Hid (Row ((W3.setCell ⟨q, 0, none⟩ (.slice (some ⟨g, 0, none⟩) n cap1)).setCell ⟨q, 1, none⟩ (.slice A2 m cap2)) q [.slice (some ⟨g, 0, none⟩) n cap1, .slice A2 m cap2]) := hide ((HQ4.out.set (k := 0) (by simp) _).set (k := 1) (by simp) _)
      refine wpAnyS_only 12 (by kernel_rfl) (by simp; rfl) rfl rfl (fun K hK => ?_)
      go_wp2_with fail
      refine ⟨later_of HS4.out, ?_⟩
      refine wpAnyH_done (by kernel_rfl) ?_ _
      have HV5 := hide (ownsRow_far (ownsRow_far HV4.out (q := q) (o := 0) (u := .slice (some ⟨g, 0, none⟩) n cap1) (fun e => HNV.out e.symm)) (q := q) (o := 1) (u := .slice A2 m cap2) (fun e => HNV.out e.symm))
      have HH5 := hide (own_apart (own_apart HH4.out (grown_set (p := ⟨q, 0, none⟩) (.slice (some ⟨g, 0, none⟩) n cap1) rfl) (fun k hk e => (HNH.out k hk).1 (by injection e))) (grown_set (p := ⟨q, 1, none⟩) (.slice A2 m cap2) rfl) (fun k hk e => (HNH.out k hk).1 (by injection e)))
      have HF5 := hide ((HF4.out.far (p := ⟨q, 0, none⟩) (by have := HQ0.out; have := HW0.out; simp; omega) (.slice (some ⟨g, 0, none⟩) n cap1)).far (p := ⟨q, 1, none⟩) (by have := HQ0.out; have := HW0.out; simp; omega) (.slice A2 m cap2))
      have hgq : ¬ g = q := HNV.out
      have hgw : w.heap.size < q := by have := HQ0.out; have := HW0.out; omega
      have hgb : w.heap.size + 1 ≤ g := (HV4.out.lt g rfl).1
      have hgw2 : ¬ g = w.heap.size := by omega
      generalize (W3.setCell ⟨q, 0, none⟩ (.slice (some ⟨g, 0, none⟩) n cap1)).setCell ⟨q, 1, none⟩ (.slice A2 m cap2) = W4 at *
      clear r0 r1 r2 r3 hq4
      have r0 := HQ5.out.2.1 0 _ rfl
      have r1 := HQ5.out.2.1 1 _ rfl
      have hq4 := HQ5.out.1
      have f0 := HF5.out.2.1 0 _ rfl
      have f1 := HF5.out.2.1 1 _ rfl
      have f2 := HF5.out.free 0
      have f3 := HF5.out.free 1
      have hf4 := HF5.out.1
      obtain ⟨⟨p0, p1⟩, hp⟩ : ∃ h, M[i]? = some h := ⟨_, List.getElem?_eq_getElem (by rw [← Hn.out]; exact hi)⟩
      obtain ⟨g', off', hA, -, d0, d1⟩ := (own_rd HV5.out).get2 (fun _ => rfl) hp rfl
      simp only [Option.some.injEq, Addr.mk.injEq, and_true] at hA
      obtain ⟨rfl, rfl⟩ := hA
      have d2 := World.ownsRow.frozenAt HV5.out (i * 2 + 1)
      have hg4 := (HV5.out.lt g rfl).2
      rw [Nat.zero_add] at d1
      dsimp only at d1
      have HST := (World.ownsRow.stored HV5.out (i * 2 + 1) (.int .i64 0)).1
      rw [flat_set mcells 2 (fun _ => rfl) 1 (by omega) (.int .i64 0) (par M i, 0) M i _ hp (by rw [par_some hp]; rfl)] at HST
      have HST := hide HST
      clear d0 hp
      go_wp2
      refine bodyPost_ret (v := .agg #[.slice (some ⟨g, 0, none⟩) n cap1, .slice A2 m cap2]) (by simp [results, Tryz.results52, go_sem, *]) rfl ⟨⟨_, _, rfl, ?_, ?_⟩, ?_⟩
      · have h := own_far_any (own_far_any HST.out (q := w.heap.size) (o := 0) (u := .slice (some ⟨g, 0, none⟩) n cap1) (by omega)) (q := w.heap.size) (o := 1) (u := .slice A2 m cap2) (by omega)
        have h2 := own_le h (B' := w.heap.size) (by omega)
        rw [show (closeM M i).length = n by rw [closeM, List.length_set]; exact Hn.out.symm]
        exact h2
      · have h := own_apart HH5.out (grown_set (p := ⟨g, i * 2 + 1, none⟩) (.int .i64 0) rfl) (fun k hk e => (HNH.out k hk).2 (by injection e))
        have h1 := own_far_any (own_far_any h (q := w.heap.size) (o := 0) (u := .slice (some ⟨g, 0, none⟩) n cap1) (by omega)) (q := w.heap.size) (o := 1) (u := .slice A2 m cap2) (by omega)
        have h2 := own_le h1 (B' := w.heap.size) (by omega)
        rw [← show m = H.length from Hm.out]
        exact h2
      · exact (((below_step HB0.out HS4.out).setCell (p := ⟨g, i * 2 + 1, none⟩) (show w.heap.size ≤ g by omega) _).setCell (p := ⟨w.heap.size, 0, none⟩) (Nat.le_refl _) _).setCell (p := ⟨w.heap.size, 1, none⟩) (Nat.le_refl _) _
  · go_wp2_with fail
    refine ⟨later_of (below_alloc HBD.out _), ?_⟩
    have HQ4' := hide (Row.new W1 #[.slice none 0 0, .slice none 0 0] 27)
    have HB4' : Hid (Below W0.heap.size W0 (W1.alloc (.cells #[.slice none 0 0, .slice none 0 0] 27))) := hide (below_alloc HBD.out _)
    have HB5' : Hid (Below W1.heap.size W1 (W1.alloc (.cells #[.slice none 0 0, .slice none 0 0] 27))) := hide (below_alloc (Below.refl _ _) _)
    have HF4' := hide (HF1.out.alloc (.cells #[.slice none 0 0, .slice none 0 0] 27))
    have HQ0 : Hid (W0.heap.size ≤ W1.heap.size) := hide HBD.out.size
    have hz2 : (W1.alloc (.cells #[.slice none 0 0, .slice none 0 0] 27)).heap.size = W1.heap.size + 1 := by simp
    refine wpAnyS_only 4 (by kernel_rfl) (by simp; rfl) rfl rfl (fun K hK => ?_)
    go_wp2_with fail
    refine (QM.out _ (HR1.out.1.below HB5'.out)).mono ?_
    rintro e w2 ⟨⟨v, rfl, ho⟩, hq⟩
    obtain ⟨g, cap1, rfl, -, -, -, -⟩ := own_some ho (by omega)
    have HV4' := hide ho
    have HQ5' := hide (HQ4'.out.below hq)
    have HB6' := hide (below_step HB4'.out hq)
    have HB7' := hide (below_step HB5'.out hq)
    have HF5' := hide (HF4'.out.below hq)
    have HNV : Hid (g ≠ W1.heap.size) := hide (fun e => by have := (HV4'.out.lt g rfl).1; omega)
    clear ho hq
    go_wp2_with fail
    refine ⟨later_of HB6'.out, ?_⟩
    refine wpAnyS_only 9 (by kernel_rfl) (by simp; rfl) rfl rfl (fun K hK => ?_)
    go_wp2_with fail
    refine (QH.out _ (HR1.out.2.below HB7'.out)).mono ?_
    rintro e W3 ⟨⟨v', rfl, ho'⟩, hq⟩
    obtain ⟨A2, cap2, rfl, -⟩ := own_open ho'
    have HB4 := hide (below_step HB6'.out hq)
    have HV4 := hide (own_le (B' := w.heap.size + 1) (own_below HV4'.out hq) (by have := HWD.out; first | omega | (simp; omega)))
    have HH4 := hide (own_le (B' := w.heap.size + 1) ho' (by have := HB6'.out.size; have := HW0.out; omega))
    have HF4 := hide (HF5'.out.below hq)
    have HQ4 := hide (HQ5'.out.below hq)
    have HNH : Hid (∀ k, (Value.slice A2 m cap2).ownBlock = some k → k ≠ W1.heap.size ∧ k ≠ g) := hide (fun k hk => by have h1 := (ho'.lt k hk); have h2 := HV4'.out.lt g rfl; have := HB7'.out.size; have h3 := HQ5'.out.1; omega)
    clear ho' hq hz2
    go_wp2_with fail
    refine ⟨later_of HB4.out, ?_⟩
    refine wpAnyS_take_all [10] 1 rfl (by kernel_rfl) (by intro c a d v w h; cases d <;> exact h) (by kernel_rfl) (by simp; rfl) rfl (later_of HB4.out) ?_
    repeat (go_big_quiet_step (fail))
    refine wpQuiet_nil ?_
    generalize W1.heap.size = q at *
    have r0 := HQ4.out.2.1 0 _ rfl
    have r1 := HQ4.out.2.1 1 _ rfl
    have r2 := HQ4.out.free 0
    have r3 := HQ4.out.free 1
    have hq4 := HQ4.out.1
    have HS4 : Hid (Below W0.heap.size W0 ((W3.setCell ⟨q, 0, none⟩ (.slice (some ⟨g, 0, none⟩) n cap1)).setCell ⟨q, 1, none⟩ (.slice A2 m cap2))) := hide ((HB4.out.setCell HQ0.out _).setCell HQ0.out _)
    have HQ5 : Hid (Row ((W3.setCell ⟨q, 0, none⟩ (.slice (some ⟨g, 0, none⟩) n cap1)).setCell ⟨q, 1, none⟩ (.slice A2 m cap2)) q [.slice (some ⟨g, 0, none⟩) n cap1, .slice A2 m cap2]) := hide ((HQ4.out.set (k := 0) (by simp) _).set (k := 1) (by simp) _)
    refine wpAnyS_only 12 (by kernel_rfl) (by simp; rfl) rfl rfl (fun K hK => ?_)
    go_wp2_with fail
    refine ⟨later_of HS4.out, ?_⟩
    refine wpAnyH_done (by kernel_rfl) ?_ _
    have HV5 := hide (ownsRow_far (ownsRow_far HV4.out (q := q) (o := 0) (u := .slice (some ⟨g, 0, none⟩) n cap1) (fun e => HNV.out e.symm)) (q := q) (o := 1) (u := .slice A2 m cap2) (fun e => HNV.out e.symm))
    have HH5 := hide (own_apart (own_apart HH4.out (grown_set (p := ⟨q, 0, none⟩) (.slice (some ⟨g, 0, none⟩) n cap1) rfl) (fun k hk e => (HNH.out k hk).1 (by injection e))) (grown_set (p := ⟨q, 1, none⟩) (.slice A2 m cap2) rfl) (fun k hk e => (HNH.out k hk).1 (by injection e)))
    have HF5 := hide ((HF4.out.far (p := ⟨q, 0, none⟩) (by have := HQ0.out; have := HW0.out; simp; omega) (.slice (some ⟨g, 0, none⟩) n cap1)).far (p := ⟨q, 1, none⟩) (by have := HQ0.out; have := HW0.out; simp; omega) (.slice A2 m cap2))
    have hgq : ¬ g = q := HNV.out
    have hgw : w.heap.size < q := by have := HQ0.out; have := HW0.out; omega
    have hgb : w.heap.size + 1 ≤ g := (HV4.out.lt g rfl).1
    have hgw2 : ¬ g = w.heap.size := by omega
    generalize (W3.setCell ⟨q, 0, none⟩ (.slice (some ⟨g, 0, none⟩) n cap1)).setCell ⟨q, 1, none⟩ (.slice A2 m cap2) = W4 at *
    clear r0 r1 r2 r3 hq4
    have r0 := HQ5.out.2.1 0 _ rfl
    have r1 := HQ5.out.2.1 1 _ rfl
    have hq4 := HQ5.out.1
    have f0 := HF5.out.2.1 0 _ rfl
    have f1 := HF5.out.2.1 1 _ rfl
    have f2 := HF5.out.free 0
    have f3 := HF5.out.free 1
    have hf4 := HF5.out.1
    obtain ⟨⟨p0, p1⟩, hp⟩ : ∃ h, M[i]? = some h := ⟨_, List.getElem?_eq_getElem (by rw [← Hn.out]; exact hi)⟩
    obtain ⟨g', off', hA, -, d0, d1⟩ := (own_rd HV5.out).get2 (fun _ => rfl) hp rfl
    simp only [Option.some.injEq, Addr.mk.injEq, and_true] at hA
    obtain ⟨rfl, rfl⟩ := hA
    have d2 := World.ownsRow.frozenAt HV5.out (i * 2 + 1)
    have hg4 := (HV5.out.lt g rfl).2
    rw [Nat.zero_add] at d1
    dsimp only at d1
    have HST := (World.ownsRow.stored HV5.out (i * 2 + 1) (.int .i64 0)).1
    rw [flat_set mcells 2 (fun _ => rfl) 1 (by omega) (.int .i64 0) (par M i, 0) M i _ hp (by rw [par_some hp]; rfl)] at HST
    have HST := hide HST
    clear d0 hp
    go_wp2
    refine bodyPost_ret (v := .agg #[.slice (some ⟨g, 0, none⟩) n cap1, .slice A2 m cap2]) (by simp [results, Tryz.results52, go_sem, *]) rfl ⟨⟨_, _, rfl, ?_, ?_⟩, ?_⟩
    · have h := own_far_any (own_far_any HST.out (q := w.heap.size) (o := 0) (u := .slice (some ⟨g, 0, none⟩) n cap1) (by omega)) (q := w.heap.size) (o := 1) (u := .slice A2 m cap2) (by omega)
      have h2 := own_le h (B' := w.heap.size) (by omega)
      rw [show (closeM M i).length = n by rw [closeM, List.length_set]; exact Hn.out.symm]
      exact h2
    · have h := own_apart HH5.out (grown_set (p := ⟨g, i * 2 + 1, none⟩) (.int .i64 0) rfl) (fun k hk e => (HNH.out k hk).2 (by injection e))
      have h1 := own_far_any (own_far_any h (q := w.heap.size) (o := 0) (u := .slice (some ⟨g, 0, none⟩) n cap1) (by omega)) (q := w.heap.size) (o := 1) (u := .slice A2 m cap2) (by omega)
      have h2 := own_le h1 (B' := w.heap.size) (by omega)
      rw [← show m = H.length from Hm.out]
      exact h2
    · exact (((below_step HB0.out HS4.out).setCell (p := ⟨g, i * 2 + 1, none⟩) (show w.heap.size ≤ g by omega) _).setCell (p := ⟨w.heap.size, 0, none⟩) (Nat.le_refl _) _).setCell (p := ⟨w.heap.size, 1, none⟩) (Nat.le_refl _) _
end Go.Proofs.YtfcpgpmhjadanaaGreatDoor

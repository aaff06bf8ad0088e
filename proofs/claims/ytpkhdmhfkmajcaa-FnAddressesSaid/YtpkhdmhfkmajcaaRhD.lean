/- A house removed: the reference's walk. -/
import Derived.Test.YtpkhdmhfkmajcaaRhC
namespace Go.Proofs.Ytpkhdmhfkmajcaa
open Go.RowKit
set_option linter.unusedVariables false

def stageL (l : List StrT) (k : Nat) (x : StrT) (h : Int) : Nat → List StrT
  | 0 => l.take k ++ l.drop (k + 1)
  | 1 => put1 (l.take k ++ l.drop (k + 1)) (belowS x h)
  | _ => put1 (put1 (l.take k ++ l.drop (k + 1)) (belowS x h)) (aboveS x h)
theorem putS_length (l : List StrT) (s : StrT) : (putS l s).length = l.length + 1 := by
  have h := congrArg List.length (List.takeWhile_append_dropWhile (p := befB s) (l := l))
  rw [List.length_append] at h
  simp [putS]
  omega
theorem put1_length (l : List StrT) (s : StrT) : l.length ≤ (put1 l s).length ∧ (put1 l s).length ≤ l.length + 1 := by
  unfold put1
  split
  · rw [putS_length]; omega
  · omega
theorem stageL_length {l : List StrT} {k : Nat} {x : StrT} {h : Int} (hl : l.length ≤ 30) (j : Nat) : (stageL l k x h j).length ≤ 40 := by
  have h0 : (l.take k ++ l.drop (k + 1)).length ≤ 30 := by simp; omega
  match j with
  | 0 => exact Nat.le_trans h0 (by omega)
  | 1 => exact Nat.le_trans (put1_length _ _).2 (by omega)
  | n + 2 => exact Nat.le_trans (put1_length _ _).2 (by have := (put1_length (l.take k ++ l.drop (k + 1)) (belowS x h)).2; omega)

set_option maxRecDepth 100000 in
set_option maxHeartbeats 16000000 in
theorem specRemoveHouse_any (A : Option Addr) (n c : Nat) (l : List (ByteArray × Int × Int × Int × Int)) (s : ByteArray) (h : Int) (w : World) (hn : n = l.length) (hnc : n ≤ c) (hc : c ≤ maxLen) (hm : n ≤ 1048576) (hs : ∀ x ∈ l, x.1.size ≤ maxLen) (hr : Rd w A (l.flatMap scells)) (hz : s.size ≤ maxLen) :
    Calls Try.prog 9 #[.slice A n c, .string s, .int .i64 h] w (RhPost l s h w) := by
  have Q := hide (adAsked_any A n c l s h w hn hm hs hr hz)
  have QF := hide (fun W hr' => adFind_any A n c l s h W hn hm hr')
  have Hn := hide hn
  have Hr := hide hr
  have HS := hide hs
  unfold maxLen at hc
  clear hs hr hn hz
  cases hv : (strsB l && roadB s && inB h 1 999) with
  | false =>
    have HE := hide (rhO_bad hv)
    rw [hv] at Q
    clear hv
    go_enter Try.func9, Try.ntmps9
    go_wp2_with fail
    refine Q.out.mono ?_
    rintro e w1 ⟨rfl, hq⟩
    go_wp2
    go_ret2
    exact RhPost.no HE.out hq
  | true =>
    rw [hv] at Q
    have HV := hide hv
    have hl1 : strsB l = true := by revert hv; cases strsB l <;> simp
    have h3 : inB h 1 999 = true := by revert hv; cases inB h 1 999 <;> simp
    have hn30 : n ≤ 30 := by have := strsB_len hl1; have := Hn.out; omega
    have HLS := hide hl1
    have hh : 1 ≤ h ∧ h ≤ 999 := by rw [inB_iff] at h3; omega
    clear hv hl1 h3
    rcases findI_cases (findP s h) l with hf | ⟨k, ⟨x0, x1, x2, x3, x4⟩, hf, hk, hp⟩
    · have HE := hide (rhO_lost (l := l) (s := s) (h := h) (by omega))
      rw [hf] at QF
      clear hf
      go_enter Try.func9, Try.ntmps9
      go_wp2_with fail
      refine Q.out.mono ?_
      rintro e w1 ⟨rfl, hq⟩
      have HB1 := hide hq
      go_wp2_with fail
      refine (QF.out _ (Hr.out.below HB1.out)).mono ?_
      rintro e w2 ⟨rfl, hq2⟩
      have HB2 := hide (below_step HB1.out hq2)
      go_wp2
      go_ret2
      exact RhPost.no HE.out HB2.out
    · have HE := hide (rhO_at HV.out hf hk)
      have HP : Hid (x1 ≤ h ∧ h ≤ x2) := hide (by rw [findP, Bool.and_eq_true, inB_iff] at hp; exact hp.2)
      rw [hf] at QF
      obtain ⟨b, off, rfl, hbs, c0, c1, c2, c3, c4⟩ := (Hr.out).get5 (fun _ => rfl) hk rfl
      dsimp only at c0 c1 c2 c3 c4
      have hkn : k < n := by rw [Hn.out]; exact (List.getElem?_eq_some_iff.1 hk).1
      have HX := hide hk
      have HTR := hide (show ∀ W, Below w.heap.size w W → ∀ j u, ((l.take k).flatMap scells)[j]? = some u → W.cell? ((⟨b, off, none⟩ : Addr).add j) = some u from fun W hb => by
        have h := (Hr.out.below hb).part 0 (k * 5)
        rw [List.drop_zero, flat_take scells 5 (fun _ => rfl)] at h
        simpa using h.add)
      obtain ⟨ad, had, hadd⟩ := tail_addr b off n c (k + 1) l w Hn.out (by omega) hnc Hr.out
      have HAD := hide hadd
      have HTL := hide (show ((l.take k).flatMap scells).length = k * 5 from take_flat_length scells 5 (fun _ => rfl) (by have := Hn.out; omega))
      have HDL := hide (show ((l.drop (k + 1)).flatMap scells).length = (n - (k + 1)) * 5 by rw [flat_length scells 5 (fun _ => rfl), List.length_drop]; have := Hn.out; omega)
      obtain ⟨i0, hi0, hz0, hz1, hz2⟩ := info_parts infoStretch
      have Hi := hide hi0
      have Hz := hide (And.intro hz0 (And.intro hz1 hz2))
      clear hi0 hz0 hz1 hz2
      clear hf hk hp hadd
      have hk1 : ((k : Int) + 1).toNat = k + 1 := by omega
      have hk2 : (0 : Int) ≤ (k : Int) + 1 := by omega
      go_enter Try.func9, Try.ntmps9
      go_wp2_with fail
      refine Q.out.mono ?_
      rintro e w1 ⟨rfl, hq⟩
      have HB1 := hide hq
      clear hq
      go_wp2_with fail
      refine (QF.out _ (Hr.out.below HB1.out)).mono ?_
      rintro e w2 ⟨rfl, hq2⟩
      have HB2 := hide (below_step HB1.out hq2)
      clear hq2
      replace c0 := cell_on c0 HB2.out
      replace c1 := cell_on c1 HB2.out
      replace c2 := cell_on c2 HB2.out
      replace c3 := cell_on c3 HB2.out
      replace c4 := cell_on c4 HB2.out
      go_wp2_with fail
      refine wpAnyS_start (fun w' => ∃ n : Later w2, w' = n.w) (n := 11) (by kernel_rfl) rfl rfl ?_
      refine wpAnyS_take_all [1, 2, 3, 5, 6, 7, 8] 4 rfl (by kernel_rfl) (by intro c a d v w h; cases d <;> exact h) (by kernel_rfl) (by simp; rfl) rfl (later_drew _) ?_
      repeat (go_big_quiet_step (fail))
      refine wpQuiet_nil ?_
      clear had
      have HL : Hid (Below w2.heap.size w2 w2.drew) := hide (Below.refl _ _).drew
      have HC : Hid (Below w.heap.size w w2.drew) := hide HB2.out.drew
      generalize w2.drew = U0 at *
      refine wpAnyS_only 0 (by kernel_rfl) (by simp; rfl) rfl rfl (fun K hK => ?_)
      go_wp2_with fail
      have HL' : Hid (Below w2.heap.size w2 (U0.alloc (.cells #[] 25))) := hide (below_alloc HL.out _)
      have HC' : Hid (Below w.heap.size w (U0.alloc (.cells #[] 25))) := hide (below_alloc HC.out _)
      refine ⟨later_of HL'.out, ?_⟩
      have F_b0 : Hid ((U0.alloc (.cells #[] 25)).ownsRow w2.heap.size 25 5 (.slice (some ⟨U0.heap.size, 0, none⟩) 0 0) 0 []) := hide (World.ownsRow_made U0 #[] 0 HL.out.size (Nat.zero_le _) rfl)
      clear HL HC
      have HL := hide HL'.out
      have HC := hide HC'.out
      clear HL' HC'
      generalize (U0.alloc (.cells #[] 25)) = U1 at *
      generalize U0.heap.size = b0 at *
      refine wpAnyS_only 4 (by kernel_rfl) (by simp; rfl) rfl rfl (fun K hK => ?_)
      refine wp_append_at (.tmp 25) (.tmp 28) 23 rfl w2.heap.size 25 i0 _ 5 48 Try.underlying23 Hi.out Hz.out.1 Hz.out.2.1 Hz.out.2.2 rfl (by decide) b0 0 0 [] rfl F_b0.out ⟨b, off, none⟩ k c ((l.take k).flatMap scells) rfl HTL.out (HTR.out U1 HC.out) (scells_one _) (by unfold maxLen; omega) (by omega) HL.out.size (fun g1 cap1 U2 hown hgrow hg hlt => ?_)
      rw [Nat.zero_add] at hown ⊢
      have HL' := hide (HL.out.grown hgrow HL.out.size (fun k hk => by injection hk with hk; have := (F_b0.out.lt b0 rfl).1; omega))
      have HC' := hide (HC.out.grown hgrow HC.out.size (fun k hk => by injection hk with hk; have := (F_b0.out.lt b0 rfl).1; have := HB2.out.size; omega))
      have F_g1 : Hid (U2.ownsRow w2.heap.size 25 5 (.slice (some ⟨g1, 0, none⟩) k cap1) k ((l.take k).flatMap scells)) := hide (by simpa using hown)
      clear HL HC hown hgrow hg hlt F_b0
      have HL := hide HL'.out
      have HC := hide HC'.out
      clear HL' HC'
      refine hK _ _ ⟨later_of HL.out, ?_⟩
      simp only [Act.put, List.setIfInBounds_toArray, List.set_cons_succ, List.set_cons_zero]
      refine wpAnyS_only 9 (by kernel_rfl) (by simp; rfl) rfl rfl (fun K hK => ?_)
      refine wp_append_at (.tmp 29) (.tmp 33) 23 rfl w2.heap.size 25 i0 _ 5 48 Try.underlying23 Hi.out Hz.out.1 Hz.out.2.1 Hz.out.2.2 rfl (by decide) g1 k cap1 _ rfl F_g1.out ad (n - (k + 1)) (c - (k + 1)) ((l.drop (k + 1)).flatMap scells) rfl HDL.out (HAD.out U2 HC.out) (scells_one _) (by unfold maxLen; omega) (by omega) HL.out.size (fun g2 cap2 U3 hown hgrow hg hlt => ?_)
      have HL' := hide (HL.out.grown hgrow HL.out.size (fun k hk => by injection hk with hk; have := (F_g1.out.lt g1 rfl).1; omega))
      have HC' := hide (HC.out.grown hgrow HC.out.size (fun k hk => by injection hk with hk; have := (F_g1.out.lt g1 rfl).1; have := HB2.out.size; omega))
      have F_g2 : Hid (U3.ownsRow w2.heap.size 25 5 (.slice (some ⟨g2, 0, none⟩) (k + (n - (k + 1))) cap2) (k + (n - (k + 1))) ((stageL l k (x0, x1, x2, x3, x4) h 0).flatMap scells)) := hide (by rw [stageL, List.flatMap_append]; exact hown)
      clear HL HC hown hgrow hg hlt F_g1
      have HL := hide HL'.out
      have HC3 := hide HC'.out
      clear HL' HC'
      refine hK _ _ ⟨later_of HL.out, ?_⟩
      simp only [Act.put, List.setIfInBounds_toArray, List.set_cons_succ, List.set_cons_zero]
      refine wpAnyS_only 10 (by kernel_rfl) (by simp; rfl) rfl rfl (fun K hK => ?_)
      go_wp2_with fail
      refine ⟨later_of HL.out, ?_⟩
      refine wpAnyH_done (by kernel_rfl) ?_ _
      replace c0 := cell_on c0 HL.out
      replace c1 := cell_on c1 HL.out
      replace c2 := cell_on c2 HL.out
      replace c3 := cell_on c3 HL.out
      replace c4 := cell_on c4 HL.out
      have hbs3 : b < U3.heap.size := World.block_lt_of_cell? _ ⟨b, _, none⟩ c0
      go_wp2_with fail
      refine wpAnyS_start (fun w' => ∃ n : Later U3, w' = n.w) (n := 12) (by kernel_rfl) rfl rfl ?_
      refine wpAnyS_take_all [0, 1, 2, 3, 4, 5, 6, 7] 4 rfl (by kernel_rfl) (by intro c a d v w h; cases d <;> exact h) (by kernel_rfl) (by simp; rfl) rfl (later_drew _) ?_
      repeat (go_big_quiet_step (fail))
      refine wpQuiet_nil ?_
      clear HL
      have HL : Hid (Below U3.heap.size U3 U3.drew) := hide (Below.refl _ _).drew
      have HC : Hid (Below w.heap.size w U3.drew) := hide HC3.out.drew
      have HFG : Hid (U3.drew.ownsRow w2.heap.size 25 5 (.slice (some ⟨g2, 0, none⟩) (k + (n - (k + 1))) cap2) (k + (n - (k + 1))) ((stageL l k (x0, x1, x2, x3, x4) h 0).flatMap scells)) := F_g2
      generalize U3.drew = V0 at *
      refine wpAnyS_two 8 9 (by kernel_rfl) (by simp; rfl) (by simp; rfl) rfl rfl rfl rfl (fun K hK => ?_) (fun K hK => ?_)
      · go_wp2_with fail
        have HL' := hide (below_alloc HL.out (.cells #[.string ⟨#[]⟩, .int .i64 0, .int .i64 0, .int .i64 0, .int .i64 0] 25))
        have HC' := hide (below_alloc HC.out (.cells #[.string ⟨#[]⟩, .int .i64 0, .int .i64 0, .int .i64 0, .int .i64 0] 25))
        refine ⟨later_of HL'.out, ?_⟩
        have F_B9 : Hid (Row (V0.alloc (.cells #[.string ⟨#[]⟩, .int .i64 0, .int .i64 0, .int .i64 0, .int .i64 0] 25)) V0.heap.size [.string ⟨#[]⟩, .int .i64 0, .int .i64 0, .int .i64 0, .int .i64 0]) := hide (Row.new V0 _ _)
        have L_B9 : Hid (V0.heap.size < (V0.alloc (.cells #[.string ⟨#[]⟩, .int .i64 0, .int .i64 0, .int .i64 0, .int .i64 0] 25)).heap.size) := hide (by simp)
        have G_B9 : Hid (U3.heap.size ≤ V0.heap.size) := hide HL.out.size
        clear HL HC
        have HL := hide HL'.out
        have HC := hide HC'.out
        clear HL' HC'
        generalize V0.alloc (.cells #[.string ⟨#[]⟩, .int .i64 0, .int .i64 0, .int .i64 0, .int .i64 0] 25) = V1 at *
        generalize V0.heap.size = B9 at *
        refine wpAnyS_only 9 (by kernel_rfl) (by simp; rfl) rfl rfl (fun K hK => ?_)
        go_wp2_with fail
        have HL' := hide (below_alloc HL.out (.cells #[.string ⟨#[]⟩, .int .i64 0, .int .i64 0, .int .i64 0, .int .i64 0] 25))
        have HC' := hide (below_alloc HC.out (.cells #[.string ⟨#[]⟩, .int .i64 0, .int .i64 0, .int .i64 0, .int .i64 0] 25))
        refine ⟨later_of HL'.out, ?_⟩
        replace F_B9 := hide (F_B9.out.alloc (.cells #[.string ⟨#[]⟩, .int .i64 0, .int .i64 0, .int .i64 0, .int .i64 0] 25))
        have F_B10 : Hid (Row (V1.alloc (.cells #[.string ⟨#[]⟩, .int .i64 0, .int .i64 0, .int .i64 0, .int .i64 0] 25)) V1.heap.size [.string ⟨#[]⟩, .int .i64 0, .int .i64 0, .int .i64 0, .int .i64 0]) := hide (Row.new V1 _ _)
        have N9 : Hid (B9 ≠ V1.heap.size) := hide (by have := L_B9.out; omega)
        have G_B10 : Hid (U3.heap.size ≤ V1.heap.size) := hide HL.out.size
        clear HL HC L_B9
        have HL := hide HL'.out
        have HC := hide HC'.out
        clear HL' HC'
        generalize V1.alloc (.cells #[.string ⟨#[]⟩, .int .i64 0, .int .i64 0, .int .i64 0, .int .i64 0] 25) = V2 at *
        generalize V1.heap.size = B10 at *
        refine wpAnyS_only 10 (by kernel_rfl) (by simp; rfl) rfl rfl (fun K hK => ?_)
        have o0 := F_B9.out.2.1 0 _ rfl
        have o1 := F_B9.out.2.1 1 _ rfl
        have o2 := F_B9.out.2.1 2 _ rfl
        have o3 := F_B9.out.2.1 3 _ rfl
        have o4 := F_B9.out.2.1 4 _ rfl
        have f0 := F_B9.out.free 0
        have f1 := F_B9.out.free 1
        have f2 := F_B9.out.free 2
        have f3 := F_B9.out.free 3
        have f4 := F_B9.out.free 4
        go_wp2_with fail
        clear o0 o1 o2 o3 o4 f0 f1 f2 f3 f4
        have HG := hide (grown5 V2 B9 (.string x0) (.int .i64 x1) (.int .i64 x2) (.int .i64 x3) (.int .i64 x4))
        have HL' := hide (HL.out.grown HG.out HL.out.size (fun k hk => by injection hk with hk; have := G_B9.out; omega))
        have HC' := hide (HC.out.grown HG.out HC.out.size (fun k hk => by injection hk with hk; have := G_B9.out; have := HC3.out.size; omega))
        replace F_B9 := hide (row5 F_B9.out (.string x0) (.int .i64 x1) (.int .i64 x2) (.int .i64 x3) (.int .i64 x4))
        replace F_B10 := hide (F_B10.out.grown HG.out (fun e => by injection e with e; exact N9.out (by omega)))
        refine ⟨later_of HL'.out, ?_⟩
        clear HL HC HG
        have HL := hide HL'.out
        have HC := hide HC'.out
        clear HL' HC'
        unfold set5 at HL HC F_B9 F_B10
        generalize ((((V2.setCell ⟨B9, 0, none⟩ (.string x0)).setCell ⟨B9, 1, none⟩ (.int .i64 x1)).setCell ⟨B9, 2, none⟩ (.int .i64 x2)).setCell ⟨B9, 3, none⟩ (.int .i64 x3)).setCell ⟨B9, 4, none⟩ (.int .i64 x4) = V3 at *
        refine wpAnyS_only 11 (by kernel_rfl) (by simp; rfl) rfl rfl (fun K hK => ?_)
        have o0 := F_B10.out.2.1 0 _ rfl
        have o1 := F_B10.out.2.1 1 _ rfl
        have o2 := F_B10.out.2.1 2 _ rfl
        have o3 := F_B10.out.2.1 3 _ rfl
        have o4 := F_B10.out.2.1 4 _ rfl
        have f0 := F_B10.out.free 0
        have f1 := F_B10.out.free 1
        have f2 := F_B10.out.free 2
        have f3 := F_B10.out.free 3
        have f4 := F_B10.out.free 4
        go_wp2_with fail
        clear o0 o1 o2 o3 o4 f0 f1 f2 f3 f4
        have HG := hide (grown5 V3 B10 (.string x0) (.int .i64 x1) (.int .i64 x2) (.int .i64 x3) (.int .i64 x4))
        have HL' := hide (HL.out.grown HG.out HL.out.size (fun k hk => by injection hk with hk; have := G_B10.out; omega))
        have HC' := hide (HC.out.grown HG.out HC.out.size (fun k hk => by injection hk with hk; have := G_B10.out; have := HC3.out.size; omega))
        replace F_B10 := hide (row5 F_B10.out (.string x0) (.int .i64 x1) (.int .i64 x2) (.int .i64 x3) (.int .i64 x4))
        replace F_B9 := hide (F_B9.out.grown HG.out (fun e => by injection e with e; exact N9.out (by omega)))
        refine ⟨later_of HL'.out, ?_⟩
        clear HL HC HG
        have HL := hide HL'.out
        have HC := hide HC'.out
        clear HL' HC'
        unfold set5 at HL HC F_B9 F_B10
        generalize ((((V3.setCell ⟨B10, 0, none⟩ (.string x0)).setCell ⟨B10, 1, none⟩ (.int .i64 x1)).setCell ⟨B10, 2, none⟩ (.int .i64 x2)).setCell ⟨B10, 3, none⟩ (.int .i64 x3)).setCell ⟨B10, 4, none⟩ (.int .i64 x4) = V4 at *
        refine wpAnyH_done (by kernel_rfl) ?_ _
        clear c0 c1 c2 c3 c4
        have o0 := F_B9.out.2.1 0 _ rfl
        have p0 := F_B10.out.2.1 0 _ rfl
        have o1 := F_B9.out.2.1 1 _ rfl
        have p1 := F_B10.out.2.1 1 _ rfl
        have o2 := F_B9.out.2.1 2 _ rfl
        have p2 := F_B10.out.2.1 2 _ rfl
        have o3 := F_B9.out.2.1 3 _ rfl
        have p3 := F_B10.out.2.1 3 _ rfl
        have o4 := F_B9.out.2.1 4 _ rfl
        have p4 := F_B10.out.2.1 4 _ rfl
        have f2 := F_B9.out.free 2
        have f1 := F_B10.out.free 1
        have n9 := N9.out
        have n8 : B10 ≠ B9 := Ne.symm n9
        go_wp2_with fail
        have HZ : Hid (((V4.setCell ⟨B9, 2, none⟩ (.int .i64 (h - 1))).setCell ⟨B10, 1, none⟩ (.int .i64 (h + 1))).heap.size = V4.heap.size) := hide (by simp [World.setCell])
        clear o0 o1 o2 o3 o4 p0 p1 p2 p3 p4 f1 f2 n9 n8
        have HG := hide (grown_set (w := V4) (p := ⟨B9, 2, none⟩) (g := B9) (.int .i64 (h - 1)) rfl)
        have HC' := hide (HC.out.grown HG.out HC.out.size (fun k hk => by injection hk with hk; have := G_B9.out; have := HC3.out.size; omega))
        replace F_B9 := hide (F_B9.out.set (k := 2) (by simp) (.int .i64 (h - 1)))
        replace F_B10 := hide (F_B10.out.grown HG.out (fun e => by injection e with e; exact N9.out (by omega)))
        have HLX := hide (HL.out.grown HG.out HL.out.size (fun k hk => by injection hk with hk; have := G_B9.out; omega))
        clear HG HC
        generalize V4.setCell ⟨B9, 2, none⟩ (.int .i64 (h - 1)) = V5 at *
        have HG := hide (grown_set (w := V5) (p := ⟨B10, 1, none⟩) (g := B10) (.int .i64 (h + 1)) rfl)
        have HC := hide (HC'.out.grown HG.out HC'.out.size (fun k hk => by injection hk with hk; have := G_B10.out; have := HC3.out.size; omega))
        replace F_B10 := hide (F_B10.out.set (k := 1) (by simp) (.int .i64 (h + 1)))
        replace F_B9 := hide (F_B9.out.grown HG.out (fun e => by injection e with e; exact N9.out (by omega)))
        replace HLX := hide (HLX.out.grown HG.out HLX.out.size (fun k hk => by injection hk with hk; have := G_B10.out; omega))
        clear HG HC' HL
        generalize V5.setCell ⟨B10, 1, none⟩ (.int .i64 (h + 1)) = V6 at *
        simp only [List.set_cons_succ, List.set_cons_zero] at F_B9 F_B10
        have HF6 := hide (own_le (B' := w.heap.size) (own_below F_g2.out HLX.out) HB2.out.size)
        have HCX := hide (below_alloc HC.out (.cells #[.string x0, .int .i64 x1, .int .i64 (h - 1), .int .i64 x3, .int .i64 x4, .string x0, .int .i64 (h + 1), .int .i64 x2, .int .i64 x3, .int .i64 x4] 25))
        have HBX := hide (Row.new V6 #[.string x0, .int .i64 x1, .int .i64 (h - 1), .int .i64 x3, .int .i64 x4, .string x0, .int .i64 (h + 1), .int .i64 x2, .int .i64 x3, .int .i64 x4] 25)
        have HOX := hide (World.ownsRow.alloc HF6.out (.cells #[.string x0, .int .i64 x1, .int .i64 (h - 1), .int .i64 x3, .int .i64 x4, .string x0, .int .i64 (h + 1), .int .i64 x2, .int .i64 x3, .int .i64 x4] 25))
        obtain ⟨A2, k2, hA2, -, hnc2, hcm2, -⟩ := own_open HOX.out
        simp only [Value.slice.injEq, true_and] at hA2
        obtain ⟨-, rfl⟩ := hA2
        clear HF6 HC HLX HFG F_g2 F_B9 F_B10
        rw [show V4.heap.size = V6.heap.size from HZ.out.symm]
        clear HZ
        generalize V6.alloc (.cells #[.string x0, .int .i64 x1, .int .i64 (h - 1), .int .i64 x3, .int .i64 x4, .string x0, .int .i64 (h + 1), .int .i64 x2, .int .i64 x3, .int .i64 x4] 25) = X0 at *
        generalize V6.heap.size = BX at *
        go_loopw [9, 53] (fun v t wr => ∃ (q m g cap : Nat), q ≤ 2 ∧ t = .int .i64 q ∧ v = .slice (some ⟨g, 0, none⟩) m cap ∧ m ≤ 30 + q ∧ m ≤ cap ∧ cap ≤ maxLen ∧ Hid (m = (stageL l k (x0, x1, x2, x3, x4) h q).length) ∧ Hid (wr.ownsRow w.heap.size 25 5 (.slice (some ⟨g, 0, none⟩) m cap) m ((stageL l k (x0, x1, x2, x3, x4) h q).flatMap scells)) ∧ Hid (Below w.heap.size w wr) ∧ Hid (Row wr BX [.string x0, .int .i64 x1, .int .i64 (h - 1), .int .i64 x3, .int .i64 x4, .string x0, .int .i64 (h + 1), .int .i64 x2, .int .i64 x3, .int .i64 x4])) (fun _ t _ => 2 - (intOf t).toNat)
        case atStart => exact ⟨0, k + (n - (k + 1)), g2, _, by omega, rfl, rfl, by omega, hnc2, hcm2, hide (by rw [stageL]; simp; have := Hn.out; omega), HOX, HCX, HBX⟩
        case round =>
          clear HOX HCX HBX hnc2 hcm2
          obtain ⟨q, m, g, cap, hq, rfl, rfl, hmq, hmc, hcm, HML, HO, HBW, HXR⟩ := hrel
          unfold maxLen at hcm
          rcases (show q = 0 ∨ q = 1 ∨ q = 2 by omega) with rfl | rfl | rfl
          · by_cases hb : x1 ≤ h - 1
            · have HQ := hide (show stageL l k (x0, x1, x2, x3, x4) h 1 = putS (stageL l k (x0, x1, x2, x3, x4) h 0) (x0, x1, h - 1, x3, x4) from if_pos hb)
              have HA1 := hide (below_alloc HBW.out (.cells #[.string x0, .int .i64 x1, .int .i64 (h - 1), .int .i64 x3, .int .i64 x4] 25))
              have HA2 := hide (HXR.out.alloc (.cells #[.string x0, .int .i64 x1, .int .i64 (h - 1), .int .i64 x3, .int .i64 x4] 25))
              have HA3 := hide (own_rd (World.ownsRow.alloc HO.out (.cells #[.string x0, .int .i64 x1, .int .i64 (h - 1), .int .i64 x3, .int .i64 x4] 25)))
              have rr0 := HXR.out.2.1 0 _ rfl
              have rr1 := HXR.out.2.1 1 _ rfl
              have rr2 := HXR.out.2.1 2 _ rfl
              have rr3 := HXR.out.2.1 3 _ rfl
              have rr4 := HXR.out.2.1 4 _ rfl
              go_wp2_with fail
              refine (adPut_any g 0 m cap (stageL l k (x0, x1, x2, x3, x4) h 0) x0 x1 (h - 1) x3 x4 (wr.alloc (.cells #[.string x0, .int .i64 x1, .int .i64 (h - 1), .int .i64 x3, .int .i64 x4] 25)) HML.out (by omega) hmc (by unfold maxLen; omega) HA3.out).mono ?_
              rintro e w8 ⟨⟨v, rfl, ho⟩, hb8⟩
              obtain ⟨g', cap', rfl, -, -, hmc', hcm'⟩ := own_some ho (by omega)
              have HO8 := hide (own_le (B' := w.heap.size) ho HA1.out.size)
              have HB8 := hide (below_step HA1.out hb8)
              have HX8 := hide (HA2.out.below hb8)
              clear ho hb8 rr0 rr1 rr2 rr3 rr4
              go_wp2
              go_roundw
              case rel => exact ⟨1, m + 1, g', cap', by omega, by go_num, rfl, by omega, hmc', hcm', hide (by rw [HQ.out, putS_length]; have := HML.out; omega), hide (by rw [HQ.out]; exact HO8.out), HB8, HX8⟩
              case measure => simp [intOf]
            · have HQ := hide (show stageL l k (x0, x1, x2, x3, x4) h 1 = stageL l k (x0, x1, x2, x3, x4) h 0 from if_neg hb)
              have HA1 := hide (below_alloc HBW.out (.cells #[.string x0, .int .i64 x1, .int .i64 (h - 1), .int .i64 x3, .int .i64 x4] 25))
              have HA2 := hide (HXR.out.alloc (.cells #[.string x0, .int .i64 x1, .int .i64 (h - 1), .int .i64 x3, .int .i64 x4] 25))
              have HA3 := hide (World.ownsRow.alloc HO.out (.cells #[.string x0, .int .i64 x1, .int .i64 (h - 1), .int .i64 x3, .int .i64 x4] 25))
              have rr0 := HXR.out.2.1 0 _ rfl
              have rr1 := HXR.out.2.1 1 _ rfl
              have rr2 := HXR.out.2.1 2 _ rfl
              have rr3 := HXR.out.2.1 3 _ rfl
              have rr4 := HXR.out.2.1 4 _ rfl
              go_wp2
              go_roundw
              case rel => exact ⟨1, m, g, cap, by omega, by go_num, rfl, by omega, hmc, by unfold maxLen; omega, hide (by rw [HQ.out]; exact HML.out), hide (by rw [HQ.out]; exact HA3.out), HA1, HA2⟩
              case measure => simp [intOf]
          · by_cases hb : h + 1 ≤ x2
            · have HQ := hide (show stageL l k (x0, x1, x2, x3, x4) h 2 = putS (stageL l k (x0, x1, x2, x3, x4) h 1) (x0, h + 1, x2, x3, x4) from if_pos hb)
              have HA1 := hide (below_alloc HBW.out (.cells #[.string x0, .int .i64 (h + 1), .int .i64 x2, .int .i64 x3, .int .i64 x4] 25))
              have HA2 := hide (HXR.out.alloc (.cells #[.string x0, .int .i64 (h + 1), .int .i64 x2, .int .i64 x3, .int .i64 x4] 25))
              have HA3 := hide (own_rd (World.ownsRow.alloc HO.out (.cells #[.string x0, .int .i64 (h + 1), .int .i64 x2, .int .i64 x3, .int .i64 x4] 25)))
              have rr0 := HXR.out.2.1 5 _ rfl
              have rr1 := HXR.out.2.1 6 _ rfl
              have rr2 := HXR.out.2.1 7 _ rfl
              have rr3 := HXR.out.2.1 8 _ rfl
              have rr4 := HXR.out.2.1 9 _ rfl
              go_wp2_with fail
              refine (adPut_any g 0 m cap (stageL l k (x0, x1, x2, x3, x4) h 1) x0 (h + 1) x2 x3 x4 (wr.alloc (.cells #[.string x0, .int .i64 (h + 1), .int .i64 x2, .int .i64 x3, .int .i64 x4] 25)) HML.out (by omega) hmc (by unfold maxLen; omega) HA3.out).mono ?_
              rintro e w8 ⟨⟨v, rfl, ho⟩, hb8⟩
              obtain ⟨g', cap', rfl, -, -, hmc', hcm'⟩ := own_some ho (by omega)
              have HO8 := hide (own_le (B' := w.heap.size) ho HA1.out.size)
              have HB8 := hide (below_step HA1.out hb8)
              have HX8 := hide (HA2.out.below hb8)
              clear ho hb8 rr0 rr1 rr2 rr3 rr4
              go_wp2
              go_roundw
              case rel => exact ⟨2, m + 1, g', cap', by omega, by go_num, rfl, by omega, hmc', hcm', hide (by rw [HQ.out, putS_length]; have := HML.out; omega), hide (by rw [HQ.out]; exact HO8.out), HB8, HX8⟩
              case measure => simp [intOf]
            · have HQ := hide (show stageL l k (x0, x1, x2, x3, x4) h 2 = stageL l k (x0, x1, x2, x3, x4) h 1 from if_neg hb)
              have HA1 := hide (below_alloc HBW.out (.cells #[.string x0, .int .i64 (h + 1), .int .i64 x2, .int .i64 x3, .int .i64 x4] 25))
              have HA2 := hide (HXR.out.alloc (.cells #[.string x0, .int .i64 (h + 1), .int .i64 x2, .int .i64 x3, .int .i64 x4] 25))
              have HA3 := hide (World.ownsRow.alloc HO.out (.cells #[.string x0, .int .i64 (h + 1), .int .i64 x2, .int .i64 x3, .int .i64 x4] 25))
              have rr0 := HXR.out.2.1 5 _ rfl
              have rr1 := HXR.out.2.1 6 _ rfl
              have rr2 := HXR.out.2.1 7 _ rfl
              have rr3 := HXR.out.2.1 8 _ rfl
              have rr4 := HXR.out.2.1 9 _ rfl
              go_wp2
              go_roundw
              case rel => exact ⟨2, m, g, cap, by omega, by go_num, rfl, by omega, hmc, by unfold maxLen; omega, hide (by rw [HQ.out]; exact HML.out), hide (by rw [HQ.out]; exact HA3.out), HA1, HA2⟩
              case measure => simp [intOf]
          · have HST := hide (show stageL l k (x0, x1, x2, x3, x4) h 2 = rhN l k (x0, x1, x2, x3, x4) h from put_both HLS.out HX.out HP.out.1 HP.out.2)
            rw [HST.out] at HML HO
            have QE := hide (adGood_any (some ⟨g, 0, none⟩) m cap (rhN l k (x0, x1, x2, x3, x4) h) wr HML.out (by omega) (rhN_road HX.out HS.out) (own_rd HO.out))
            clear HST HXR
            generalize hrq : rhN l k (x0, x1, x2, x3, x4) h = r at *
            clear hrq
            cases h9 : strsB r with
            | false =>
              rw [h9] at QE HE
              clear h9
              go_wp2_with fail
              refine QE.out.mono ?_
              rintro e w11 ⟨rfl, hq⟩
              have HB11 := hide (below_step HBW.out hq)
              clear hq
              go_wp2
              go_ret2
              exact RhPost.no HE.out HB11.out
            | true =>
              rw [h9] at QE HE
              clear h9
              go_wp2_with fail
              refine QE.out.mono ?_
              rintro e w11 ⟨rfl, hq⟩
              have HB11 := hide (below_step HBW.out hq)
              have HO11 := hide (own_below HO.out hq)
              clear hq
              go_wp2
              go_ret2
              exact RhPost.yes HE.out HML.out HO11.out HB11.out
      · go_wp2_with fail
        have HL' := hide (below_alloc HL.out (.cells #[.string ⟨#[]⟩, .int .i64 0, .int .i64 0, .int .i64 0, .int .i64 0] 25))
        have HC' := hide (below_alloc HC.out (.cells #[.string ⟨#[]⟩, .int .i64 0, .int .i64 0, .int .i64 0, .int .i64 0] 25))
        refine ⟨later_of HL'.out, ?_⟩
        have F_B10 : Hid (Row (V0.alloc (.cells #[.string ⟨#[]⟩, .int .i64 0, .int .i64 0, .int .i64 0, .int .i64 0] 25)) V0.heap.size [.string ⟨#[]⟩, .int .i64 0, .int .i64 0, .int .i64 0, .int .i64 0]) := hide (Row.new V0 _ _)
        have L_B10 : Hid (V0.heap.size < (V0.alloc (.cells #[.string ⟨#[]⟩, .int .i64 0, .int .i64 0, .int .i64 0, .int .i64 0] 25)).heap.size) := hide (by simp)
        have G_B10 : Hid (U3.heap.size ≤ V0.heap.size) := hide HL.out.size
        clear HL HC
        have HL := hide HL'.out
        have HC := hide HC'.out
        clear HL' HC'
        generalize V0.alloc (.cells #[.string ⟨#[]⟩, .int .i64 0, .int .i64 0, .int .i64 0, .int .i64 0] 25) = V1 at *
        generalize V0.heap.size = B10 at *
        refine wpAnyS_only 8 (by kernel_rfl) (by simp; rfl) rfl rfl (fun K hK => ?_)
        go_wp2_with fail
        have HL' := hide (below_alloc HL.out (.cells #[.string ⟨#[]⟩, .int .i64 0, .int .i64 0, .int .i64 0, .int .i64 0] 25))
        have HC' := hide (below_alloc HC.out (.cells #[.string ⟨#[]⟩, .int .i64 0, .int .i64 0, .int .i64 0, .int .i64 0] 25))
        refine ⟨later_of HL'.out, ?_⟩
        replace F_B10 := hide (F_B10.out.alloc (.cells #[.string ⟨#[]⟩, .int .i64 0, .int .i64 0, .int .i64 0, .int .i64 0] 25))
        have F_B9 : Hid (Row (V1.alloc (.cells #[.string ⟨#[]⟩, .int .i64 0, .int .i64 0, .int .i64 0, .int .i64 0] 25)) V1.heap.size [.string ⟨#[]⟩, .int .i64 0, .int .i64 0, .int .i64 0, .int .i64 0]) := hide (Row.new V1 _ _)
        have N9 : Hid (V1.heap.size ≠ B10) := hide (by have := L_B10.out; omega)
        have G_B9 : Hid (U3.heap.size ≤ V1.heap.size) := hide HL.out.size
        clear HL HC L_B10
        have HL := hide HL'.out
        have HC := hide HC'.out
        clear HL' HC'
        generalize V1.alloc (.cells #[.string ⟨#[]⟩, .int .i64 0, .int .i64 0, .int .i64 0, .int .i64 0] 25) = V2 at *
        generalize V1.heap.size = B9 at *
        refine wpAnyS_only 10 (by kernel_rfl) (by simp; rfl) rfl rfl (fun K hK => ?_)
        have o0 := F_B9.out.2.1 0 _ rfl
        have o1 := F_B9.out.2.1 1 _ rfl
        have o2 := F_B9.out.2.1 2 _ rfl
        have o3 := F_B9.out.2.1 3 _ rfl
        have o4 := F_B9.out.2.1 4 _ rfl
        have f0 := F_B9.out.free 0
        have f1 := F_B9.out.free 1
        have f2 := F_B9.out.free 2
        have f3 := F_B9.out.free 3
        have f4 := F_B9.out.free 4
        go_wp2_with fail
        clear o0 o1 o2 o3 o4 f0 f1 f2 f3 f4
        have HG := hide (grown5 V2 B9 (.string x0) (.int .i64 x1) (.int .i64 x2) (.int .i64 x3) (.int .i64 x4))
        have HL' := hide (HL.out.grown HG.out HL.out.size (fun k hk => by injection hk with hk; have := G_B9.out; omega))
        have HC' := hide (HC.out.grown HG.out HC.out.size (fun k hk => by injection hk with hk; have := G_B9.out; have := HC3.out.size; omega))
        replace F_B9 := hide (row5 F_B9.out (.string x0) (.int .i64 x1) (.int .i64 x2) (.int .i64 x3) (.int .i64 x4))
        replace F_B10 := hide (F_B10.out.grown HG.out (fun e => by injection e with e; exact N9.out (by omega)))
        refine ⟨later_of HL'.out, ?_⟩
        clear HL HC HG
        have HL := hide HL'.out
        have HC := hide HC'.out
        clear HL' HC'
        unfold set5 at HL HC F_B9 F_B10
        generalize ((((V2.setCell ⟨B9, 0, none⟩ (.string x0)).setCell ⟨B9, 1, none⟩ (.int .i64 x1)).setCell ⟨B9, 2, none⟩ (.int .i64 x2)).setCell ⟨B9, 3, none⟩ (.int .i64 x3)).setCell ⟨B9, 4, none⟩ (.int .i64 x4) = V3 at *
        refine wpAnyS_only 11 (by kernel_rfl) (by simp; rfl) rfl rfl (fun K hK => ?_)
        have o0 := F_B10.out.2.1 0 _ rfl
        have o1 := F_B10.out.2.1 1 _ rfl
        have o2 := F_B10.out.2.1 2 _ rfl
        have o3 := F_B10.out.2.1 3 _ rfl
        have o4 := F_B10.out.2.1 4 _ rfl
        have f0 := F_B10.out.free 0
        have f1 := F_B10.out.free 1
        have f2 := F_B10.out.free 2
        have f3 := F_B10.out.free 3
        have f4 := F_B10.out.free 4
        go_wp2_with fail
        clear o0 o1 o2 o3 o4 f0 f1 f2 f3 f4
        have HG := hide (grown5 V3 B10 (.string x0) (.int .i64 x1) (.int .i64 x2) (.int .i64 x3) (.int .i64 x4))
        have HL' := hide (HL.out.grown HG.out HL.out.size (fun k hk => by injection hk with hk; have := G_B10.out; omega))
        have HC' := hide (HC.out.grown HG.out HC.out.size (fun k hk => by injection hk with hk; have := G_B10.out; have := HC3.out.size; omega))
        replace F_B10 := hide (row5 F_B10.out (.string x0) (.int .i64 x1) (.int .i64 x2) (.int .i64 x3) (.int .i64 x4))
        replace F_B9 := hide (F_B9.out.grown HG.out (fun e => by injection e with e; exact N9.out (by omega)))
        refine ⟨later_of HL'.out, ?_⟩
        clear HL HC HG
        have HL := hide HL'.out
        have HC := hide HC'.out
        clear HL' HC'
        unfold set5 at HL HC F_B9 F_B10
        generalize ((((V3.setCell ⟨B10, 0, none⟩ (.string x0)).setCell ⟨B10, 1, none⟩ (.int .i64 x1)).setCell ⟨B10, 2, none⟩ (.int .i64 x2)).setCell ⟨B10, 3, none⟩ (.int .i64 x3)).setCell ⟨B10, 4, none⟩ (.int .i64 x4) = V4 at *
        refine wpAnyH_done (by kernel_rfl) ?_ _
        clear c0 c1 c2 c3 c4
        have o0 := F_B9.out.2.1 0 _ rfl
        have p0 := F_B10.out.2.1 0 _ rfl
        have o1 := F_B9.out.2.1 1 _ rfl
        have p1 := F_B10.out.2.1 1 _ rfl
        have o2 := F_B9.out.2.1 2 _ rfl
        have p2 := F_B10.out.2.1 2 _ rfl
        have o3 := F_B9.out.2.1 3 _ rfl
        have p3 := F_B10.out.2.1 3 _ rfl
        have o4 := F_B9.out.2.1 4 _ rfl
        have p4 := F_B10.out.2.1 4 _ rfl
        have f2 := F_B9.out.free 2
        have f1 := F_B10.out.free 1
        have n9 := N9.out
        have n8 : B10 ≠ B9 := Ne.symm n9
        go_wp2_with fail
        have HZ : Hid (((V4.setCell ⟨B9, 2, none⟩ (.int .i64 (h - 1))).setCell ⟨B10, 1, none⟩ (.int .i64 (h + 1))).heap.size = V4.heap.size) := hide (by simp [World.setCell])
        clear o0 o1 o2 o3 o4 p0 p1 p2 p3 p4 f1 f2 n9 n8
        have HG := hide (grown_set (w := V4) (p := ⟨B9, 2, none⟩) (g := B9) (.int .i64 (h - 1)) rfl)
        have HC' := hide (HC.out.grown HG.out HC.out.size (fun k hk => by injection hk with hk; have := G_B9.out; have := HC3.out.size; omega))
        replace F_B9 := hide (F_B9.out.set (k := 2) (by simp) (.int .i64 (h - 1)))
        replace F_B10 := hide (F_B10.out.grown HG.out (fun e => by injection e with e; exact N9.out (by omega)))
        have HLX := hide (HL.out.grown HG.out HL.out.size (fun k hk => by injection hk with hk; have := G_B9.out; omega))
        clear HG HC
        generalize V4.setCell ⟨B9, 2, none⟩ (.int .i64 (h - 1)) = V5 at *
        have HG := hide (grown_set (w := V5) (p := ⟨B10, 1, none⟩) (g := B10) (.int .i64 (h + 1)) rfl)
        have HC := hide (HC'.out.grown HG.out HC'.out.size (fun k hk => by injection hk with hk; have := G_B10.out; have := HC3.out.size; omega))
        replace F_B10 := hide (F_B10.out.set (k := 1) (by simp) (.int .i64 (h + 1)))
        replace F_B9 := hide (F_B9.out.grown HG.out (fun e => by injection e with e; exact N9.out (by omega)))
        replace HLX := hide (HLX.out.grown HG.out HLX.out.size (fun k hk => by injection hk with hk; have := G_B10.out; omega))
        clear HG HC' HL
        generalize V5.setCell ⟨B10, 1, none⟩ (.int .i64 (h + 1)) = V6 at *
        simp only [List.set_cons_succ, List.set_cons_zero] at F_B9 F_B10
        have HF6 := hide (own_le (B' := w.heap.size) (own_below F_g2.out HLX.out) HB2.out.size)
        have HCX := hide (below_alloc HC.out (.cells #[.string x0, .int .i64 x1, .int .i64 (h - 1), .int .i64 x3, .int .i64 x4, .string x0, .int .i64 (h + 1), .int .i64 x2, .int .i64 x3, .int .i64 x4] 25))
        have HBX := hide (Row.new V6 #[.string x0, .int .i64 x1, .int .i64 (h - 1), .int .i64 x3, .int .i64 x4, .string x0, .int .i64 (h + 1), .int .i64 x2, .int .i64 x3, .int .i64 x4] 25)
        have HOX := hide (World.ownsRow.alloc HF6.out (.cells #[.string x0, .int .i64 x1, .int .i64 (h - 1), .int .i64 x3, .int .i64 x4, .string x0, .int .i64 (h + 1), .int .i64 x2, .int .i64 x3, .int .i64 x4] 25))
        obtain ⟨A2, k2, hA2, -, hnc2, hcm2, -⟩ := own_open HOX.out
        simp only [Value.slice.injEq, true_and] at hA2
        obtain ⟨-, rfl⟩ := hA2
        clear HF6 HC HLX HFG F_g2 F_B9 F_B10
        rw [show V4.heap.size = V6.heap.size from HZ.out.symm]
        clear HZ
        generalize V6.alloc (.cells #[.string x0, .int .i64 x1, .int .i64 (h - 1), .int .i64 x3, .int .i64 x4, .string x0, .int .i64 (h + 1), .int .i64 x2, .int .i64 x3, .int .i64 x4] 25) = X0 at *
        generalize V6.heap.size = BX at *
        go_loopw [9, 53] (fun v t wr => ∃ (q m g cap : Nat), q ≤ 2 ∧ t = .int .i64 q ∧ v = .slice (some ⟨g, 0, none⟩) m cap ∧ m ≤ 30 + q ∧ m ≤ cap ∧ cap ≤ maxLen ∧ Hid (m = (stageL l k (x0, x1, x2, x3, x4) h q).length) ∧ Hid (wr.ownsRow w.heap.size 25 5 (.slice (some ⟨g, 0, none⟩) m cap) m ((stageL l k (x0, x1, x2, x3, x4) h q).flatMap scells)) ∧ Hid (Below w.heap.size w wr) ∧ Hid (Row wr BX [.string x0, .int .i64 x1, .int .i64 (h - 1), .int .i64 x3, .int .i64 x4, .string x0, .int .i64 (h + 1), .int .i64 x2, .int .i64 x3, .int .i64 x4])) (fun _ t _ => 2 - (intOf t).toNat)
        case atStart => exact ⟨0, k + (n - (k + 1)), g2, _, by omega, rfl, rfl, by omega, hnc2, hcm2, hide (by rw [stageL]; simp; have := Hn.out; omega), HOX, HCX, HBX⟩
        case round =>
          clear HOX HCX HBX hnc2 hcm2
          obtain ⟨q, m, g, cap, hq, rfl, rfl, hmq, hmc, hcm, HML, HO, HBW, HXR⟩ := hrel
          unfold maxLen at hcm
          rcases (show q = 0 ∨ q = 1 ∨ q = 2 by omega) with rfl | rfl | rfl
          · by_cases hb : x1 ≤ h - 1
            · have HQ := hide (show stageL l k (x0, x1, x2, x3, x4) h 1 = putS (stageL l k (x0, x1, x2, x3, x4) h 0) (x0, x1, h - 1, x3, x4) from if_pos hb)
              have HA1 := hide (below_alloc HBW.out (.cells #[.string x0, .int .i64 x1, .int .i64 (h - 1), .int .i64 x3, .int .i64 x4] 25))
              have HA2 := hide (HXR.out.alloc (.cells #[.string x0, .int .i64 x1, .int .i64 (h - 1), .int .i64 x3, .int .i64 x4] 25))
              have HA3 := hide (own_rd (World.ownsRow.alloc HO.out (.cells #[.string x0, .int .i64 x1, .int .i64 (h - 1), .int .i64 x3, .int .i64 x4] 25)))
              have rr0 := HXR.out.2.1 0 _ rfl
              have rr1 := HXR.out.2.1 1 _ rfl
              have rr2 := HXR.out.2.1 2 _ rfl
              have rr3 := HXR.out.2.1 3 _ rfl
              have rr4 := HXR.out.2.1 4 _ rfl
              go_wp2_with fail
              refine (adPut_any g 0 m cap (stageL l k (x0, x1, x2, x3, x4) h 0) x0 x1 (h - 1) x3 x4 (wr.alloc (.cells #[.string x0, .int .i64 x1, .int .i64 (h - 1), .int .i64 x3, .int .i64 x4] 25)) HML.out (by omega) hmc (by unfold maxLen; omega) HA3.out).mono ?_
              rintro e w8 ⟨⟨v, rfl, ho⟩, hb8⟩
              obtain ⟨g', cap', rfl, -, -, hmc', hcm'⟩ := own_some ho (by omega)
              have HO8 := hide (own_le (B' := w.heap.size) ho HA1.out.size)
              have HB8 := hide (below_step HA1.out hb8)
              have HX8 := hide (HA2.out.below hb8)
              clear ho hb8 rr0 rr1 rr2 rr3 rr4
              go_wp2
              go_roundw
              case rel => exact ⟨1, m + 1, g', cap', by omega, by go_num, rfl, by omega, hmc', hcm', hide (by rw [HQ.out, putS_length]; have := HML.out; omega), hide (by rw [HQ.out]; exact HO8.out), HB8, HX8⟩
              case measure => simp [intOf]
            · have HQ := hide (show stageL l k (x0, x1, x2, x3, x4) h 1 = stageL l k (x0, x1, x2, x3, x4) h 0 from if_neg hb)
              have HA1 := hide (below_alloc HBW.out (.cells #[.string x0, .int .i64 x1, .int .i64 (h - 1), .int .i64 x3, .int .i64 x4] 25))
              have HA2 := hide (HXR.out.alloc (.cells #[.string x0, .int .i64 x1, .int .i64 (h - 1), .int .i64 x3, .int .i64 x4] 25))
              have HA3 := hide (World.ownsRow.alloc HO.out (.cells #[.string x0, .int .i64 x1, .int .i64 (h - 1), .int .i64 x3, .int .i64 x4] 25))
              have rr0 := HXR.out.2.1 0 _ rfl
              have rr1 := HXR.out.2.1 1 _ rfl
              have rr2 := HXR.out.2.1 2 _ rfl
              have rr3 := HXR.out.2.1 3 _ rfl
              have rr4 := HXR.out.2.1 4 _ rfl
              go_wp2
              go_roundw
              case rel => exact ⟨1, m, g, cap, by omega, by go_num, rfl, by omega, hmc, by unfold maxLen; omega, hide (by rw [HQ.out]; exact HML.out), hide (by rw [HQ.out]; exact HA3.out), HA1, HA2⟩
              case measure => simp [intOf]
          · by_cases hb : h + 1 ≤ x2
            · have HQ := hide (show stageL l k (x0, x1, x2, x3, x4) h 2 = putS (stageL l k (x0, x1, x2, x3, x4) h 1) (x0, h + 1, x2, x3, x4) from if_pos hb)
              have HA1 := hide (below_alloc HBW.out (.cells #[.string x0, .int .i64 (h + 1), .int .i64 x2, .int .i64 x3, .int .i64 x4] 25))
              have HA2 := hide (HXR.out.alloc (.cells #[.string x0, .int .i64 (h + 1), .int .i64 x2, .int .i64 x3, .int .i64 x4] 25))
              have HA3 := hide (own_rd (World.ownsRow.alloc HO.out (.cells #[.string x0, .int .i64 (h + 1), .int .i64 x2, .int .i64 x3, .int .i64 x4] 25)))
              have rr0 := HXR.out.2.1 5 _ rfl
              have rr1 := HXR.out.2.1 6 _ rfl
              have rr2 := HXR.out.2.1 7 _ rfl
              have rr3 := HXR.out.2.1 8 _ rfl
              have rr4 := HXR.out.2.1 9 _ rfl
              go_wp2_with fail
              refine (adPut_any g 0 m cap (stageL l k (x0, x1, x2, x3, x4) h 1) x0 (h + 1) x2 x3 x4 (wr.alloc (.cells #[.string x0, .int .i64 (h + 1), .int .i64 x2, .int .i64 x3, .int .i64 x4] 25)) HML.out (by omega) hmc (by unfold maxLen; omega) HA3.out).mono ?_
              rintro e w8 ⟨⟨v, rfl, ho⟩, hb8⟩
              obtain ⟨g', cap', rfl, -, -, hmc', hcm'⟩ := own_some ho (by omega)
              have HO8 := hide (own_le (B' := w.heap.size) ho HA1.out.size)
              have HB8 := hide (below_step HA1.out hb8)
              have HX8 := hide (HA2.out.below hb8)
              clear ho hb8 rr0 rr1 rr2 rr3 rr4
              go_wp2
              go_roundw
              case rel => exact ⟨2, m + 1, g', cap', by omega, by go_num, rfl, by omega, hmc', hcm', hide (by rw [HQ.out, putS_length]; have := HML.out; omega), hide (by rw [HQ.out]; exact HO8.out), HB8, HX8⟩
              case measure => simp [intOf]
            · have HQ := hide (show stageL l k (x0, x1, x2, x3, x4) h 2 = stageL l k (x0, x1, x2, x3, x4) h 1 from if_neg hb)
              have HA1 := hide (below_alloc HBW.out (.cells #[.string x0, .int .i64 (h + 1), .int .i64 x2, .int .i64 x3, .int .i64 x4] 25))
              have HA2 := hide (HXR.out.alloc (.cells #[.string x0, .int .i64 (h + 1), .int .i64 x2, .int .i64 x3, .int .i64 x4] 25))
              have HA3 := hide (World.ownsRow.alloc HO.out (.cells #[.string x0, .int .i64 (h + 1), .int .i64 x2, .int .i64 x3, .int .i64 x4] 25))
              have rr0 := HXR.out.2.1 5 _ rfl
              have rr1 := HXR.out.2.1 6 _ rfl
              have rr2 := HXR.out.2.1 7 _ rfl
              have rr3 := HXR.out.2.1 8 _ rfl
              have rr4 := HXR.out.2.1 9 _ rfl
              go_wp2
              go_roundw
              case rel => exact ⟨2, m, g, cap, by omega, by go_num, rfl, by omega, hmc, by unfold maxLen; omega, hide (by rw [HQ.out]; exact HML.out), hide (by rw [HQ.out]; exact HA3.out), HA1, HA2⟩
              case measure => simp [intOf]
          · have HST := hide (show stageL l k (x0, x1, x2, x3, x4) h 2 = rhN l k (x0, x1, x2, x3, x4) h from put_both HLS.out HX.out HP.out.1 HP.out.2)
            rw [HST.out] at HML HO
            have QE := hide (adGood_any (some ⟨g, 0, none⟩) m cap (rhN l k (x0, x1, x2, x3, x4) h) wr HML.out (by omega) (rhN_road HX.out HS.out) (own_rd HO.out))
            clear HST HXR
            generalize hrq : rhN l k (x0, x1, x2, x3, x4) h = r at *
            clear hrq
            cases h9 : strsB r with
            | false =>
              rw [h9] at QE HE
              clear h9
              go_wp2_with fail
              refine QE.out.mono ?_
              rintro e w11 ⟨rfl, hq⟩
              have HB11 := hide (below_step HBW.out hq)
              clear hq
              go_wp2
              go_ret2
              exact RhPost.no HE.out HB11.out
            | true =>
              rw [h9] at QE HE
              clear h9
              go_wp2_with fail
              refine QE.out.mono ?_
              rintro e w11 ⟨rfl, hq⟩
              have HB11 := hide (below_step HBW.out hq)
              have HO11 := hide (own_below HO.out hq)
              clear hq
              go_wp2
              go_ret2
              exact RhPost.yes HE.out HML.out HO11.out HB11.out
end Go.Proofs.Ytpkhdmhfkmajcaa

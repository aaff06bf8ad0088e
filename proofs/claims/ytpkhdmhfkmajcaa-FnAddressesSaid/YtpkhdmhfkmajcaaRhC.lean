/- A house removed: the program's walk. -/
import Derived.Test.YtpkhdmhfkmajcaaRhB
namespace Go.Proofs.Ytpkhdmhfkmajcaa
open Go.RowKit
set_option linter.unusedVariables false

def set5 (w : World) (g : Nat) (u0 u1 u2 u3 u4 : Value) : World := ((((w.setCell ⟨g, 0, none⟩ u0).setCell ⟨g, 1, none⟩ u1).setCell ⟨g, 2, none⟩ u2).setCell ⟨g, 3, none⟩ u3).setCell ⟨g, 4, none⟩ u4
theorem grown5 (w : World) (g : Nat) (u0 u1 u2 u3 u4 : Value) : w.grownBy (set5 w g u0 u1 u2 u3 u4) (some g) :=
  grown_trans (grown_trans (grown_trans (grown_trans (grown_set _ rfl) (grown_set _ rfl)) (grown_set _ rfl)) (grown_set _ rfl)) (grown_set _ rfl)
theorem row5 {w : World} {g : Nat} {y0 y1 y2 y3 y4 : Value} (h : Row w g [y0, y1, y2, y3, y4]) (u0 u1 u2 u3 u4 : Value) : Row (set5 w g u0 u1 u2 u3 u4) g [u0, u1, u2, u3, u4] :=
  Row.set (Row.set (Row.set (Row.set (Row.set h (k := 0) (by simp) u0) (k := 1) (by simp) u1) (k := 2) (by simp) u2) (k := 3) (by simp) u3) (k := 4) (by simp) u4

theorem tail_addr (b off n c k : Nat) (l : List StrT) (w : World) (hn : n = l.length) (hk : k ≤ n) (hnc : n ≤ c) (hr : Rd w (some ⟨b, off, none⟩) (l.flatMap scells)) :
    ∃ ad, (if c = k then some (⟨b, off, none⟩ : Addr) else some ⟨b, off + k * 5, none⟩) = some ad ∧ ∀ W, Below w.heap.size w W → ∀ j u, ((l.drop k).flatMap scells)[j]? = some u → W.cell? (ad.add j) = some u := by
  by_cases hck : c = k
  · refine ⟨_, if_pos hck, fun W hb j u hu => ?_⟩
    have : l.drop k = [] := List.drop_eq_nil_of_le (by omega)
    rw [this] at hu
    simp at hu
  · refine ⟨_, if_neg hck, fun W hb => ?_⟩
    have h := (hr.below hb).part (k * 5) ((l.flatMap scells).length)
    rw [flat_drop scells 5 (fun _ => rfl), List.take_of_length_le (by rw [flat_length scells 5 (fun _ => rfl), flat_length scells 5 (fun _ => rfl), List.length_drop]; omega)] at h
    exact h.add

set_option maxRecDepth 100000 in
set_option maxHeartbeats 8000000 in
theorem implRemoveHouse_any (A : Option Addr) (n c : Nat) (l : List (ByteArray × Int × Int × Int × Int)) (s : ByteArray) (h : Int) (w : World) (hn : n = l.length) (hnc : n ≤ c) (hc : c ≤ maxLen) (hm : n ≤ 1048576) (hs : ∀ x ∈ l, x.1.size ≤ maxLen) (hr : Rd w A (l.flatMap scells)) (hz : s.size ≤ maxLen) :
    Calls Try.prog 8 #[.slice A n c, .string s, .int .i64 h] w (RhPost l s h w) := by
  have Q := hide (areStretches_any A n c l w hn hm hs hr)
  have Q1 := hide (fun w => isRoad_any s w hz)
  have QF := hide (fun W hr' => stretchOf_any A n c l s h W hn hm hr')
  have Hn := hide hn
  have Hr := hide hr
  have HS := hide hs
  unfold maxLen at hc
  clear hs hr hn hz
  cases h1 : strsB l with
  | false =>
    have HE := hide (rhO_bad (l := l) (s := s) (h := h) (by rw [h1]; rfl))
    rw [h1] at Q
    clear h1
    go_enter Try.func8, Try.ntmps8
    go_wp2_with fail
    refine Q.out.mono ?_
    rintro e w1 ⟨rfl, hq⟩
    go_wp2
    go_ret2
    exact RhPost.no HE.out hq
  | true =>
    rw [h1] at Q
    cases h2 : roadB s with
    | false =>
      have HE := hide (rhO_bad (l := l) (s := s) (h := h) (by rw [h1, h2]; rfl))
      have q2 := Q1.out
      rw [h2] at q2
      clear h1 h2
      go_enter Try.func8, Try.ntmps8
      go_wp2_with fail
      refine Q.out.mono ?_
      rintro e w1 ⟨rfl, hq⟩
      go_wp2_with (go_at_call 37; ((with_reducible refine (q2 _).mono ?_); rintro e w' ⟨rfl, rfl⟩))
      go_ret2
      exact RhPost.no HE.out hq
    | true =>
      have q2 := Q1.out
      rw [h2] at q2
      have q3 := fun w => inside_any h 1 999 w
      cases h3 : inB h 1 999 with
      | false =>
        have HE := hide (rhO_bad (l := l) (s := s) (h := h) (by rw [h1, h2, h3]; rfl))
        simp only [h3] at q3
        clear h1 h2 h3
        go_enter Try.func8, Try.ntmps8
        go_wp2_with fail
        refine Q.out.mono ?_
        rintro e w1 ⟨rfl, hq⟩
        go_wp2_with (first | (go_at_call 37; ((with_reducible refine (q2 _).mono ?_); rintro e w' ⟨rfl, rfl⟩)) | (go_at_call 38; ((with_reducible refine (q3 _).mono ?_); rintro e w' ⟨rfl, rfl⟩)))
        go_ret2
        exact RhPost.no HE.out hq
      | true =>
        have HV := hide (show (strsB l && roadB s && inB h 1 999) = true by rw [h1, h2, h3]; rfl)
        have hn30 : n ≤ 30 := by have := strsB_len h1; have := Hn.out; omega
        simp only [h3] at q3
        have HLS := hide h1
        have hh : 1 ≤ h ∧ h ≤ 999 := by rw [inB_iff] at h3; omega
        clear h1 h2 h3
        rcases findI_cases (findP s h) l with hf | ⟨k, ⟨x0, x1, x2, x3, x4⟩, hf, hk, hp⟩
        · have HE := hide (rhO_lost (l := l) (s := s) (h := h) (by omega))
          rw [hf] at QF
          clear hf
          go_enter Try.func8, Try.ntmps8
          go_wp2_with fail
          refine Q.out.mono ?_
          rintro e w1 ⟨rfl, hq⟩
          have HB1 := hide hq
          go_wp2_with (first | (go_at_call 37; ((with_reducible refine (q2 _).mono ?_); rintro e w' ⟨rfl, rfl⟩)) | (go_at_call 38; ((with_reducible refine (q3 _).mono ?_); rintro e w' ⟨rfl, rfl⟩)))
          refine (QF.out _ (Hr.out.below HB1.out)).mono ?_
          rintro e w2 ⟨rfl, hq2⟩
          have HB2 := hide (below_step HB1.out hq2)
          go_wp2
          go_ret2
          exact RhPost.no HE.out HB2.out
        · have HE := hide (rhO_at HV.out hf hk)
          rw [hf] at QF
          obtain ⟨b, off, rfl, hbs, c0, c1, c2, c3, c4⟩ := (Hr.out).get5 (fun _ => rfl) hk rfl
          dsimp only at c0 c1 c2 c3 c4
          have hkn : k < n := by rw [Hn.out]; exact (List.getElem?_eq_some_iff.1 hk).1
          have HX := hide hk
          have HTR := hide (show ∀ W, Below w.heap.size w W → Rd W (some ⟨b, off, none⟩) ((l.take k).flatMap scells) from fun W hb => by
            have h := (Hr.out.below hb).part 0 (k * 5)
            rw [List.drop_zero, flat_take scells 5 (fun _ => rfl)] at h
            simpa using h)
          clear hf hk hp
          go_enter Try.func8, Try.ntmps8
          go_wp2_with fail
          refine Q.out.mono ?_
          rintro e w1 ⟨rfl, hq⟩
          have HB1 := hide hq
          clear hq
          go_wp2_with (first | (go_at_call 37; ((with_reducible refine (q2 _).mono ?_); rintro e w' ⟨rfl, rfl⟩)) | (go_at_call 38; ((with_reducible refine (q3 _).mono ?_); rintro e w' ⟨rfl, rfl⟩)))
          refine (QF.out _ (Hr.out.below HB1.out)).mono ?_
          rintro e w2 ⟨rfl, hq2⟩
          have HB2 := hide (below_step HB1.out hq2)
          clear hq2
          go_wp2_with fail
          replace c0 := cell_on c0 HB2.out
          replace c1 := cell_on c1 HB2.out
          replace c2 := cell_on c2 HB2.out
          replace c3 := cell_on c3 HB2.out
          replace c4 := cell_on c4 HB2.out
          have hbs2 : b < w2.heap.size := World.block_lt_of_cell? _ ⟨b, _, none⟩ c0
          refine wpAnyS_start (fun w' => ∃ n : Later w2, w' = n.w) (n := 12) (by kernel_rfl) rfl rfl ?_
          refine wpAnyS_take_all [0, 1, 2, 3, 4, 5, 6, 7] 4 rfl (by kernel_rfl) (by intro c a d v w h; cases d <;> exact h) (by kernel_rfl) (by simp; rfl) rfl (later_drew _) ?_
          repeat (go_big_quiet_step (fail))
          refine wpQuiet_nil ?_
          have HL : Hid (Below w2.heap.size w2 w2.drew) := hide (Below.refl _ _).drew
          have HC : Hid (Below w.heap.size w w2.drew) := hide HB2.out.drew
          generalize w2.drew = V0 at *
          refine wpAnyS_two 8 9 (by kernel_rfl) (by simp; rfl) (by simp; rfl) rfl rfl rfl rfl (fun K hK => ?_) (fun K hK => ?_)
          · go_wp2_with fail
            have HL' := hide (below_alloc HL.out (.cells #[.string ⟨#[]⟩, .int .i64 0, .int .i64 0, .int .i64 0, .int .i64 0] 25))
            have HC' := hide (below_alloc HC.out (.cells #[.string ⟨#[]⟩, .int .i64 0, .int .i64 0, .int .i64 0, .int .i64 0] 25))
            refine ⟨later_of HL'.out, ?_⟩
            have F_B9 : Hid (Row (V0.alloc (.cells #[.string ⟨#[]⟩, .int .i64 0, .int .i64 0, .int .i64 0, .int .i64 0] 25)) V0.heap.size [.string ⟨#[]⟩, .int .i64 0, .int .i64 0, .int .i64 0, .int .i64 0]) := hide (Row.new V0 _ _)
            have L_B9 : Hid (V0.heap.size < (V0.alloc (.cells #[.string ⟨#[]⟩, .int .i64 0, .int .i64 0, .int .i64 0, .int .i64 0] 25)).heap.size) := hide (by simp)
            have G_B9 : Hid (w2.heap.size ≤ V0.heap.size) := hide HL.out.size
            clear HL HC
            have HL := hide HL'.out
            have HC := hide HC'.out
            clear HL' HC'
            generalize V0.alloc (.cells #[.string ⟨#[]⟩, .int .i64 0, .int .i64 0, .int .i64 0, .int .i64 0] 25) = V1 at *
            generalize V0.heap.size = B9 at *
            refine wpAnyS_only 9 (by kernel_rfl) (by simp; rfl) rfl rfl (fun K hK => ?_)
            go_wp2_with fail
            have HL' := hide (below_alloc HL.out (.cells #[.string ⟨#[]⟩, .int .i64 0, .int .i64 0, .int .i64 0, .int .i64 0] 25))
            have HC' := hide (below_alloc HC.out (.cells #[.string ⟨#[]⟩, .int .i64 0, .int .i64 0, .int .i64 0, .int .i64 0] 25))
            refine ⟨later_of HL'.out, ?_⟩
            replace F_B9 := hide (F_B9.out.alloc (.cells #[.string ⟨#[]⟩, .int .i64 0, .int .i64 0, .int .i64 0, .int .i64 0] 25))
            have F_B10 : Hid (Row (V1.alloc (.cells #[.string ⟨#[]⟩, .int .i64 0, .int .i64 0, .int .i64 0, .int .i64 0] 25)) V1.heap.size [.string ⟨#[]⟩, .int .i64 0, .int .i64 0, .int .i64 0, .int .i64 0]) := hide (Row.new V1 _ _)
            have N9 : Hid (B9 ≠ V1.heap.size) := hide (by have := L_B9.out; omega)
            have G_B10 : Hid (w2.heap.size ≤ V1.heap.size) := hide HL.out.size
            clear HL HC L_B9
            have HL := hide HL'.out
            have HC := hide HC'.out
            clear HL' HC'
            generalize V1.alloc (.cells #[.string ⟨#[]⟩, .int .i64 0, .int .i64 0, .int .i64 0, .int .i64 0] 25) = V2 at *
            generalize V1.heap.size = B10 at *
            refine wpAnyS_only 10 (by kernel_rfl) (by simp; rfl) rfl rfl (fun K hK => ?_)
            have o0 := F_B9.out.2.1 0 _ rfl
            have o1 := F_B9.out.2.1 1 _ rfl
            have o2 := F_B9.out.2.1 2 _ rfl
            have o3 := F_B9.out.2.1 3 _ rfl
            have o4 := F_B9.out.2.1 4 _ rfl
            have f0 := F_B9.out.free 0
            have f1 := F_B9.out.free 1
            have f2 := F_B9.out.free 2
            have f3 := F_B9.out.free 3
            have f4 := F_B9.out.free 4
            go_wp2_with fail
            clear o0 o1 o2 o3 o4 f0 f1 f2 f3 f4
            have HG := hide (grown5 V2 B9 (.string x0) (.int .i64 x1) (.int .i64 x2) (.int .i64 x3) (.int .i64 x4))
            have HL' := hide (HL.out.grown HG.out HL.out.size (fun k hk => by injection hk with hk; have := G_B9.out; omega))
            have HC' := hide (HC.out.grown HG.out HC.out.size (fun k hk => by injection hk with hk; have := G_B9.out; have := HB2.out.size; omega))
            replace F_B9 := hide (row5 F_B9.out (.string x0) (.int .i64 x1) (.int .i64 x2) (.int .i64 x3) (.int .i64 x4))
            replace F_B10 := hide (F_B10.out.grown HG.out (fun e => by injection e with e; exact N9.out (by omega)))
            refine ⟨later_of HL'.out, ?_⟩
            clear HL HC HG
            have HL := hide HL'.out
            have HC := hide HC'.out
            clear HL' HC'
            unfold set5 at HL HC F_B9 F_B10
            generalize ((((V2.setCell ⟨B9, 0, none⟩ (.string x0)).setCell ⟨B9, 1, none⟩ (.int .i64 x1)).setCell ⟨B9, 2, none⟩ (.int .i64 x2)).setCell ⟨B9, 3, none⟩ (.int .i64 x3)).setCell ⟨B9, 4, none⟩ (.int .i64 x4) = V3 at *
            refine wpAnyS_only 11 (by kernel_rfl) (by simp; rfl) rfl rfl (fun K hK => ?_)
            have o0 := F_B10.out.2.1 0 _ rfl
            have o1 := F_B10.out.2.1 1 _ rfl
            have o2 := F_B10.out.2.1 2 _ rfl
            have o3 := F_B10.out.2.1 3 _ rfl
            have o4 := F_B10.out.2.1 4 _ rfl
            have f0 := F_B10.out.free 0
            have f1 := F_B10.out.free 1
            have f2 := F_B10.out.free 2
            have f3 := F_B10.out.free 3
            have f4 := F_B10.out.free 4
            go_wp2_with fail
            clear o0 o1 o2 o3 o4 f0 f1 f2 f3 f4
            have HG := hide (grown5 V3 B10 (.string x0) (.int .i64 x1) (.int .i64 x2) (.int .i64 x3) (.int .i64 x4))
            have HL' := hide (HL.out.grown HG.out HL.out.size (fun k hk => by injection hk with hk; have := G_B10.out; omega))
            have HC' := hide (HC.out.grown HG.out HC.out.size (fun k hk => by injection hk with hk; have := G_B10.out; have := HB2.out.size; omega))
            replace F_B10 := hide (row5 F_B10.out (.string x0) (.int .i64 x1) (.int .i64 x2) (.int .i64 x3) (.int .i64 x4))
            replace F_B9 := hide (F_B9.out.grown HG.out (fun e => by injection e with e; exact N9.out (by omega)))
            refine ⟨later_of HL'.out, ?_⟩
            clear HL HC HG
            have HL := hide HL'.out
            have HC := hide HC'.out
            clear HL' HC'
            unfold set5 at HL HC F_B9 F_B10
            generalize ((((V3.setCell ⟨B10, 0, none⟩ (.string x0)).setCell ⟨B10, 1, none⟩ (.int .i64 x1)).setCell ⟨B10, 2, none⟩ (.int .i64 x2)).setCell ⟨B10, 3, none⟩ (.int .i64 x3)).setCell ⟨B10, 4, none⟩ (.int .i64 x4) = V4 at *
            refine wpAnyH_done (by kernel_rfl) ?_ _
            have o2 := F_B9.out.2.1 2 _ rfl
            have o1 := F_B10.out.2.1 1 _ rfl
            have f2 := F_B9.out.free 2
            have f1 := F_B10.out.free 1
            have n9 := N9.out
            go_wp2_with fail
            clear o1 o2 f1 f2 n9
            have HG := hide (grown_set (w := V4) (p := ⟨B9, 2, none⟩) (g := B9) (.int .i64 (h - 1)) rfl)
            have HC' := hide (HC.out.grown HG.out HC.out.size (fun k hk => by injection hk with hk; have := G_B9.out; have := HB2.out.size; omega))
            replace F_B9 := hide (F_B9.out.set (k := 2) (by simp) (.int .i64 (h - 1)))
            replace F_B10 := hide (F_B10.out.grown HG.out (fun e => by injection e with e; exact N9.out (by omega)))
            clear HG HC
            generalize V4.setCell ⟨B9, 2, none⟩ (.int .i64 (h - 1)) = V5 at *
            have HG := hide (grown_set (w := V5) (p := ⟨B10, 1, none⟩) (g := B10) (.int .i64 (h + 1)) rfl)
            have HC := hide (HC'.out.grown HG.out HC'.out.size (fun k hk => by injection hk with hk; have := G_B10.out; have := HB2.out.size; omega))
            replace F_B10 := hide (F_B10.out.set (k := 1) (by simp) (.int .i64 (h + 1)))
            replace F_B9 := hide (F_B9.out.grown HG.out (fun e => by injection e with e; exact N9.out (by omega)))
            clear HG HC' HL
            generalize V5.setCell ⟨B10, 1, none⟩ (.int .i64 (h + 1)) = V6 at *
            simp only [List.set_cons_succ, List.set_cons_zero] at F_B9 F_B10
            have L9 := hide F_B9.out.1
            have L10 := hide F_B10.out.1
            refine (cloneStretch_any (some ⟨b, off, none⟩) k c (l.take k) V6 (by rw [List.length_take]; have := Hn.out; omega) (by omega) (HTR.out V6 HC.out)).mono ?_
            rintro e w7 ⟨⟨v, rfl, ho⟩, hq⟩
            replace F_B9 := hide (F_B9.out.below hq)
            replace F_B10 := hide (F_B10.out.below hq)
            have HO := hide ho
            have HC7 := hide (below_step HC.out hq)
            have HQ7 := hide hq
            have HV6 := hide (show w.heap.size ≤ V6.heap.size from HC.out.size)
            clear ho hq HC
            obtain ⟨i0, hi0, hz0, hz1, hz2⟩ := info_parts infoStretch
            have Hi := hide hi0
            have Hz := hide (And.intro hz0 (And.intro hz1 hz2))
            clear hi0 hz0 hz1 hz2
            obtain ⟨A1, c1, rfl, -⟩ := own_open HO.out
            have o0 := F_B9.out.2.1 0 _ rfl
            have o1 := F_B9.out.2.1 1 _ rfl
            have o2 := F_B9.out.2.1 2 _ rfl
            have o3 := F_B9.out.2.1 3 _ rfl
            have o4 := F_B9.out.2.1 4 _ rfl
            have p0 := F_B10.out.2.1 0 _ rfl
            have p1 := F_B10.out.2.1 1 _ rfl
            have p2 := F_B10.out.2.1 2 _ rfl
            have p3 := F_B10.out.2.1 3 _ rfl
            have p4 := F_B10.out.2.1 4 _ rfl
            have HTL := hide (show ((l.drop (k + 1)).flatMap scells).length = (n - (k + 1)) * 5 by rw [flat_length scells 5 (fun _ => rfl), List.length_drop]; have := Hn.out; omega)
            have HS7 := hide (show V6.heap.size ≤ w7.heap.size from HQ7.out.size)
            by_cases hb : x1 ≤ h - 1
            · have EB := hide (show belowL (x0, x1, x2, x3, x4) h = [(x0, x1, h - 1, x3, x4)] from if_pos hb)
              have HOA := hide (World.ownsRow.alloc HO.out (.cells #[.string x0, .int .i64 x1, .int .i64 (h - 1), .int .i64 x3, .int .i64 x4] 25))
              have HBA := hide (Row.new w7 #[.string x0, .int .i64 x1, .int .i64 (h - 1), .int .i64 x3, .int .i64 x4] 25)
              have HCA := hide (below_alloc HC7.out (.cells #[.string x0, .int .i64 x1, .int .i64 (h - 1), .int .i64 x3, .int .i64 x4] 25))
              have HSZ := hide (show V6.heap.size ≤ (w7.alloc (.cells #[.string x0, .int .i64 x1, .int .i64 (h - 1), .int .i64 x3, .int .i64 x4] 25)).heap.size from by have := HS7.out; simp; omega)
              go_wp2_with (at_builtin; refine wpList_append_any rfl (.tmp 54) (.tmp 56) 23 rfl V6.heap.size 25 i0 _ 5 48 Try.underlying23 Hi.out Hz.out.1 Hz.out.2.1 Hz.out.2.2 rfl (by decide) (.slice A1 (k) c1) (k) ((l.take k).flatMap scells) rfl HOA.out (some ⟨w7.heap.size, 0, none⟩) 1 1 (scells (x0, x1, h - 1, x3, x4)) rfl rfl (fun e => by cases e) (fun ad e j u hu => by cases e; rw [Addr.add_lit, Nat.zero_add]; exact HBA.out.2.1 j u hu) (fun u hu => scells_one [(x0, x1, h - 1, x3, x4)] u (by simpa using hu)) (by unfold maxLen; omega) (by omega) HSZ.out ?_)
              intro v8 w8 hown hgrow
              have HO8 : Hid (w8.ownsRow V6.heap.size 25 5 v8 (k + 1) ((l.take k ++ [(x0, x1, h - 1, x3, x4)]).flatMap scells)) := hide (by rw [List.flatMap_append]; simpa using hown)
              have HS8 := hide (show V6.heap.size ≤ w8.heap.size from Nat.le_trans HSZ.out hgrow.size)
              have HC8 := hide (HCA.out.grown hgrow HCA.out.size (fun j hj => by have := (HO.out.lt _ hj).1; have := HV6.out; omega))
              have HB8 := hide ((F_B10.out.alloc (.cells #[.string x0, .int .i64 x1, .int .i64 (h - 1), .int .i64 x3, .int .i64 x4] 25)).grown hgrow (fun e => by have := (HO.out.lt _ e.symm).1; have := L10.out; omega))
              clear hown hgrow HOA HBA HCA HSZ
              clear o0 o1 o2 o3 o4 p0 p1 p2 p3 p4
              have p0 := HB8.out.2.1 0 _ rfl
              have p1 := HB8.out.2.1 1 _ rfl
              have p2 := HB8.out.2.1 2 _ rfl
              have p3 := HB8.out.2.1 3 _ rfl
              have p4 := HB8.out.2.1 4 _ rfl
              obtain ⟨A8, c8, rfl, -⟩ := own_open HO8.out
              by_cases ha : h + 1 ≤ x2
              · have EA := hide (show aboveL (x0, x1, x2, x3, x4) h = [(x0, h + 1, x2, x3, x4)] from if_pos ha)
                have HOA := hide (World.ownsRow.alloc HO8.out (.cells #[.string x0, .int .i64 (h + 1), .int .i64 x2, .int .i64 x3, .int .i64 x4] 25))
                have HBA := hide (Row.new w8 #[.string x0, .int .i64 (h + 1), .int .i64 x2, .int .i64 x3, .int .i64 x4] 25)
                have HCA := hide (below_alloc HC8.out (.cells #[.string x0, .int .i64 (h + 1), .int .i64 x2, .int .i64 x3, .int .i64 x4] 25))
                have HSZ := hide (show V6.heap.size ≤ (w8.alloc (.cells #[.string x0, .int .i64 (h + 1), .int .i64 x2, .int .i64 x3, .int .i64 x4] 25)).heap.size from by have := HS8.out; simp; omega)
                go_wp2_with (at_builtin; refine wpList_append_any rfl (.tmp 63) (.tmp 65) 23 rfl V6.heap.size 25 i0 _ 5 48 Try.underlying23 Hi.out Hz.out.1 Hz.out.2.1 Hz.out.2.2 rfl (by decide) (.slice A8 (k + 1) c8) (k + 1) ((l.take k ++ [(x0, x1, h - 1, x3, x4)]).flatMap scells) rfl HOA.out (some ⟨w8.heap.size, 0, none⟩) 1 1 (scells (x0, h + 1, x2, x3, x4)) rfl rfl (fun e => by cases e) (fun ad e j u hu => by cases e; rw [Addr.add_lit, Nat.zero_add]; exact HBA.out.2.1 j u hu) (fun u hu => scells_one [(x0, h + 1, x2, x3, x4)] u (by simpa using hu)) (by unfold maxLen; omega) (by omega) HSZ.out ?_)
                intro v9 w9 hown hgrow
                have HO9 : Hid (w9.ownsRow V6.heap.size 25 5 v9 (k + 1 + 1) ((l.take k ++ [(x0, x1, h - 1, x3, x4)] ++ [(x0, h + 1, x2, x3, x4)]).flatMap scells)) := hide (by rw [List.flatMap_append]; simpa using hown)
                have HS9 := hide (show V6.heap.size ≤ w9.heap.size from Nat.le_trans HSZ.out hgrow.size)
                have HC9 := hide (HCA.out.grown hgrow HCA.out.size (fun j hj => by have := (HO8.out.lt _ hj).1; have := HV6.out; omega))
                clear hown hgrow HOA HBA HCA HSZ
                obtain ⟨A9, c9, rfl, -⟩ := own_open HO9.out
                obtain ⟨ad, had, hadd⟩ := tail_addr b off n c (k + 1) l w Hn.out (by omega) hnc Hr.out
                have HAD := hide hadd
                clear hadd
                by_cases hck : c = k + 1
                · rw [if_pos hck] at had
                  injection had with had
                  subst had
                  subst hck
                  go_wp2_with (at_builtin; refine wpList_append_any rfl (.tmp 67) (.tmp 71) 23 rfl V6.heap.size 25 i0 _ 5 48 Try.underlying23 Hi.out Hz.out.1 Hz.out.2.1 Hz.out.2.2 rfl (by decide) (.slice A9 (k + 1 + 1) c9) (k + 1 + 1) ((l.take k ++ [(x0, x1, h - 1, x3, x4)] ++ [(x0, h + 1, x2, x3, x4)]).flatMap scells) rfl HO9.out (some ⟨b, off, none⟩) 0 _ [] rfl rfl (fun e => by cases e) (fun ad' e j u hu => by simp at hu) (fun u hu => by simp at hu) (by unfold maxLen; omega) (by omega) HS9.out ?_)
                  intro v10 w10 hown hgrow
                  have HO10 : Hid (w10.ownsRow V6.heap.size 25 5 v10 (rhN l k (x0, x1, x2, x3, x4) h).length ((rhN l k (x0, x1, x2, x3, x4) h).flatMap scells)) := hide (by rw [show (rhN l k (x0, x1, x2, x3, x4) h).length = k + 1 + 1 + 0 from by rw [rhN_length HX.out]; rw [EB.out, EA.out]; all_goals first | (simp; done) | (simp; have := Hn.out; omega)]; rw [show rhN l k (x0, x1, x2, x3, x4) h = l.take k ++ [(x0, x1, h - 1, x3, x4)] ++ [(x0, h + 1, x2, x3, x4)] from by rw [rhN, List.drop_eq_nil_of_le (show l.length ≤ k + 1 by have := Hn.out; omega)]; rw [EB.out, EA.out]; simp]; simpa [List.flatMap_append] using hown)
                  have HC10 := hide (HC9.out.grown hgrow HC9.out.size (fun j hj => by have := (HO9.out.lt _ hj).1; have := HV6.out; omega))
                  have HS10 := hide (show V6.heap.size ≤ w10.heap.size from Nat.le_trans HS9.out hgrow.size)
                  clear hown hgrow
                  obtain ⟨A10, c10, rfl, hrd, hnc10, hcm10, -⟩ := own_open HO10.out
                  have HL10 := hide (rhN_length (x := (x0, x1, x2, x3, x4)) (h := h) HX.out)
                  have HLB := hide (show (belowL (x0, x1, x2, x3, x4) h).length ≤ 1 ∧ (aboveL (x0, x1, x2, x3, x4) h).length ≤ 1 from ⟨by unfold belowL; split <;> simp, by unfold aboveL; split <;> simp⟩)
                  have hm10 : (rhN l k (x0, x1, x2, x3, x4) h).length ≤ 1048576 := by have h1 := HL10.out; have h2 := HLB.out; have h3 := Hn.out; omega
                  have QE := hide (areStretches_any A10 (rhN l k (x0, x1, x2, x3, x4) h).length c10 (rhN l k (x0, x1, x2, x3, x4) h) w10 rfl hm10 (rhN_road HX.out HS.out) hrd)
                  clear hrd
                  generalize hrq : rhN l k (x0, x1, x2, x3, x4) h = r at *
                  clear hrq
                  cases h9 : strsB r with
                  | false =>
                    rw [h9] at QE HE
                    clear h9
                    go_wp2_with fail
                    refine QE.out.mono ?_
                    rintro e w11 ⟨rfl, hq⟩
                    have HB11 := hide (below_step HC10.out hq)
                    clear hq
                    go_wp2
                    go_ret2
                    exact RhPost.no HE.out HB11.out
                  | true =>
                    rw [h9] at QE HE
                    clear h9
                    go_wp2_with fail
                    refine QE.out.mono ?_
                    rintro e w11 ⟨rfl, hq⟩
                    have HB11 := hide (below_step HC10.out hq)
                    have HO11 := hide (own_le (B' := w.heap.size) (own_below HO10.out hq) HV6.out)
                    clear hq
                    go_wp2
                    go_ret2
                    exact RhPost.yes HE.out rfl HO11.out HB11.out
                · rw [if_neg hck] at had
                  injection had with had
                  subst had
                  go_wp2_with (at_builtin; refine wpList_append_any rfl (.tmp 67) (.tmp 71) 23 rfl V6.heap.size 25 i0 _ 5 48 Try.underlying23 Hi.out Hz.out.1 Hz.out.2.1 Hz.out.2.2 rfl (by decide) (.slice A9 (k + 1 + 1) c9) (k + 1 + 1) ((l.take k ++ [(x0, x1, h - 1, x3, x4)] ++ [(x0, h + 1, x2, x3, x4)]).flatMap scells) rfl HO9.out (some ⟨b, off + (k + 1) * 5, none⟩) (n - (k + 1)) _ ((l.drop (k + 1)).flatMap scells) rfl HTL.out (fun e => by cases e) (fun ad' e => by injection e with e; subst e; exact HAD.out w9 HC9.out) (scells_one _) (by unfold maxLen; omega) (by omega) HS9.out ?_)
                  intro v10 w10 hown hgrow
                  have HO10 : Hid (w10.ownsRow V6.heap.size 25 5 v10 (rhN l k (x0, x1, x2, x3, x4) h).length ((rhN l k (x0, x1, x2, x3, x4) h).flatMap scells)) := hide (by rw [show (rhN l k (x0, x1, x2, x3, x4) h).length = k + 1 + 1 + (n - (k + 1)) from by rw [rhN_length HX.out]; rw [EB.out, EA.out]; all_goals first | (simp; done) | (simp; have := Hn.out; omega)]; rw [show rhN l k (x0, x1, x2, x3, x4) h = l.take k ++ [(x0, x1, h - 1, x3, x4)] ++ [(x0, h + 1, x2, x3, x4)] ++ l.drop (k + 1) from by rw [rhN, EB.out, EA.out]; all_goals simp]; simpa [List.flatMap_append] using hown)
                  have HC10 := hide (HC9.out.grown hgrow HC9.out.size (fun j hj => by have := (HO9.out.lt _ hj).1; have := HV6.out; omega))
                  have HS10 := hide (show V6.heap.size ≤ w10.heap.size from Nat.le_trans HS9.out hgrow.size)
                  clear hown hgrow
                  obtain ⟨A10, c10, rfl, hrd, hnc10, hcm10, -⟩ := own_open HO10.out
                  have HL10 := hide (rhN_length (x := (x0, x1, x2, x3, x4)) (h := h) HX.out)
                  have HLB := hide (show (belowL (x0, x1, x2, x3, x4) h).length ≤ 1 ∧ (aboveL (x0, x1, x2, x3, x4) h).length ≤ 1 from ⟨by unfold belowL; split <;> simp, by unfold aboveL; split <;> simp⟩)
                  have hm10 : (rhN l k (x0, x1, x2, x3, x4) h).length ≤ 1048576 := by have h1 := HL10.out; have h2 := HLB.out; have h3 := Hn.out; omega
                  have QE := hide (areStretches_any A10 (rhN l k (x0, x1, x2, x3, x4) h).length c10 (rhN l k (x0, x1, x2, x3, x4) h) w10 rfl hm10 (rhN_road HX.out HS.out) hrd)
                  clear hrd
                  generalize hrq : rhN l k (x0, x1, x2, x3, x4) h = r at *
                  clear hrq
                  cases h9 : strsB r with
                  | false =>
                    rw [h9] at QE HE
                    clear h9
                    go_wp2_with fail
                    refine QE.out.mono ?_
                    rintro e w11 ⟨rfl, hq⟩
                    have HB11 := hide (below_step HC10.out hq)
                    clear hq
                    go_wp2
                    go_ret2
                    exact RhPost.no HE.out HB11.out
                  | true =>
                    rw [h9] at QE HE
                    clear h9
                    go_wp2_with fail
                    refine QE.out.mono ?_
                    rintro e w11 ⟨rfl, hq⟩
                    have HB11 := hide (below_step HC10.out hq)
                    have HO11 := hide (own_le (B' := w.heap.size) (own_below HO10.out hq) HV6.out)
                    clear hq
                    go_wp2
                    go_ret2
                    exact RhPost.yes HE.out rfl HO11.out HB11.out
              · have EA := hide (show aboveL (x0, x1, x2, x3, x4) h = [] from if_neg ha)
                obtain ⟨ad, had, hadd⟩ := tail_addr b off n c (k + 1) l w Hn.out (by omega) hnc Hr.out
                have HAD := hide hadd
                clear hadd
                by_cases hck : c = k + 1
                · rw [if_pos hck] at had
                  injection had with had
                  subst had
                  subst hck
                  go_wp2_with (at_builtin; refine wpList_append_any rfl (.tmp 67) (.tmp 71) 23 rfl V6.heap.size 25 i0 _ 5 48 Try.underlying23 Hi.out Hz.out.1 Hz.out.2.1 Hz.out.2.2 rfl (by decide) (.slice A8 (k + 1) c8) (k + 1) ((l.take k ++ [(x0, x1, h - 1, x3, x4)]).flatMap scells) rfl HO8.out (some ⟨b, off, none⟩) 0 _ [] rfl rfl (fun e => by cases e) (fun ad' e j u hu => by simp at hu) (fun u hu => by simp at hu) (by unfold maxLen; omega) (by omega) HS8.out ?_)
                  intro v10 w10 hown hgrow
                  have HO10 : Hid (w10.ownsRow V6.heap.size 25 5 v10 (rhN l k (x0, x1, x2, x3, x4) h).length ((rhN l k (x0, x1, x2, x3, x4) h).flatMap scells)) := hide (by rw [show (rhN l k (x0, x1, x2, x3, x4) h).length = k + 1 + 0 from by rw [rhN_length HX.out]; rw [EB.out, EA.out]; all_goals first | (simp; done) | (simp; have := Hn.out; omega)]; rw [show rhN l k (x0, x1, x2, x3, x4) h = l.take k ++ [(x0, x1, h - 1, x3, x4)] from by rw [rhN, List.drop_eq_nil_of_le (show l.length ≤ k + 1 by have := Hn.out; omega)]; rw [EB.out, EA.out]; simp]; simpa [List.flatMap_append] using hown)
                  have HC10 := hide (HC8.out.grown hgrow HC8.out.size (fun j hj => by have := (HO8.out.lt _ hj).1; have := HV6.out; omega))
                  have HS10 := hide (show V6.heap.size ≤ w10.heap.size from Nat.le_trans HS8.out hgrow.size)
                  clear hown hgrow
                  obtain ⟨A10, c10, rfl, hrd, hnc10, hcm10, -⟩ := own_open HO10.out
                  have HL10 := hide (rhN_length (x := (x0, x1, x2, x3, x4)) (h := h) HX.out)
                  have HLB := hide (show (belowL (x0, x1, x2, x3, x4) h).length ≤ 1 ∧ (aboveL (x0, x1, x2, x3, x4) h).length ≤ 1 from ⟨by unfold belowL; split <;> simp, by unfold aboveL; split <;> simp⟩)
                  have hm10 : (rhN l k (x0, x1, x2, x3, x4) h).length ≤ 1048576 := by have h1 := HL10.out; have h2 := HLB.out; have h3 := Hn.out; omega
                  have QE := hide (areStretches_any A10 (rhN l k (x0, x1, x2, x3, x4) h).length c10 (rhN l k (x0, x1, x2, x3, x4) h) w10 rfl hm10 (rhN_road HX.out HS.out) hrd)
                  clear hrd
                  generalize hrq : rhN l k (x0, x1, x2, x3, x4) h = r at *
                  clear hrq
                  cases h9 : strsB r with
                  | false =>
                    rw [h9] at QE HE
                    clear h9
                    go_wp2_with fail
                    refine QE.out.mono ?_
                    rintro e w11 ⟨rfl, hq⟩
                    have HB11 := hide (below_step HC10.out hq)
                    clear hq
                    go_wp2
                    go_ret2
                    exact RhPost.no HE.out HB11.out
                  | true =>
                    rw [h9] at QE HE
                    clear h9
                    go_wp2_with fail
                    refine QE.out.mono ?_
                    rintro e w11 ⟨rfl, hq⟩
                    have HB11 := hide (below_step HC10.out hq)
                    have HO11 := hide (own_le (B' := w.heap.size) (own_below HO10.out hq) HV6.out)
                    clear hq
                    go_wp2
                    go_ret2
                    exact RhPost.yes HE.out rfl HO11.out HB11.out
                · rw [if_neg hck] at had
                  injection had with had
                  subst had
                  go_wp2_with (at_builtin; refine wpList_append_any rfl (.tmp 67) (.tmp 71) 23 rfl V6.heap.size 25 i0 _ 5 48 Try.underlying23 Hi.out Hz.out.1 Hz.out.2.1 Hz.out.2.2 rfl (by decide) (.slice A8 (k + 1) c8) (k + 1) ((l.take k ++ [(x0, x1, h - 1, x3, x4)]).flatMap scells) rfl HO8.out (some ⟨b, off + (k + 1) * 5, none⟩) (n - (k + 1)) _ ((l.drop (k + 1)).flatMap scells) rfl HTL.out (fun e => by cases e) (fun ad' e => by injection e with e; subst e; exact HAD.out w8 HC8.out) (scells_one _) (by unfold maxLen; omega) (by omega) HS8.out ?_)
                  intro v10 w10 hown hgrow
                  have HO10 : Hid (w10.ownsRow V6.heap.size 25 5 v10 (rhN l k (x0, x1, x2, x3, x4) h).length ((rhN l k (x0, x1, x2, x3, x4) h).flatMap scells)) := hide (by rw [show (rhN l k (x0, x1, x2, x3, x4) h).length = k + 1 + (n - (k + 1)) from by rw [rhN_length HX.out]; rw [EB.out, EA.out]; all_goals first | (simp; done) | (simp; have := Hn.out; omega)]; rw [show rhN l k (x0, x1, x2, x3, x4) h = l.take k ++ [(x0, x1, h - 1, x3, x4)] ++ l.drop (k + 1) from by rw [rhN, EB.out, EA.out]; all_goals simp]; simpa [List.flatMap_append] using hown)
                  have HC10 := hide (HC8.out.grown hgrow HC8.out.size (fun j hj => by have := (HO8.out.lt _ hj).1; have := HV6.out; omega))
                  have HS10 := hide (show V6.heap.size ≤ w10.heap.size from Nat.le_trans HS8.out hgrow.size)
                  clear hown hgrow
                  obtain ⟨A10, c10, rfl, hrd, hnc10, hcm10, -⟩ := own_open HO10.out
                  have HL10 := hide (rhN_length (x := (x0, x1, x2, x3, x4)) (h := h) HX.out)
                  have HLB := hide (show (belowL (x0, x1, x2, x3, x4) h).length ≤ 1 ∧ (aboveL (x0, x1, x2, x3, x4) h).length ≤ 1 from ⟨by unfold belowL; split <;> simp, by unfold aboveL; split <;> simp⟩)
                  have hm10 : (rhN l k (x0, x1, x2, x3, x4) h).length ≤ 1048576 := by have h1 := HL10.out; have h2 := HLB.out; have h3 := Hn.out; omega
                  have QE := hide (areStretches_any A10 (rhN l k (x0, x1, x2, x3, x4) h).length c10 (rhN l k (x0, x1, x2, x3, x4) h) w10 rfl hm10 (rhN_road HX.out HS.out) hrd)
                  clear hrd
                  generalize hrq : rhN l k (x0, x1, x2, x3, x4) h = r at *
                  clear hrq
                  cases h9 : strsB r with
                  | false =>
                    rw [h9] at QE HE
                    clear h9
                    go_wp2_with fail
                    refine QE.out.mono ?_
                    rintro e w11 ⟨rfl, hq⟩
                    have HB11 := hide (below_step HC10.out hq)
                    clear hq
                    go_wp2
                    go_ret2
                    exact RhPost.no HE.out HB11.out
                  | true =>
                    rw [h9] at QE HE
                    clear h9
                    go_wp2_with fail
                    refine QE.out.mono ?_
                    rintro e w11 ⟨rfl, hq⟩
                    have HB11 := hide (below_step HC10.out hq)
                    have HO11 := hide (own_le (B' := w.heap.size) (own_below HO10.out hq) HV6.out)
                    clear hq
                    go_wp2
                    go_ret2
                    exact RhPost.yes HE.out rfl HO11.out HB11.out
            · have EB := hide (show belowL (x0, x1, x2, x3, x4) h = [] from if_neg hb)
              by_cases ha : h + 1 ≤ x2
              · have EA := hide (show aboveL (x0, x1, x2, x3, x4) h = [(x0, h + 1, x2, x3, x4)] from if_pos ha)
                have HOA := hide (World.ownsRow.alloc HO.out (.cells #[.string x0, .int .i64 (h + 1), .int .i64 x2, .int .i64 x3, .int .i64 x4] 25))
                have HBA := hide (Row.new w7 #[.string x0, .int .i64 (h + 1), .int .i64 x2, .int .i64 x3, .int .i64 x4] 25)
                have HCA := hide (below_alloc HC7.out (.cells #[.string x0, .int .i64 (h + 1), .int .i64 x2, .int .i64 x3, .int .i64 x4] 25))
                have HSZ := hide (show V6.heap.size ≤ (w7.alloc (.cells #[.string x0, .int .i64 (h + 1), .int .i64 x2, .int .i64 x3, .int .i64 x4] 25)).heap.size from by have := HS7.out; simp; omega)
                go_wp2_with (at_builtin; refine wpList_append_any rfl (.tmp 63) (.tmp 65) 23 rfl V6.heap.size 25 i0 _ 5 48 Try.underlying23 Hi.out Hz.out.1 Hz.out.2.1 Hz.out.2.2 rfl (by decide) (.slice A1 (k) c1) (k) ((l.take k).flatMap scells) rfl HOA.out (some ⟨w7.heap.size, 0, none⟩) 1 1 (scells (x0, h + 1, x2, x3, x4)) rfl rfl (fun e => by cases e) (fun ad e j u hu => by cases e; rw [Addr.add_lit, Nat.zero_add]; exact HBA.out.2.1 j u hu) (fun u hu => scells_one [(x0, h + 1, x2, x3, x4)] u (by simpa using hu)) (by unfold maxLen; omega) (by omega) HSZ.out ?_)
                intro v9 w9 hown hgrow
                have HO9 : Hid (w9.ownsRow V6.heap.size 25 5 v9 (k + 1) ((l.take k ++ [(x0, h + 1, x2, x3, x4)]).flatMap scells)) := hide (by rw [List.flatMap_append]; simpa using hown)
                have HS9 := hide (show V6.heap.size ≤ w9.heap.size from Nat.le_trans HSZ.out hgrow.size)
                have HC9 := hide (HCA.out.grown hgrow HCA.out.size (fun j hj => by have := (HO.out.lt _ hj).1; have := HV6.out; omega))
                clear hown hgrow HOA HBA HCA HSZ
                obtain ⟨A9, c9, rfl, -⟩ := own_open HO9.out
                obtain ⟨ad, had, hadd⟩ := tail_addr b off n c (k + 1) l w Hn.out (by omega) hnc Hr.out
                have HAD := hide hadd
                clear hadd
                by_cases hck : c = k + 1
                · rw [if_pos hck] at had
                  injection had with had
                  subst had
                  subst hck
                  go_wp2_with (at_builtin; refine wpList_append_any rfl (.tmp 67) (.tmp 71) 23 rfl V6.heap.size 25 i0 _ 5 48 Try.underlying23 Hi.out Hz.out.1 Hz.out.2.1 Hz.out.2.2 rfl (by decide) (.slice A9 (k + 1) c9) (k + 1) ((l.take k ++ [(x0, h + 1, x2, x3, x4)]).flatMap scells) rfl HO9.out (some ⟨b, off, none⟩) 0 _ [] rfl rfl (fun e => by cases e) (fun ad' e j u hu => by simp at hu) (fun u hu => by simp at hu) (by unfold maxLen; omega) (by omega) HS9.out ?_)
                  intro v10 w10 hown hgrow
                  have HO10 : Hid (w10.ownsRow V6.heap.size 25 5 v10 (rhN l k (x0, x1, x2, x3, x4) h).length ((rhN l k (x0, x1, x2, x3, x4) h).flatMap scells)) := hide (by rw [show (rhN l k (x0, x1, x2, x3, x4) h).length = k + 1 + 0 from by rw [rhN_length HX.out]; rw [EB.out, EA.out]; all_goals first | (simp; done) | (simp; have := Hn.out; omega)]; rw [show rhN l k (x0, x1, x2, x3, x4) h = l.take k ++ [(x0, h + 1, x2, x3, x4)] from by rw [rhN, List.drop_eq_nil_of_le (show l.length ≤ k + 1 by have := Hn.out; omega)]; rw [EB.out, EA.out]; simp]; simpa [List.flatMap_append] using hown)
                  have HC10 := hide (HC9.out.grown hgrow HC9.out.size (fun j hj => by have := (HO9.out.lt _ hj).1; have := HV6.out; omega))
                  have HS10 := hide (show V6.heap.size ≤ w10.heap.size from Nat.le_trans HS9.out hgrow.size)
                  clear hown hgrow
                  obtain ⟨A10, c10, rfl, hrd, hnc10, hcm10, -⟩ := own_open HO10.out
                  have HL10 := hide (rhN_length (x := (x0, x1, x2, x3, x4)) (h := h) HX.out)
                  have HLB := hide (show (belowL (x0, x1, x2, x3, x4) h).length ≤ 1 ∧ (aboveL (x0, x1, x2, x3, x4) h).length ≤ 1 from ⟨by unfold belowL; split <;> simp, by unfold aboveL; split <;> simp⟩)
                  have hm10 : (rhN l k (x0, x1, x2, x3, x4) h).length ≤ 1048576 := by have h1 := HL10.out; have h2 := HLB.out; have h3 := Hn.out; omega
                  have QE := hide (areStretches_any A10 (rhN l k (x0, x1, x2, x3, x4) h).length c10 (rhN l k (x0, x1, x2, x3, x4) h) w10 rfl hm10 (rhN_road HX.out HS.out) hrd)
                  clear hrd
                  generalize hrq : rhN l k (x0, x1, x2, x3, x4) h = r at *
                  clear hrq
                  cases h9 : strsB r with
                  | false =>
                    rw [h9] at QE HE
                    clear h9
                    go_wp2_with fail
                    refine QE.out.mono ?_
                    rintro e w11 ⟨rfl, hq⟩
                    have HB11 := hide (below_step HC10.out hq)
                    clear hq
                    go_wp2
                    go_ret2
                    exact RhPost.no HE.out HB11.out
                  | true =>
                    rw [h9] at QE HE
                    clear h9
                    go_wp2_with fail
                    refine QE.out.mono ?_
                    rintro e w11 ⟨rfl, hq⟩
                    have HB11 := hide (below_step HC10.out hq)
                    have HO11 := hide (own_le (B' := w.heap.size) (own_below HO10.out hq) HV6.out)
                    clear hq
                    go_wp2
                    go_ret2
                    exact RhPost.yes HE.out rfl HO11.out HB11.out
                · rw [if_neg hck] at had
                  injection had with had
                  subst had
                  go_wp2_with (at_builtin; refine wpList_append_any rfl (.tmp 67) (.tmp 71) 23 rfl V6.heap.size 25 i0 _ 5 48 Try.underlying23 Hi.out Hz.out.1 Hz.out.2.1 Hz.out.2.2 rfl (by decide) (.slice A9 (k + 1) c9) (k + 1) ((l.take k ++ [(x0, h + 1, x2, x3, x4)]).flatMap scells) rfl HO9.out (some ⟨b, off + (k + 1) * 5, none⟩) (n - (k + 1)) _ ((l.drop (k + 1)).flatMap scells) rfl HTL.out (fun e => by cases e) (fun ad' e => by injection e with e; subst e; exact HAD.out w9 HC9.out) (scells_one _) (by unfold maxLen; omega) (by omega) HS9.out ?_)
                  intro v10 w10 hown hgrow
                  have HO10 : Hid (w10.ownsRow V6.heap.size 25 5 v10 (rhN l k (x0, x1, x2, x3, x4) h).length ((rhN l k (x0, x1, x2, x3, x4) h).flatMap scells)) := hide (by rw [show (rhN l k (x0, x1, x2, x3, x4) h).length = k + 1 + (n - (k + 1)) from by rw [rhN_length HX.out]; rw [EB.out, EA.out]; all_goals first | (simp; done) | (simp; have := Hn.out; omega)]; rw [show rhN l k (x0, x1, x2, x3, x4) h = l.take k ++ [(x0, h + 1, x2, x3, x4)] ++ l.drop (k + 1) from by rw [rhN, EB.out, EA.out]; all_goals simp]; simpa [List.flatMap_append] using hown)
                  have HC10 := hide (HC9.out.grown hgrow HC9.out.size (fun j hj => by have := (HO9.out.lt _ hj).1; have := HV6.out; omega))
                  have HS10 := hide (show V6.heap.size ≤ w10.heap.size from Nat.le_trans HS9.out hgrow.size)
                  clear hown hgrow
                  obtain ⟨A10, c10, rfl, hrd, hnc10, hcm10, -⟩ := own_open HO10.out
                  have HL10 := hide (rhN_length (x := (x0, x1, x2, x3, x4)) (h := h) HX.out)
                  have HLB := hide (show (belowL (x0, x1, x2, x3, x4) h).length ≤ 1 ∧ (aboveL (x0, x1, x2, x3, x4) h).length ≤ 1 from ⟨by unfold belowL; split <;> simp, by unfold aboveL; split <;> simp⟩)
                  have hm10 : (rhN l k (x0, x1, x2, x3, x4) h).length ≤ 1048576 := by have h1 := HL10.out; have h2 := HLB.out; have h3 := Hn.out; omega
                  have QE := hide (areStretches_any A10 (rhN l k (x0, x1, x2, x3, x4) h).length c10 (rhN l k (x0, x1, x2, x3, x4) h) w10 rfl hm10 (rhN_road HX.out HS.out) hrd)
                  clear hrd
                  generalize hrq : rhN l k (x0, x1, x2, x3, x4) h = r at *
                  clear hrq
                  cases h9 : strsB r with
                  | false =>
                    rw [h9] at QE HE
                    clear h9
                    go_wp2_with fail
                    refine QE.out.mono ?_
                    rintro e w11 ⟨rfl, hq⟩
                    have HB11 := hide (below_step HC10.out hq)
                    clear hq
                    go_wp2
                    go_ret2
                    exact RhPost.no HE.out HB11.out
                  | true =>
                    rw [h9] at QE HE
                    clear h9
                    go_wp2_with fail
                    refine QE.out.mono ?_
                    rintro e w11 ⟨rfl, hq⟩
                    have HB11 := hide (below_step HC10.out hq)
                    have HO11 := hide (own_le (B' := w.heap.size) (own_below HO10.out hq) HV6.out)
                    clear hq
                    go_wp2
                    go_ret2
                    exact RhPost.yes HE.out rfl HO11.out HB11.out
              · have EA := hide (show aboveL (x0, x1, x2, x3, x4) h = [] from if_neg ha)
                obtain ⟨ad, had, hadd⟩ := tail_addr b off n c (k + 1) l w Hn.out (by omega) hnc Hr.out
                have HAD := hide hadd
                clear hadd
                by_cases hck : c = k + 1
                · rw [if_pos hck] at had
                  injection had with had
                  subst had
                  subst hck
                  go_wp2_with (at_builtin; refine wpList_append_any rfl (.tmp 67) (.tmp 71) 23 rfl V6.heap.size 25 i0 _ 5 48 Try.underlying23 Hi.out Hz.out.1 Hz.out.2.1 Hz.out.2.2 rfl (by decide) (.slice A1 (k) c1) (k) ((l.take k).flatMap scells) rfl HO.out (some ⟨b, off, none⟩) 0 _ [] rfl rfl (fun e => by cases e) (fun ad' e j u hu => by simp at hu) (fun u hu => by simp at hu) (by unfold maxLen; omega) (by omega) HS7.out ?_)
                  intro v10 w10 hown hgrow
                  have HO10 : Hid (w10.ownsRow V6.heap.size 25 5 v10 (rhN l k (x0, x1, x2, x3, x4) h).length ((rhN l k (x0, x1, x2, x3, x4) h).flatMap scells)) := hide (by rw [show (rhN l k (x0, x1, x2, x3, x4) h).length = k + 0 from by rw [rhN_length HX.out]; rw [EB.out, EA.out]; all_goals first | (simp; done) | (simp; have := Hn.out; omega)]; rw [show rhN l k (x0, x1, x2, x3, x4) h = l.take k from by rw [rhN, List.drop_eq_nil_of_le (show l.length ≤ k + 1 by have := Hn.out; omega)]; rw [EB.out, EA.out]; simp]; simpa [List.flatMap_append] using hown)
                  have HC10 := hide (HC7.out.grown hgrow HC7.out.size (fun j hj => by have := (HO.out.lt _ hj).1; have := HV6.out; omega))
                  have HS10 := hide (show V6.heap.size ≤ w10.heap.size from Nat.le_trans HS7.out hgrow.size)
                  clear hown hgrow
                  obtain ⟨A10, c10, rfl, hrd, hnc10, hcm10, -⟩ := own_open HO10.out
                  have HL10 := hide (rhN_length (x := (x0, x1, x2, x3, x4)) (h := h) HX.out)
                  have HLB := hide (show (belowL (x0, x1, x2, x3, x4) h).length ≤ 1 ∧ (aboveL (x0, x1, x2, x3, x4) h).length ≤ 1 from ⟨by unfold belowL; split <;> simp, by unfold aboveL; split <;> simp⟩)
                  have hm10 : (rhN l k (x0, x1, x2, x3, x4) h).length ≤ 1048576 := by have h1 := HL10.out; have h2 := HLB.out; have h3 := Hn.out; omega
                  have QE := hide (areStretches_any A10 (rhN l k (x0, x1, x2, x3, x4) h).length c10 (rhN l k (x0, x1, x2, x3, x4) h) w10 rfl hm10 (rhN_road HX.out HS.out) hrd)
                  clear hrd
                  generalize hrq : rhN l k (x0, x1, x2, x3, x4) h = r at *
                  clear hrq
                  cases h9 : strsB r with
                  | false =>
                    rw [h9] at QE HE
                    clear h9
                    go_wp2_with fail
                    refine QE.out.mono ?_
                    rintro e w11 ⟨rfl, hq⟩
                    have HB11 := hide (below_step HC10.out hq)
                    clear hq
                    go_wp2
                    go_ret2
                    exact RhPost.no HE.out HB11.out
                  | true =>
                    rw [h9] at QE HE
                    clear h9
                    go_wp2_with fail
                    refine QE.out.mono ?_
                    rintro e w11 ⟨rfl, hq⟩
                    have HB11 := hide (below_step HC10.out hq)
                    have HO11 := hide (own_le (B' := w.heap.size) (own_below HO10.out hq) HV6.out)
                    clear hq
                    go_wp2
                    go_ret2
                    exact RhPost.yes HE.out rfl HO11.out HB11.out
                · rw [if_neg hck] at had
                  injection had with had
                  subst had
                  go_wp2_with (at_builtin; refine wpList_append_any rfl (.tmp 67) (.tmp 71) 23 rfl V6.heap.size 25 i0 _ 5 48 Try.underlying23 Hi.out Hz.out.1 Hz.out.2.1 Hz.out.2.2 rfl (by decide) (.slice A1 (k) c1) (k) ((l.take k).flatMap scells) rfl HO.out (some ⟨b, off + (k + 1) * 5, none⟩) (n - (k + 1)) _ ((l.drop (k + 1)).flatMap scells) rfl HTL.out (fun e => by cases e) (fun ad' e => by injection e with e; subst e; exact HAD.out w7 HC7.out) (scells_one _) (by unfold maxLen; omega) (by omega) HS7.out ?_)
                  intro v10 w10 hown hgrow
                  have HO10 : Hid (w10.ownsRow V6.heap.size 25 5 v10 (rhN l k (x0, x1, x2, x3, x4) h).length ((rhN l k (x0, x1, x2, x3, x4) h).flatMap scells)) := hide (by rw [show (rhN l k (x0, x1, x2, x3, x4) h).length = k + (n - (k + 1)) from by rw [rhN_length HX.out]; rw [EB.out, EA.out]; all_goals first | (simp; done) | (simp; have := Hn.out; omega)]; rw [show rhN l k (x0, x1, x2, x3, x4) h = l.take k ++ l.drop (k + 1) from by rw [rhN, EB.out, EA.out]; all_goals simp]; simpa [List.flatMap_append] using hown)
                  have HC10 := hide (HC7.out.grown hgrow HC7.out.size (fun j hj => by have := (HO.out.lt _ hj).1; have := HV6.out; omega))
                  have HS10 := hide (show V6.heap.size ≤ w10.heap.size from Nat.le_trans HS7.out hgrow.size)
                  clear hown hgrow
                  obtain ⟨A10, c10, rfl, hrd, hnc10, hcm10, -⟩ := own_open HO10.out
                  have HL10 := hide (rhN_length (x := (x0, x1, x2, x3, x4)) (h := h) HX.out)
                  have HLB := hide (show (belowL (x0, x1, x2, x3, x4) h).length ≤ 1 ∧ (aboveL (x0, x1, x2, x3, x4) h).length ≤ 1 from ⟨by unfold belowL; split <;> simp, by unfold aboveL; split <;> simp⟩)
                  have hm10 : (rhN l k (x0, x1, x2, x3, x4) h).length ≤ 1048576 := by have h1 := HL10.out; have h2 := HLB.out; have h3 := Hn.out; omega
                  have QE := hide (areStretches_any A10 (rhN l k (x0, x1, x2, x3, x4) h).length c10 (rhN l k (x0, x1, x2, x3, x4) h) w10 rfl hm10 (rhN_road HX.out HS.out) hrd)
                  clear hrd
                  generalize hrq : rhN l k (x0, x1, x2, x3, x4) h = r at *
                  clear hrq
                  cases h9 : strsB r with
                  | false =>
                    rw [h9] at QE HE
                    clear h9
                    go_wp2_with fail
                    refine QE.out.mono ?_
                    rintro e w11 ⟨rfl, hq⟩
                    have HB11 := hide (below_step HC10.out hq)
                    clear hq
                    go_wp2
                    go_ret2
                    exact RhPost.no HE.out HB11.out
                  | true =>
                    rw [h9] at QE HE
                    clear h9
                    go_wp2_with fail
                    refine QE.out.mono ?_
                    rintro e w11 ⟨rfl, hq⟩
                    have HB11 := hide (below_step HC10.out hq)
                    have HO11 := hide (own_le (B' := w.heap.size) (own_below HO10.out hq) HV6.out)
                    clear hq
                    go_wp2
                    go_ret2
                    exact RhPost.yes HE.out rfl HO11.out HB11.out
          · go_wp2_with fail
            have HL' := hide (below_alloc HL.out (.cells #[.string ⟨#[]⟩, .int .i64 0, .int .i64 0, .int .i64 0, .int .i64 0] 25))
            have HC' := hide (below_alloc HC.out (.cells #[.string ⟨#[]⟩, .int .i64 0, .int .i64 0, .int .i64 0, .int .i64 0] 25))
            refine ⟨later_of HL'.out, ?_⟩
            have F_B10 : Hid (Row (V0.alloc (.cells #[.string ⟨#[]⟩, .int .i64 0, .int .i64 0, .int .i64 0, .int .i64 0] 25)) V0.heap.size [.string ⟨#[]⟩, .int .i64 0, .int .i64 0, .int .i64 0, .int .i64 0]) := hide (Row.new V0 _ _)
            have L_B10 : Hid (V0.heap.size < (V0.alloc (.cells #[.string ⟨#[]⟩, .int .i64 0, .int .i64 0, .int .i64 0, .int .i64 0] 25)).heap.size) := hide (by simp)
            have G_B10 : Hid (w2.heap.size ≤ V0.heap.size) := hide HL.out.size
            clear HL HC
            have HL := hide HL'.out
            have HC := hide HC'.out
            clear HL' HC'
            generalize V0.alloc (.cells #[.string ⟨#[]⟩, .int .i64 0, .int .i64 0, .int .i64 0, .int .i64 0] 25) = V1 at *
            generalize V0.heap.size = B10 at *
            refine wpAnyS_only 8 (by kernel_rfl) (by simp; rfl) rfl rfl (fun K hK => ?_)
            go_wp2_with fail
            have HL' := hide (below_alloc HL.out (.cells #[.string ⟨#[]⟩, .int .i64 0, .int .i64 0, .int .i64 0, .int .i64 0] 25))
            have HC' := hide (below_alloc HC.out (.cells #[.string ⟨#[]⟩, .int .i64 0, .int .i64 0, .int .i64 0, .int .i64 0] 25))
            refine ⟨later_of HL'.out, ?_⟩
            replace F_B10 := hide (F_B10.out.alloc (.cells #[.string ⟨#[]⟩, .int .i64 0, .int .i64 0, .int .i64 0, .int .i64 0] 25))
            have F_B9 : Hid (Row (V1.alloc (.cells #[.string ⟨#[]⟩, .int .i64 0, .int .i64 0, .int .i64 0, .int .i64 0] 25)) V1.heap.size [.string ⟨#[]⟩, .int .i64 0, .int .i64 0, .int .i64 0, .int .i64 0]) := hide (Row.new V1 _ _)
            have N9 : Hid (V1.heap.size ≠ B10) := hide (by have := L_B10.out; omega)
            have G_B9 : Hid (w2.heap.size ≤ V1.heap.size) := hide HL.out.size
            clear HL HC L_B10
            have HL := hide HL'.out
            have HC := hide HC'.out
            clear HL' HC'
            generalize V1.alloc (.cells #[.string ⟨#[]⟩, .int .i64 0, .int .i64 0, .int .i64 0, .int .i64 0] 25) = V2 at *
            generalize V1.heap.size = B9 at *
            refine wpAnyS_only 10 (by kernel_rfl) (by simp; rfl) rfl rfl (fun K hK => ?_)
            have o0 := F_B9.out.2.1 0 _ rfl
            have o1 := F_B9.out.2.1 1 _ rfl
            have o2 := F_B9.out.2.1 2 _ rfl
            have o3 := F_B9.out.2.1 3 _ rfl
            have o4 := F_B9.out.2.1 4 _ rfl
            have f0 := F_B9.out.free 0
            have f1 := F_B9.out.free 1
            have f2 := F_B9.out.free 2
            have f3 := F_B9.out.free 3
            have f4 := F_B9.out.free 4
            go_wp2_with fail
            clear o0 o1 o2 o3 o4 f0 f1 f2 f3 f4
            have HG := hide (grown5 V2 B9 (.string x0) (.int .i64 x1) (.int .i64 x2) (.int .i64 x3) (.int .i64 x4))
            have HL' := hide (HL.out.grown HG.out HL.out.size (fun k hk => by injection hk with hk; have := G_B9.out; omega))
            have HC' := hide (HC.out.grown HG.out HC.out.size (fun k hk => by injection hk with hk; have := G_B9.out; have := HB2.out.size; omega))
            replace F_B9 := hide (row5 F_B9.out (.string x0) (.int .i64 x1) (.int .i64 x2) (.int .i64 x3) (.int .i64 x4))
            replace F_B10 := hide (F_B10.out.grown HG.out (fun e => by injection e with e; exact N9.out (by omega)))
            refine ⟨later_of HL'.out, ?_⟩
            clear HL HC HG
            have HL := hide HL'.out
            have HC := hide HC'.out
            clear HL' HC'
            unfold set5 at HL HC F_B9 F_B10
            generalize ((((V2.setCell ⟨B9, 0, none⟩ (.string x0)).setCell ⟨B9, 1, none⟩ (.int .i64 x1)).setCell ⟨B9, 2, none⟩ (.int .i64 x2)).setCell ⟨B9, 3, none⟩ (.int .i64 x3)).setCell ⟨B9, 4, none⟩ (.int .i64 x4) = V3 at *
            refine wpAnyS_only 11 (by kernel_rfl) (by simp; rfl) rfl rfl (fun K hK => ?_)
            have o0 := F_B10.out.2.1 0 _ rfl
            have o1 := F_B10.out.2.1 1 _ rfl
            have o2 := F_B10.out.2.1 2 _ rfl
            have o3 := F_B10.out.2.1 3 _ rfl
            have o4 := F_B10.out.2.1 4 _ rfl
            have f0 := F_B10.out.free 0
            have f1 := F_B10.out.free 1
            have f2 := F_B10.out.free 2
            have f3 := F_B10.out.free 3
            have f4 := F_B10.out.free 4
            go_wp2_with fail
            clear o0 o1 o2 o3 o4 f0 f1 f2 f3 f4
            have HG := hide (grown5 V3 B10 (.string x0) (.int .i64 x1) (.int .i64 x2) (.int .i64 x3) (.int .i64 x4))
            have HL' := hide (HL.out.grown HG.out HL.out.size (fun k hk => by injection hk with hk; have := G_B10.out; omega))
            have HC' := hide (HC.out.grown HG.out HC.out.size (fun k hk => by injection hk with hk; have := G_B10.out; have := HB2.out.size; omega))
            replace F_B10 := hide (row5 F_B10.out (.string x0) (.int .i64 x1) (.int .i64 x2) (.int .i64 x3) (.int .i64 x4))
            replace F_B9 := hide (F_B9.out.grown HG.out (fun e => by injection e with e; exact N9.out (by omega)))
            refine ⟨later_of HL'.out, ?_⟩
            clear HL HC HG
            have HL := hide HL'.out
            have HC := hide HC'.out
            clear HL' HC'
            unfold set5 at HL HC F_B9 F_B10
            generalize ((((V3.setCell ⟨B10, 0, none⟩ (.string x0)).setCell ⟨B10, 1, none⟩ (.int .i64 x1)).setCell ⟨B10, 2, none⟩ (.int .i64 x2)).setCell ⟨B10, 3, none⟩ (.int .i64 x3)).setCell ⟨B10, 4, none⟩ (.int .i64 x4) = V4 at *
            refine wpAnyH_done (by kernel_rfl) ?_ _
            have o2 := F_B9.out.2.1 2 _ rfl
            have o1 := F_B10.out.2.1 1 _ rfl
            have f2 := F_B9.out.free 2
            have f1 := F_B10.out.free 1
            have n9 := N9.out
            go_wp2_with fail
            clear o1 o2 f1 f2 n9
            have HG := hide (grown_set (w := V4) (p := ⟨B9, 2, none⟩) (g := B9) (.int .i64 (h - 1)) rfl)
            have HC' := hide (HC.out.grown HG.out HC.out.size (fun k hk => by injection hk with hk; have := G_B9.out; have := HB2.out.size; omega))
            replace F_B9 := hide (F_B9.out.set (k := 2) (by simp) (.int .i64 (h - 1)))
            replace F_B10 := hide (F_B10.out.grown HG.out (fun e => by injection e with e; exact N9.out (by omega)))
            clear HG HC
            generalize V4.setCell ⟨B9, 2, none⟩ (.int .i64 (h - 1)) = V5 at *
            have HG := hide (grown_set (w := V5) (p := ⟨B10, 1, none⟩) (g := B10) (.int .i64 (h + 1)) rfl)
            have HC := hide (HC'.out.grown HG.out HC'.out.size (fun k hk => by injection hk with hk; have := G_B10.out; have := HB2.out.size; omega))
            replace F_B10 := hide (F_B10.out.set (k := 1) (by simp) (.int .i64 (h + 1)))
            replace F_B9 := hide (F_B9.out.grown HG.out (fun e => by injection e with e; exact N9.out (by omega)))
            clear HG HC' HL
            generalize V5.setCell ⟨B10, 1, none⟩ (.int .i64 (h + 1)) = V6 at *
            simp only [List.set_cons_succ, List.set_cons_zero] at F_B9 F_B10
            have L9 := hide F_B9.out.1
            have L10 := hide F_B10.out.1
            refine (cloneStretch_any (some ⟨b, off, none⟩) k c (l.take k) V6 (by rw [List.length_take]; have := Hn.out; omega) (by omega) (HTR.out V6 HC.out)).mono ?_
            rintro e w7 ⟨⟨v, rfl, ho⟩, hq⟩
            replace F_B9 := hide (F_B9.out.below hq)
            replace F_B10 := hide (F_B10.out.below hq)
            have HO := hide ho
            have HC7 := hide (below_step HC.out hq)
            have HQ7 := hide hq
            have HV6 := hide (show w.heap.size ≤ V6.heap.size from HC.out.size)
            clear ho hq HC
            obtain ⟨i0, hi0, hz0, hz1, hz2⟩ := info_parts infoStretch
            have Hi := hide hi0
            have Hz := hide (And.intro hz0 (And.intro hz1 hz2))
            clear hi0 hz0 hz1 hz2
            obtain ⟨A1, c1, rfl, -⟩ := own_open HO.out
            have o0 := F_B9.out.2.1 0 _ rfl
            have o1 := F_B9.out.2.1 1 _ rfl
            have o2 := F_B9.out.2.1 2 _ rfl
            have o3 := F_B9.out.2.1 3 _ rfl
            have o4 := F_B9.out.2.1 4 _ rfl
            have p0 := F_B10.out.2.1 0 _ rfl
            have p1 := F_B10.out.2.1 1 _ rfl
            have p2 := F_B10.out.2.1 2 _ rfl
            have p3 := F_B10.out.2.1 3 _ rfl
            have p4 := F_B10.out.2.1 4 _ rfl
            have HTL := hide (show ((l.drop (k + 1)).flatMap scells).length = (n - (k + 1)) * 5 by rw [flat_length scells 5 (fun _ => rfl), List.length_drop]; have := Hn.out; omega)
            have HS7 := hide (show V6.heap.size ≤ w7.heap.size from HQ7.out.size)
            by_cases hb : x1 ≤ h - 1
            · have EB := hide (show belowL (x0, x1, x2, x3, x4) h = [(x0, x1, h - 1, x3, x4)] from if_pos hb)
              have HOA := hide (World.ownsRow.alloc HO.out (.cells #[.string x0, .int .i64 x1, .int .i64 (h - 1), .int .i64 x3, .int .i64 x4] 25))
              have HBA := hide (Row.new w7 #[.string x0, .int .i64 x1, .int .i64 (h - 1), .int .i64 x3, .int .i64 x4] 25)
              have HCA := hide (below_alloc HC7.out (.cells #[.string x0, .int .i64 x1, .int .i64 (h - 1), .int .i64 x3, .int .i64 x4] 25))
              have HSZ := hide (show V6.heap.size ≤ (w7.alloc (.cells #[.string x0, .int .i64 x1, .int .i64 (h - 1), .int .i64 x3, .int .i64 x4] 25)).heap.size from by have := HS7.out; simp; omega)
              go_wp2_with (at_builtin; refine wpList_append_any rfl (.tmp 54) (.tmp 56) 23 rfl V6.heap.size 25 i0 _ 5 48 Try.underlying23 Hi.out Hz.out.1 Hz.out.2.1 Hz.out.2.2 rfl (by decide) (.slice A1 (k) c1) (k) ((l.take k).flatMap scells) rfl HOA.out (some ⟨w7.heap.size, 0, none⟩) 1 1 (scells (x0, x1, h - 1, x3, x4)) rfl rfl (fun e => by cases e) (fun ad e j u hu => by cases e; rw [Addr.add_lit, Nat.zero_add]; exact HBA.out.2.1 j u hu) (fun u hu => scells_one [(x0, x1, h - 1, x3, x4)] u (by simpa using hu)) (by unfold maxLen; omega) (by omega) HSZ.out ?_)
              intro v8 w8 hown hgrow
              have HO8 : Hid (w8.ownsRow V6.heap.size 25 5 v8 (k + 1) ((l.take k ++ [(x0, x1, h - 1, x3, x4)]).flatMap scells)) := hide (by rw [List.flatMap_append]; simpa using hown)
              have HS8 := hide (show V6.heap.size ≤ w8.heap.size from Nat.le_trans HSZ.out hgrow.size)
              have HC8 := hide (HCA.out.grown hgrow HCA.out.size (fun j hj => by have := (HO.out.lt _ hj).1; have := HV6.out; omega))
              have HB8 := hide ((F_B10.out.alloc (.cells #[.string x0, .int .i64 x1, .int .i64 (h - 1), .int .i64 x3, .int .i64 x4] 25)).grown hgrow (fun e => by have := (HO.out.lt _ e.symm).1; have := L10.out; omega))
              clear hown hgrow HOA HBA HCA HSZ
              clear o0 o1 o2 o3 o4 p0 p1 p2 p3 p4
              have p0 := HB8.out.2.1 0 _ rfl
              have p1 := HB8.out.2.1 1 _ rfl
              have p2 := HB8.out.2.1 2 _ rfl
              have p3 := HB8.out.2.1 3 _ rfl
              have p4 := HB8.out.2.1 4 _ rfl
              obtain ⟨A8, c8, rfl, -⟩ := own_open HO8.out
              by_cases ha : h + 1 ≤ x2
              · have EA := hide (show aboveL (x0, x1, x2, x3, x4) h = [(x0, h + 1, x2, x3, x4)] from if_pos ha)
                have HOA := hide (World.ownsRow.alloc HO8.out (.cells #[.string x0, .int .i64 (h + 1), .int .i64 x2, .int .i64 x3, .int .i64 x4] 25))
                have HBA := hide (Row.new w8 #[.string x0, .int .i64 (h + 1), .int .i64 x2, .int .i64 x3, .int .i64 x4] 25)
                have HCA := hide (below_alloc HC8.out (.cells #[.string x0, .int .i64 (h + 1), .int .i64 x2, .int .i64 x3, .int .i64 x4] 25))
                have HSZ := hide (show V6.heap.size ≤ (w8.alloc (.cells #[.string x0, .int .i64 (h + 1), .int .i64 x2, .int .i64 x3, .int .i64 x4] 25)).heap.size from by have := HS8.out; simp; omega)
                go_wp2_with (at_builtin; refine wpList_append_any rfl (.tmp 63) (.tmp 65) 23 rfl V6.heap.size 25 i0 _ 5 48 Try.underlying23 Hi.out Hz.out.1 Hz.out.2.1 Hz.out.2.2 rfl (by decide) (.slice A8 (k + 1) c8) (k + 1) ((l.take k ++ [(x0, x1, h - 1, x3, x4)]).flatMap scells) rfl HOA.out (some ⟨w8.heap.size, 0, none⟩) 1 1 (scells (x0, h + 1, x2, x3, x4)) rfl rfl (fun e => by cases e) (fun ad e j u hu => by cases e; rw [Addr.add_lit, Nat.zero_add]; exact HBA.out.2.1 j u hu) (fun u hu => scells_one [(x0, h + 1, x2, x3, x4)] u (by simpa using hu)) (by unfold maxLen; omega) (by omega) HSZ.out ?_)
                intro v9 w9 hown hgrow
                have HO9 : Hid (w9.ownsRow V6.heap.size 25 5 v9 (k + 1 + 1) ((l.take k ++ [(x0, x1, h - 1, x3, x4)] ++ [(x0, h + 1, x2, x3, x4)]).flatMap scells)) := hide (by rw [List.flatMap_append]; simpa using hown)
                have HS9 := hide (show V6.heap.size ≤ w9.heap.size from Nat.le_trans HSZ.out hgrow.size)
                have HC9 := hide (HCA.out.grown hgrow HCA.out.size (fun j hj => by have := (HO8.out.lt _ hj).1; have := HV6.out; omega))
                clear hown hgrow HOA HBA HCA HSZ
                obtain ⟨A9, c9, rfl, -⟩ := own_open HO9.out
                obtain ⟨ad, had, hadd⟩ := tail_addr b off n c (k + 1) l w Hn.out (by omega) hnc Hr.out
                have HAD := hide hadd
                clear hadd
                by_cases hck : c = k + 1
                · rw [if_pos hck] at had
                  injection had with had
                  subst had
                  subst hck
                  go_wp2_with (at_builtin; refine wpList_append_any rfl (.tmp 67) (.tmp 71) 23 rfl V6.heap.size 25 i0 _ 5 48 Try.underlying23 Hi.out Hz.out.1 Hz.out.2.1 Hz.out.2.2 rfl (by decide) (.slice A9 (k + 1 + 1) c9) (k + 1 + 1) ((l.take k ++ [(x0, x1, h - 1, x3, x4)] ++ [(x0, h + 1, x2, x3, x4)]).flatMap scells) rfl HO9.out (some ⟨b, off, none⟩) 0 _ [] rfl rfl (fun e => by cases e) (fun ad' e j u hu => by simp at hu) (fun u hu => by simp at hu) (by unfold maxLen; omega) (by omega) HS9.out ?_)
                  intro v10 w10 hown hgrow
                  have HO10 : Hid (w10.ownsRow V6.heap.size 25 5 v10 (rhN l k (x0, x1, x2, x3, x4) h).length ((rhN l k (x0, x1, x2, x3, x4) h).flatMap scells)) := hide (by rw [show (rhN l k (x0, x1, x2, x3, x4) h).length = k + 1 + 1 + 0 from by rw [rhN_length HX.out]; rw [EB.out, EA.out]; all_goals first | (simp; done) | (simp; have := Hn.out; omega)]; rw [show rhN l k (x0, x1, x2, x3, x4) h = l.take k ++ [(x0, x1, h - 1, x3, x4)] ++ [(x0, h + 1, x2, x3, x4)] from by rw [rhN, List.drop_eq_nil_of_le (show l.length ≤ k + 1 by have := Hn.out; omega)]; rw [EB.out, EA.out]; simp]; simpa [List.flatMap_append] using hown)
                  have HC10 := hide (HC9.out.grown hgrow HC9.out.size (fun j hj => by have := (HO9.out.lt _ hj).1; have := HV6.out; omega))
                  have HS10 := hide (show V6.heap.size ≤ w10.heap.size from Nat.le_trans HS9.out hgrow.size)
                  clear hown hgrow
                  obtain ⟨A10, c10, rfl, hrd, hnc10, hcm10, -⟩ := own_open HO10.out
                  have HL10 := hide (rhN_length (x := (x0, x1, x2, x3, x4)) (h := h) HX.out)
                  have HLB := hide (show (belowL (x0, x1, x2, x3, x4) h).length ≤ 1 ∧ (aboveL (x0, x1, x2, x3, x4) h).length ≤ 1 from ⟨by unfold belowL; split <;> simp, by unfold aboveL; split <;> simp⟩)
                  have hm10 : (rhN l k (x0, x1, x2, x3, x4) h).length ≤ 1048576 := by have h1 := HL10.out; have h2 := HLB.out; have h3 := Hn.out; omega
                  have QE := hide (areStretches_any A10 (rhN l k (x0, x1, x2, x3, x4) h).length c10 (rhN l k (x0, x1, x2, x3, x4) h) w10 rfl hm10 (rhN_road HX.out HS.out) hrd)
                  clear hrd
                  generalize hrq : rhN l k (x0, x1, x2, x3, x4) h = r at *
                  clear hrq
                  cases h9 : strsB r with
                  | false =>
                    rw [h9] at QE HE
                    clear h9
                    go_wp2_with fail
                    refine QE.out.mono ?_
                    rintro e w11 ⟨rfl, hq⟩
                    have HB11 := hide (below_step HC10.out hq)
                    clear hq
                    go_wp2
                    go_ret2
                    exact RhPost.no HE.out HB11.out
                  | true =>
                    rw [h9] at QE HE
                    clear h9
                    go_wp2_with fail
                    refine QE.out.mono ?_
                    rintro e w11 ⟨rfl, hq⟩
                    have HB11 := hide (below_step HC10.out hq)
                    have HO11 := hide (own_le (B' := w.heap.size) (own_below HO10.out hq) HV6.out)
                    clear hq
                    go_wp2
                    go_ret2
                    exact RhPost.yes HE.out rfl HO11.out HB11.out
                · rw [if_neg hck] at had
                  injection had with had
                  subst had
                  go_wp2_with (at_builtin; refine wpList_append_any rfl (.tmp 67) (.tmp 71) 23 rfl V6.heap.size 25 i0 _ 5 48 Try.underlying23 Hi.out Hz.out.1 Hz.out.2.1 Hz.out.2.2 rfl (by decide) (.slice A9 (k + 1 + 1) c9) (k + 1 + 1) ((l.take k ++ [(x0, x1, h - 1, x3, x4)] ++ [(x0, h + 1, x2, x3, x4)]).flatMap scells) rfl HO9.out (some ⟨b, off + (k + 1) * 5, none⟩) (n - (k + 1)) _ ((l.drop (k + 1)).flatMap scells) rfl HTL.out (fun e => by cases e) (fun ad' e => by injection e with e; subst e; exact HAD.out w9 HC9.out) (scells_one _) (by unfold maxLen; omega) (by omega) HS9.out ?_)
                  intro v10 w10 hown hgrow
                  have HO10 : Hid (w10.ownsRow V6.heap.size 25 5 v10 (rhN l k (x0, x1, x2, x3, x4) h).length ((rhN l k (x0, x1, x2, x3, x4) h).flatMap scells)) := hide (by rw [show (rhN l k (x0, x1, x2, x3, x4) h).length = k + 1 + 1 + (n - (k + 1)) from by rw [rhN_length HX.out]; rw [EB.out, EA.out]; all_goals first | (simp; done) | (simp; have := Hn.out; omega)]; rw [show rhN l k (x0, x1, x2, x3, x4) h = l.take k ++ [(x0, x1, h - 1, x3, x4)] ++ [(x0, h + 1, x2, x3, x4)] ++ l.drop (k + 1) from by rw [rhN, EB.out, EA.out]; all_goals simp]; simpa [List.flatMap_append] using hown)
                  have HC10 := hide (HC9.out.grown hgrow HC9.out.size (fun j hj => by have := (HO9.out.lt _ hj).1; have := HV6.out; omega))
                  have HS10 := hide (show V6.heap.size ≤ w10.heap.size from Nat.le_trans HS9.out hgrow.size)
                  clear hown hgrow
                  obtain ⟨A10, c10, rfl, hrd, hnc10, hcm10, -⟩ := own_open HO10.out
                  have HL10 := hide (rhN_length (x := (x0, x1, x2, x3, x4)) (h := h) HX.out)
                  have HLB := hide (show (belowL (x0, x1, x2, x3, x4) h).length ≤ 1 ∧ (aboveL (x0, x1, x2, x3, x4) h).length ≤ 1 from ⟨by unfold belowL; split <;> simp, by unfold aboveL; split <;> simp⟩)
                  have hm10 : (rhN l k (x0, x1, x2, x3, x4) h).length ≤ 1048576 := by have h1 := HL10.out; have h2 := HLB.out; have h3 := Hn.out; omega
                  have QE := hide (areStretches_any A10 (rhN l k (x0, x1, x2, x3, x4) h).length c10 (rhN l k (x0, x1, x2, x3, x4) h) w10 rfl hm10 (rhN_road HX.out HS.out) hrd)
                  clear hrd
                  generalize hrq : rhN l k (x0, x1, x2, x3, x4) h = r at *
                  clear hrq
                  cases h9 : strsB r with
                  | false =>
                    rw [h9] at QE HE
                    clear h9
                    go_wp2_with fail
                    refine QE.out.mono ?_
                    rintro e w11 ⟨rfl, hq⟩
                    have HB11 := hide (below_step HC10.out hq)
                    clear hq
                    go_wp2
                    go_ret2
                    exact RhPost.no HE.out HB11.out
                  | true =>
                    rw [h9] at QE HE
                    clear h9
                    go_wp2_with fail
                    refine QE.out.mono ?_
                    rintro e w11 ⟨rfl, hq⟩
                    have HB11 := hide (below_step HC10.out hq)
                    have HO11 := hide (own_le (B' := w.heap.size) (own_below HO10.out hq) HV6.out)
                    clear hq
                    go_wp2
                    go_ret2
                    exact RhPost.yes HE.out rfl HO11.out HB11.out
              · have EA := hide (show aboveL (x0, x1, x2, x3, x4) h = [] from if_neg ha)
                obtain ⟨ad, had, hadd⟩ := tail_addr b off n c (k + 1) l w Hn.out (by omega) hnc Hr.out
                have HAD := hide hadd
                clear hadd
                by_cases hck : c = k + 1
                · rw [if_pos hck] at had
                  injection had with had
                  subst had
                  subst hck
                  go_wp2_with (at_builtin; refine wpList_append_any rfl (.tmp 67) (.tmp 71) 23 rfl V6.heap.size 25 i0 _ 5 48 Try.underlying23 Hi.out Hz.out.1 Hz.out.2.1 Hz.out.2.2 rfl (by decide) (.slice A8 (k + 1) c8) (k + 1) ((l.take k ++ [(x0, x1, h - 1, x3, x4)]).flatMap scells) rfl HO8.out (some ⟨b, off, none⟩) 0 _ [] rfl rfl (fun e => by cases e) (fun ad' e j u hu => by simp at hu) (fun u hu => by simp at hu) (by unfold maxLen; omega) (by omega) HS8.out ?_)
                  intro v10 w10 hown hgrow
                  have HO10 : Hid (w10.ownsRow V6.heap.size 25 5 v10 (rhN l k (x0, x1, x2, x3, x4) h).length ((rhN l k (x0, x1, x2, x3, x4) h).flatMap scells)) := hide (by rw [show (rhN l k (x0, x1, x2, x3, x4) h).length = k + 1 + 0 from by rw [rhN_length HX.out]; rw [EB.out, EA.out]; all_goals first | (simp; done) | (simp; have := Hn.out; omega)]; rw [show rhN l k (x0, x1, x2, x3, x4) h = l.take k ++ [(x0, x1, h - 1, x3, x4)] from by rw [rhN, List.drop_eq_nil_of_le (show l.length ≤ k + 1 by have := Hn.out; omega)]; rw [EB.out, EA.out]; simp]; simpa [List.flatMap_append] using hown)
                  have HC10 := hide (HC8.out.grown hgrow HC8.out.size (fun j hj => by have := (HO8.out.lt _ hj).1; have := HV6.out; omega))
                  have HS10 := hide (show V6.heap.size ≤ w10.heap.size from Nat.le_trans HS8.out hgrow.size)
                  clear hown hgrow
                  obtain ⟨A10, c10, rfl, hrd, hnc10, hcm10, -⟩ := own_open HO10.out
                  have HL10 := hide (rhN_length (x := (x0, x1, x2, x3, x4)) (h := h) HX.out)
                  have HLB := hide (show (belowL (x0, x1, x2, x3, x4) h).length ≤ 1 ∧ (aboveL (x0, x1, x2, x3, x4) h).length ≤ 1 from ⟨by unfold belowL; split <;> simp, by unfold aboveL; split <;> simp⟩)
                  have hm10 : (rhN l k (x0, x1, x2, x3, x4) h).length ≤ 1048576 := by have h1 := HL10.out; have h2 := HLB.out; have h3 := Hn.out; omega
                  have QE := hide (areStretches_any A10 (rhN l k (x0, x1, x2, x3, x4) h).length c10 (rhN l k (x0, x1, x2, x3, x4) h) w10 rfl hm10 (rhN_road HX.out HS.out) hrd)
                  clear hrd
                  generalize hrq : rhN l k (x0, x1, x2, x3, x4) h = r at *
                  clear hrq
                  cases h9 : strsB r with
                  | false =>
                    rw [h9] at QE HE
                    clear h9
                    go_wp2_with fail
                    refine QE.out.mono ?_
                    rintro e w11 ⟨rfl, hq⟩
                    have HB11 := hide (below_step HC10.out hq)
                    clear hq
                    go_wp2
                    go_ret2
                    exact RhPost.no HE.out HB11.out
                  | true =>
                    rw [h9] at QE HE
                    clear h9
                    go_wp2_with fail
                    refine QE.out.mono ?_
                    rintro e w11 ⟨rfl, hq⟩
                    have HB11 := hide (below_step HC10.out hq)
                    have HO11 := hide (own_le (B' := w.heap.size) (own_below HO10.out hq) HV6.out)
                    clear hq
                    go_wp2
                    go_ret2
                    exact RhPost.yes HE.out rfl HO11.out HB11.out
                · rw [if_neg hck] at had
                  injection had with had
                  subst had
                  go_wp2_with (at_builtin; refine wpList_append_any rfl (.tmp 67) (.tmp 71) 23 rfl V6.heap.size 25 i0 _ 5 48 Try.underlying23 Hi.out Hz.out.1 Hz.out.2.1 Hz.out.2.2 rfl (by decide) (.slice A8 (k + 1) c8) (k + 1) ((l.take k ++ [(x0, x1, h - 1, x3, x4)]).flatMap scells) rfl HO8.out (some ⟨b, off + (k + 1) * 5, none⟩) (n - (k + 1)) _ ((l.drop (k + 1)).flatMap scells) rfl HTL.out (fun e => by cases e) (fun ad' e => by injection e with e; subst e; exact HAD.out w8 HC8.out) (scells_one _) (by unfold maxLen; omega) (by omega) HS8.out ?_)
                  intro v10 w10 hown hgrow
                  have HO10 : Hid (w10.ownsRow V6.heap.size 25 5 v10 (rhN l k (x0, x1, x2, x3, x4) h).length ((rhN l k (x0, x1, x2, x3, x4) h).flatMap scells)) := hide (by rw [show (rhN l k (x0, x1, x2, x3, x4) h).length = k + 1 + (n - (k + 1)) from by rw [rhN_length HX.out]; rw [EB.out, EA.out]; all_goals first | (simp; done) | (simp; have := Hn.out; omega)]; rw [show rhN l k (x0, x1, x2, x3, x4) h = l.take k ++ [(x0, x1, h - 1, x3, x4)] ++ l.drop (k + 1) from by rw [rhN, EB.out, EA.out]; all_goals simp]; simpa [List.flatMap_append] using hown)
                  have HC10 := hide (HC8.out.grown hgrow HC8.out.size (fun j hj => by have := (HO8.out.lt _ hj).1; have := HV6.out; omega))
                  have HS10 := hide (show V6.heap.size ≤ w10.heap.size from Nat.le_trans HS8.out hgrow.size)
                  clear hown hgrow
                  obtain ⟨A10, c10, rfl, hrd, hnc10, hcm10, -⟩ := own_open HO10.out
                  have HL10 := hide (rhN_length (x := (x0, x1, x2, x3, x4)) (h := h) HX.out)
                  have HLB := hide (show (belowL (x0, x1, x2, x3, x4) h).length ≤ 1 ∧ (aboveL (x0, x1, x2, x3, x4) h).length ≤ 1 from ⟨by unfold belowL; split <;> simp, by unfold aboveL; split <;> simp⟩)
                  have hm10 : (rhN l k (x0, x1, x2, x3, x4) h).length ≤ 1048576 := by have h1 := HL10.out; have h2 := HLB.out; have h3 := Hn.out; omega
                  have QE := hide (areStretches_any A10 (rhN l k (x0, x1, x2, x3, x4) h).length c10 (rhN l k (x0, x1, x2, x3, x4) h) w10 rfl hm10 (rhN_road HX.out HS.out) hrd)
                  clear hrd
                  generalize hrq : rhN l k (x0, x1, x2, x3, x4) h = r at *
                  clear hrq
                  cases h9 : strsB r with
                  | false =>
                    rw [h9] at QE HE
                    clear h9
                    go_wp2_with fail
                    refine QE.out.mono ?_
                    rintro e w11 ⟨rfl, hq⟩
                    have HB11 := hide (below_step HC10.out hq)
                    clear hq
                    go_wp2
                    go_ret2
                    exact RhPost.no HE.out HB11.out
                  | true =>
                    rw [h9] at QE HE
                    clear h9
                    go_wp2_with fail
                    refine QE.out.mono ?_
                    rintro e w11 ⟨rfl, hq⟩
                    have HB11 := hide (below_step HC10.out hq)
                    have HO11 := hide (own_le (B' := w.heap.size) (own_below HO10.out hq) HV6.out)
                    clear hq
                    go_wp2
                    go_ret2
                    exact RhPost.yes HE.out rfl HO11.out HB11.out
            · have EB := hide (show belowL (x0, x1, x2, x3, x4) h = [] from if_neg hb)
              by_cases ha : h + 1 ≤ x2
              · have EA := hide (show aboveL (x0, x1, x2, x3, x4) h = [(x0, h + 1, x2, x3, x4)] from if_pos ha)
                have HOA := hide (World.ownsRow.alloc HO.out (.cells #[.string x0, .int .i64 (h + 1), .int .i64 x2, .int .i64 x3, .int .i64 x4] 25))
                have HBA := hide (Row.new w7 #[.string x0, .int .i64 (h + 1), .int .i64 x2, .int .i64 x3, .int .i64 x4] 25)
                have HCA := hide (below_alloc HC7.out (.cells #[.string x0, .int .i64 (h + 1), .int .i64 x2, .int .i64 x3, .int .i64 x4] 25))
                have HSZ := hide (show V6.heap.size ≤ (w7.alloc (.cells #[.string x0, .int .i64 (h + 1), .int .i64 x2, .int .i64 x3, .int .i64 x4] 25)).heap.size from by have := HS7.out; simp; omega)
                go_wp2_with (at_builtin; refine wpList_append_any rfl (.tmp 63) (.tmp 65) 23 rfl V6.heap.size 25 i0 _ 5 48 Try.underlying23 Hi.out Hz.out.1 Hz.out.2.1 Hz.out.2.2 rfl (by decide) (.slice A1 (k) c1) (k) ((l.take k).flatMap scells) rfl HOA.out (some ⟨w7.heap.size, 0, none⟩) 1 1 (scells (x0, h + 1, x2, x3, x4)) rfl rfl (fun e => by cases e) (fun ad e j u hu => by cases e; rw [Addr.add_lit, Nat.zero_add]; exact HBA.out.2.1 j u hu) (fun u hu => scells_one [(x0, h + 1, x2, x3, x4)] u (by simpa using hu)) (by unfold maxLen; omega) (by omega) HSZ.out ?_)
                intro v9 w9 hown hgrow
                have HO9 : Hid (w9.ownsRow V6.heap.size 25 5 v9 (k + 1) ((l.take k ++ [(x0, h + 1, x2, x3, x4)]).flatMap scells)) := hide (by rw [List.flatMap_append]; simpa using hown)
                have HS9 := hide (show V6.heap.size ≤ w9.heap.size from Nat.le_trans HSZ.out hgrow.size)
                have HC9 := hide (HCA.out.grown hgrow HCA.out.size (fun j hj => by have := (HO.out.lt _ hj).1; have := HV6.out; omega))
                clear hown hgrow HOA HBA HCA HSZ
                obtain ⟨A9, c9, rfl, -⟩ := own_open HO9.out
                obtain ⟨ad, had, hadd⟩ := tail_addr b off n c (k + 1) l w Hn.out (by omega) hnc Hr.out
                have HAD := hide hadd
                clear hadd
                by_cases hck : c = k + 1
                · rw [if_pos hck] at had
                  injection had with had
                  subst had
                  subst hck
                  go_wp2_with (at_builtin; refine wpList_append_any rfl (.tmp 67) (.tmp 71) 23 rfl V6.heap.size 25 i0 _ 5 48 Try.underlying23 Hi.out Hz.out.1 Hz.out.2.1 Hz.out.2.2 rfl (by decide) (.slice A9 (k + 1) c9) (k + 1) ((l.take k ++ [(x0, h + 1, x2, x3, x4)]).flatMap scells) rfl HO9.out (some ⟨b, off, none⟩) 0 _ [] rfl rfl (fun e => by cases e) (fun ad' e j u hu => by simp at hu) (fun u hu => by simp at hu) (by unfold maxLen; omega) (by omega) HS9.out ?_)
                  intro v10 w10 hown hgrow
                  have HO10 : Hid (w10.ownsRow V6.heap.size 25 5 v10 (rhN l k (x0, x1, x2, x3, x4) h).length ((rhN l k (x0, x1, x2, x3, x4) h).flatMap scells)) := hide (by rw [show (rhN l k (x0, x1, x2, x3, x4) h).length = k + 1 + 0 from by rw [rhN_length HX.out]; rw [EB.out, EA.out]; all_goals first | (simp; done) | (simp; have := Hn.out; omega)]; rw [show rhN l k (x0, x1, x2, x3, x4) h = l.take k ++ [(x0, h + 1, x2, x3, x4)] from by rw [rhN, List.drop_eq_nil_of_le (show l.length ≤ k + 1 by have := Hn.out; omega)]; rw [EB.out, EA.out]; simp]; simpa [List.flatMap_append] using hown)
                  have HC10 := hide (HC9.out.grown hgrow HC9.out.size (fun j hj => by have := (HO9.out.lt _ hj).1; have := HV6.out; omega))
                  have HS10 := hide (show V6.heap.size ≤ w10.heap.size from Nat.le_trans HS9.out hgrow.size)
                  clear hown hgrow
                  obtain ⟨A10, c10, rfl, hrd, hnc10, hcm10, -⟩ := own_open HO10.out
                  have HL10 := hide (rhN_length (x := (x0, x1, x2, x3, x4)) (h := h) HX.out)
                  have HLB := hide (show (belowL (x0, x1, x2, x3, x4) h).length ≤ 1 ∧ (aboveL (x0, x1, x2, x3, x4) h).length ≤ 1 from ⟨by unfold belowL; split <;> simp, by unfold aboveL; split <;> simp⟩)
                  have hm10 : (rhN l k (x0, x1, x2, x3, x4) h).length ≤ 1048576 := by have h1 := HL10.out; have h2 := HLB.out; have h3 := Hn.out; omega
                  have QE := hide (areStretches_any A10 (rhN l k (x0, x1, x2, x3, x4) h).length c10 (rhN l k (x0, x1, x2, x3, x4) h) w10 rfl hm10 (rhN_road HX.out HS.out) hrd)
                  clear hrd
                  generalize hrq : rhN l k (x0, x1, x2, x3, x4) h = r at *
                  clear hrq
                  cases h9 : strsB r with
                  | false =>
                    rw [h9] at QE HE
                    clear h9
                    go_wp2_with fail
                    refine QE.out.mono ?_
                    rintro e w11 ⟨rfl, hq⟩
                    have HB11 := hide (below_step HC10.out hq)
                    clear hq
                    go_wp2
                    go_ret2
                    exact RhPost.no HE.out HB11.out
                  | true =>
                    rw [h9] at QE HE
                    clear h9
                    go_wp2_with fail
                    refine QE.out.mono ?_
                    rintro e w11 ⟨rfl, hq⟩
                    have HB11 := hide (below_step HC10.out hq)
                    have HO11 := hide (own_le (B' := w.heap.size) (own_below HO10.out hq) HV6.out)
                    clear hq
                    go_wp2
                    go_ret2
                    exact RhPost.yes HE.out rfl HO11.out HB11.out
                · rw [if_neg hck] at had
                  injection had with had
                  subst had
                  go_wp2_with (at_builtin; refine wpList_append_any rfl (.tmp 67) (.tmp 71) 23 rfl V6.heap.size 25 i0 _ 5 48 Try.underlying23 Hi.out Hz.out.1 Hz.out.2.1 Hz.out.2.2 rfl (by decide) (.slice A9 (k + 1) c9) (k + 1) ((l.take k ++ [(x0, h + 1, x2, x3, x4)]).flatMap scells) rfl HO9.out (some ⟨b, off + (k + 1) * 5, none⟩) (n - (k + 1)) _ ((l.drop (k + 1)).flatMap scells) rfl HTL.out (fun e => by cases e) (fun ad' e => by injection e with e; subst e; exact HAD.out w9 HC9.out) (scells_one _) (by unfold maxLen; omega) (by omega) HS9.out ?_)
                  intro v10 w10 hown hgrow
                  have HO10 : Hid (w10.ownsRow V6.heap.size 25 5 v10 (rhN l k (x0, x1, x2, x3, x4) h).length ((rhN l k (x0, x1, x2, x3, x4) h).flatMap scells)) := hide (by rw [show (rhN l k (x0, x1, x2, x3, x4) h).length = k + 1 + (n - (k + 1)) from by rw [rhN_length HX.out]; rw [EB.out, EA.out]; all_goals first | (simp; done) | (simp; have := Hn.out; omega)]; rw [show rhN l k (x0, x1, x2, x3, x4) h = l.take k ++ [(x0, h + 1, x2, x3, x4)] ++ l.drop (k + 1) from by rw [rhN, EB.out, EA.out]; all_goals simp]; simpa [List.flatMap_append] using hown)
                  have HC10 := hide (HC9.out.grown hgrow HC9.out.size (fun j hj => by have := (HO9.out.lt _ hj).1; have := HV6.out; omega))
                  have HS10 := hide (show V6.heap.size ≤ w10.heap.size from Nat.le_trans HS9.out hgrow.size)
                  clear hown hgrow
                  obtain ⟨A10, c10, rfl, hrd, hnc10, hcm10, -⟩ := own_open HO10.out
                  have HL10 := hide (rhN_length (x := (x0, x1, x2, x3, x4)) (h := h) HX.out)
                  have HLB := hide (show (belowL (x0, x1, x2, x3, x4) h).length ≤ 1 ∧ (aboveL (x0, x1, x2, x3, x4) h).length ≤ 1 from ⟨by unfold belowL; split <;> simp, by unfold aboveL; split <;> simp⟩)
                  have hm10 : (rhN l k (x0, x1, x2, x3, x4) h).length ≤ 1048576 := by have h1 := HL10.out; have h2 := HLB.out; have h3 := Hn.out; omega
                  have QE := hide (areStretches_any A10 (rhN l k (x0, x1, x2, x3, x4) h).length c10 (rhN l k (x0, x1, x2, x3, x4) h) w10 rfl hm10 (rhN_road HX.out HS.out) hrd)
                  clear hrd
                  generalize hrq : rhN l k (x0, x1, x2, x3, x4) h = r at *
                  clear hrq
                  cases h9 : strsB r with
                  | false =>
                    rw [h9] at QE HE
                    clear h9
                    go_wp2_with fail
                    refine QE.out.mono ?_
                    rintro e w11 ⟨rfl, hq⟩
                    have HB11 := hide (below_step HC10.out hq)
                    clear hq
                    go_wp2
                    go_ret2
                    exact RhPost.no HE.out HB11.out
                  | true =>
                    rw [h9] at QE HE
                    clear h9
                    go_wp2_with fail
                    refine QE.out.mono ?_
                    rintro e w11 ⟨rfl, hq⟩
                    have HB11 := hide (below_step HC10.out hq)
                    have HO11 := hide (own_le (B' := w.heap.size) (own_below HO10.out hq) HV6.out)
                    clear hq
                    go_wp2
                    go_ret2
                    exact RhPost.yes HE.out rfl HO11.out HB11.out
              · have EA := hide (show aboveL (x0, x1, x2, x3, x4) h = [] from if_neg ha)
                obtain ⟨ad, had, hadd⟩ := tail_addr b off n c (k + 1) l w Hn.out (by omega) hnc Hr.out
                have HAD := hide hadd
                clear hadd
                by_cases hck : c = k + 1
                · rw [if_pos hck] at had
                  injection had with had
                  subst had
                  subst hck
                  go_wp2_with (at_builtin; refine wpList_append_any rfl (.tmp 67) (.tmp 71) 23 rfl V6.heap.size 25 i0 _ 5 48 Try.underlying23 Hi.out Hz.out.1 Hz.out.2.1 Hz.out.2.2 rfl (by decide) (.slice A1 (k) c1) (k) ((l.take k).flatMap scells) rfl HO.out (some ⟨b, off, none⟩) 0 _ [] rfl rfl (fun e => by cases e) (fun ad' e j u hu => by simp at hu) (fun u hu => by simp at hu) (by unfold maxLen; omega) (by omega) HS7.out ?_)
                  intro v10 w10 hown hgrow
                  have HO10 : Hid (w10.ownsRow V6.heap.size 25 5 v10 (rhN l k (x0, x1, x2, x3, x4) h).length ((rhN l k (x0, x1, x2, x3, x4) h).flatMap scells)) := hide (by rw [show (rhN l k (x0, x1, x2, x3, x4) h).length = k + 0 from by rw [rhN_length HX.out]; rw [EB.out, EA.out]; all_goals first | (simp; done) | (simp; have := Hn.out; omega)]; rw [show rhN l k (x0, x1, x2, x3, x4) h = l.take k from by rw [rhN, List.drop_eq_nil_of_le (show l.length ≤ k + 1 by have := Hn.out; omega)]; rw [EB.out, EA.out]; simp]; simpa [List.flatMap_append] using hown)
                  have HC10 := hide (HC7.out.grown hgrow HC7.out.size (fun j hj => by have := (HO.out.lt _ hj).1; have := HV6.out; omega))
                  have HS10 := hide (show V6.heap.size ≤ w10.heap.size from Nat.le_trans HS7.out hgrow.size)
                  clear hown hgrow
                  obtain ⟨A10, c10, rfl, hrd, hnc10, hcm10, -⟩ := own_open HO10.out
                  have HL10 := hide (rhN_length (x := (x0, x1, x2, x3, x4)) (h := h) HX.out)
                  have HLB := hide (show (belowL (x0, x1, x2, x3, x4) h).length ≤ 1 ∧ (aboveL (x0, x1, x2, x3, x4) h).length ≤ 1 from ⟨by unfold belowL; split <;> simp, by unfold aboveL; split <;> simp⟩)
                  have hm10 : (rhN l k (x0, x1, x2, x3, x4) h).length ≤ 1048576 := by have h1 := HL10.out; have h2 := HLB.out; have h3 := Hn.out; omega
                  have QE := hide (areStretches_any A10 (rhN l k (x0, x1, x2, x3, x4) h).length c10 (rhN l k (x0, x1, x2, x3, x4) h) w10 rfl hm10 (rhN_road HX.out HS.out) hrd)
                  clear hrd
                  generalize hrq : rhN l k (x0, x1, x2, x3, x4) h = r at *
                  clear hrq
                  cases h9 : strsB r with
                  | false =>
                    rw [h9] at QE HE
                    clear h9
                    go_wp2_with fail
                    refine QE.out.mono ?_
                    rintro e w11 ⟨rfl, hq⟩
                    have HB11 := hide (below_step HC10.out hq)
                    clear hq
                    go_wp2
                    go_ret2
                    exact RhPost.no HE.out HB11.out
                  | true =>
                    rw [h9] at QE HE
                    clear h9
                    go_wp2_with fail
                    refine QE.out.mono ?_
                    rintro e w11 ⟨rfl, hq⟩
                    have HB11 := hide (below_step HC10.out hq)
                    have HO11 := hide (own_le (B' := w.heap.size) (own_below HO10.out hq) HV6.out)
                    clear hq
                    go_wp2
                    go_ret2
                    exact RhPost.yes HE.out rfl HO11.out HB11.out
                · rw [if_neg hck] at had
                  injection had with had
                  subst had
                  go_wp2_with (at_builtin; refine wpList_append_any rfl (.tmp 67) (.tmp 71) 23 rfl V6.heap.size 25 i0 _ 5 48 Try.underlying23 Hi.out Hz.out.1 Hz.out.2.1 Hz.out.2.2 rfl (by decide) (.slice A1 (k) c1) (k) ((l.take k).flatMap scells) rfl HO.out (some ⟨b, off + (k + 1) * 5, none⟩) (n - (k + 1)) _ ((l.drop (k + 1)).flatMap scells) rfl HTL.out (fun e => by cases e) (fun ad' e => by injection e with e; subst e; exact HAD.out w7 HC7.out) (scells_one _) (by unfold maxLen; omega) (by omega) HS7.out ?_)
                  intro v10 w10 hown hgrow
                  have HO10 : Hid (w10.ownsRow V6.heap.size 25 5 v10 (rhN l k (x0, x1, x2, x3, x4) h).length ((rhN l k (x0, x1, x2, x3, x4) h).flatMap scells)) := hide (by rw [show (rhN l k (x0, x1, x2, x3, x4) h).length = k + (n - (k + 1)) from by rw [rhN_length HX.out]; rw [EB.out, EA.out]; all_goals first | (simp; done) | (simp; have := Hn.out; omega)]; rw [show rhN l k (x0, x1, x2, x3, x4) h = l.take k ++ l.drop (k + 1) from by rw [rhN, EB.out, EA.out]; all_goals simp]; simpa [List.flatMap_append] using hown)
                  have HC10 := hide (HC7.out.grown hgrow HC7.out.size (fun j hj => by have := (HO.out.lt _ hj).1; have := HV6.out; omega))
                  have HS10 := hide (show V6.heap.size ≤ w10.heap.size from Nat.le_trans HS7.out hgrow.size)
                  clear hown hgrow
                  obtain ⟨A10, c10, rfl, hrd, hnc10, hcm10, -⟩ := own_open HO10.out
                  have HL10 := hide (rhN_length (x := (x0, x1, x2, x3, x4)) (h := h) HX.out)
                  have HLB := hide (show (belowL (x0, x1, x2, x3, x4) h).length ≤ 1 ∧ (aboveL (x0, x1, x2, x3, x4) h).length ≤ 1 from ⟨by unfold belowL; split <;> simp, by unfold aboveL; split <;> simp⟩)
                  have hm10 : (rhN l k (x0, x1, x2, x3, x4) h).length ≤ 1048576 := by have h1 := HL10.out; have h2 := HLB.out; have h3 := Hn.out; omega
                  have QE := hide (areStretches_any A10 (rhN l k (x0, x1, x2, x3, x4) h).length c10 (rhN l k (x0, x1, x2, x3, x4) h) w10 rfl hm10 (rhN_road HX.out HS.out) hrd)
                  clear hrd
                  generalize hrq : rhN l k (x0, x1, x2, x3, x4) h = r at *
                  clear hrq
                  cases h9 : strsB r with
                  | false =>
                    rw [h9] at QE HE
                    clear h9
                    go_wp2_with fail
                    refine QE.out.mono ?_
                    rintro e w11 ⟨rfl, hq⟩
                    have HB11 := hide (below_step HC10.out hq)
                    clear hq
                    go_wp2
                    go_ret2
                    exact RhPost.no HE.out HB11.out
                  | true =>
                    rw [h9] at QE HE
                    clear h9
                    go_wp2_with fail
                    refine QE.out.mono ?_
                    rintro e w11 ⟨rfl, hq⟩
                    have HB11 := hide (below_step HC10.out hq)
                    have HO11 := hide (own_le (B' := w.heap.size) (own_below HO10.out hq) HV6.out)
                    clear hq
                    go_wp2
                    go_ret2
                    exact RhPost.yes HE.out rfl HO11.out HB11.out
end Go.Proofs.Ytpkhdmhfkmajcaa

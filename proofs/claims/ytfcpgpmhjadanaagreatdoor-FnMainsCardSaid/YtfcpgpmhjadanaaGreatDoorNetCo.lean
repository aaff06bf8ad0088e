/- Nets with one main closed, where a list may be nil: the reference's way. -/
import Derived.Test.YtfcpgpmhjadanaaGreatDoorNetSd
import Derived.Test.YtfcpgpmhjadanaaGreatDoorNetWo
namespace Go.Proofs.YtfcpgpmhjadanaaGreatDoor
open Go.RowKit
set_option linter.unusedVariables false

/-- 'append' of nothing to a row of the call's own. -/
theorem wp_append_nilN {P : Program} {Q : Exit → Act → World → Prop} {o : Oper} {a : Act} {w : World} {K : Act → World → Prop} (s x : Operand) (t : TypeId) (ho : o.op = Op.call { callee := Callee.builtin Builtin.append, args := #[s, x], argTypes := #[t, t] })
  (base : Nat) (e : TypeId) (i : TypeInfo) (size : Nat) (ht : P.underlying t = some (.slice e)) (hi : P.info? e = some i)
  (v : Value) (n : Nat) (xs : List Value) (hs : a.eval s = v) (hown : w.ownsRow base e size v n xs) (c : Nat) (hx : a.eval x = .slice none 0 c) (h : K (a.put o.dst v) w) : Oper.wp P o a w K Q := by
 have hrun : (Builtin.append_ #[t, t] o.type #[v, .slice none 0 c]).run P w = .ok v w := by
  rcases hown.2 with ⟨rfl, rfl⟩ | ⟨g, cap, cur, rfl, _, _, hnc, _⟩
  ·
   simp [Builtin.append_, run_underlying ht, sizeOf, typeInfo, hi, Builtin.lenOf, Builtin.firstCells]
  ·
   simp [Builtin.append_, run_underlying ht, sizeOf, typeInfo, hi, Builtin.lenOf, Builtin.firstCells, hnc, storeCells]
 unfold Oper.wp execOp
 simp only [ho, resolve, invoke, builtin, Sem.run_bind, Sem.run_pure, Result.andThen_ok, List.map_toArray, List.map_cons, List.map_nil, hs, hx, hrun]
 exact h

set_option maxRecDepth 100000 in
set_option maxHeartbeats 8000000 in
theorem hyWithoutN_any (bA oA n c m d i : Nat) (M H : List (Int × Int)) (w : World) (hn : n = M.length) (hm : m = H.length) (hn10 : n ≤ 10) (hm10 : m ≤ 10) (hi : i < n) (hm0 : m = 0) (hr : NetRd w (some ⟨bA, oA, none⟩) none M H) :
    Calls Tryz.prog 54 #[.agg #[.slice (some ⟨bA, oA, none⟩) n c, .slice none m d], .int .i64 (i : Int)] w (CutNPost M H i w) := by
  have Hn := hide hn
  have Hm := hide hm
  have HM0 := hide hm0
  have HH0 : Hid (H = []) := hide (List.eq_nil_of_length_eq_zero (by omega))
  clear hm0
  have hc := cell_new2 w (.slice (some ⟨bA, oA, none⟩) n c) (.slice none m d) 27
  have hB1 : Below w.heap.size w (w.alloc (.cells #[.slice (some ⟨bA, oA, none⟩) n c, .slice none m d] 27)) := below_alloc (Below.refl _ _) _
  have hB0 := below_alloc hB1 (.cells #[.slice none 0 0, .slice none 0 0] 27)
  have hw0 : ((w.alloc (.cells #[.slice (some ⟨bA, oA, none⟩) n c, .slice none m d] 27)).alloc (.cells #[.slice none 0 0, .slice none 0 0] 27)).heap.size = w.heap.size + 2 := by simp
  have hf0 := Row.new (w.alloc (.cells #[.slice (some ⟨bA, oA, none⟩) n c, .slice none m d] 27)) #[.slice none 0 0, .slice none 0 0] 27
  rw [show (w.alloc (.cells #[.slice (some ⟨bA, oA, none⟩) n c, .slice none m d] 27)).heap.size = w.heap.size + 1 by simp] at hf0
  have hc0 := cell_on hc.1 (below_alloc (Below.refl _ _) (.cells #[.slice none 0 0, .slice none 0 0] 27))
  have hc1 := cell_on hc.2 (below_alloc (Below.refl _ _) (.cells #[.slice none 0 0, .slice none 0 0] 27))
  have HR0 := hide (NetRd.below hr hB0)
  have HB0 := hide hB0
  have HF0 := hide hf0
  obtain ⟨i0, hi0, hz0, hz1, hz2⟩ := info_parts infoMainT
  obtain ⟨i1, hi1, hy0, hy1, hy2⟩ := info_parts infoHydrantT
  have Hi0 := hide hi0
  have Hi1 := hide hi1
  have Hz := hide (And.intro hz0 (And.intro hz1 hz2))
  have Hy := hide (And.intro hy0 (And.intro hy1 hy2))
  have HLM : Hid ((M.flatMap mcells).length = n * 2) := hide (by rw [flat_length mcells 2 (fun _ => rfl), hn]; omega)
  have HLH : Hid ((H.flatMap mcells).length = m * 2) := hide (by rw [flat_length mcells 2 (fun _ => rfl), hm]; omega)
  clear hn hm hc hB1 hB0 hf0 hr hi0 hz0 hz1 hz2 hi1 hy0 hy1 hy2
  go_enter Tryz.func54, Tryz.ntmps54
  go_wp2_with fail
  generalize (w.alloc (.cells #[.slice (some ⟨bA, oA, none⟩) n c, .slice none m d] 27)).alloc (.cells #[.slice none 0 0, .slice none 0 0] 27) = W0 at *
  have HW0 := hide hw0
  have hz0 : w.heap.size < W0.heap.size := by omega
  clear hw0
  refine wpAnyS_start (fun w' => ∃ n : Later W0, w' = n.w) (n := 11) (by kernel_rfl) rfl rfl ?_
  refine wpAnyS_take_all [1, 2, 5, 6] 7 rfl (by kernel_rfl) (by intro c a d v w h; cases d <;> exact h) (by kernel_rfl) (by simp; rfl) rfl (later_drew _) ?_
  repeat (go_big_quiet_step (fail))
  refine wpQuiet_nil ?_
  have HB : Hid (Below W0.heap.size W0 W0.drew) := hide (Below.refl _ _).drew
  generalize W0.drew = V0 at *
  refine wpAnyS_three 0 4 9 (by kernel_rfl) (by simp; rfl) (by simp; rfl) (by simp; rfl) rfl rfl rfl rfl rfl rfl (fun K hK => ?_) (fun K hK => ?_) (fun K hK => ?_)
  · go_wp2_with fail
    have HB' : Hid (Below W0.heap.size W0 (V0.alloc (.cells #[] 36))) := hide (below_alloc HB.out _)
    refine ⟨later_of HB'.out, ?_⟩
    have F_b6 : Hid ((V0.alloc (.cells #[] 36)).ownsRow W0.heap.size 36 2 (.slice (some ⟨V0.heap.size, 0, none⟩) 0 0) 0 []) := hide (World.ownsRow_made V0 #[] 0 HB.out.size (Nat.zero_le _) rfl)
    have L_b6 : Hid (V0.heap.size < (V0.alloc (.cells #[] 36)).heap.size) := hide (by simp)
    clear HB
    have HB := hide HB'.out
    clear HB'
    generalize (V0.alloc (.cells #[] 36)) = V1 at *
    generalize V0.heap.size = b6 at *
    refine wpAnyS_three 3 4 9 (by kernel_rfl) (by simp; rfl) (by simp; rfl) (by simp; rfl) rfl rfl rfl rfl rfl rfl (fun K hK => ?_) (fun K hK => ?_) (fun K hK => ?_)
    · refine wp_append_at (.tmp 6) (.tmp 8) 24 rfl W0.heap.size 36 i0 _ 2 16 Tryz.underlying24 Hi0.out Hz.out.1 Hz.out.2.1 Hz.out.2.2 rfl (by decide) b6 0 0 [] rfl F_b6.out ⟨bA, oA, none⟩ n c (M.flatMap mcells) rfl HLM.out (Rd.add (HR0.out.1.below HB.out)) (mcells_one M) (by unfold maxLen; omega) (by omega) HB.out.size (fun g cap1 V2 hown hgrow hg hlt => ?_)
      rw [Nat.zero_add] at hown ⊢
      have HB' := hide (HB.out.grown hgrow HB.out.size (fun k hk => by injection hk with hk; have := (F_b6.out.lt b6 rfl).1; omega))
      have F_g : Hid (V2.ownsRow W0.heap.size 36 2 (.slice (some ⟨g, 0, none⟩) n cap1) n (M.flatMap mcells)) := hide (by simpa using hown)
      have L_g : Hid (g < V2.heap.size) := hide hlt
      clear HB hown hgrow hg hlt F_b6 L_b6
      have HB := hide HB'.out
      clear HB'
      refine hK _ _ ⟨later_of HB.out, ?_⟩
      simp only [Act.put, List.setIfInBounds_toArray, List.set_cons_succ, List.set_cons_zero]
      refine wpAnyS_two 4 9 (by kernel_rfl) (by simp; rfl) (by simp; rfl) rfl rfl rfl rfl (fun K hK => ?_) (fun K hK => ?_)
      · go_wp2_with fail
        have HB' : Hid (Below W0.heap.size W0 (V2.alloc (.cells #[] 73))) := hide (below_alloc HB.out _)
        refine ⟨later_of HB'.out, ?_⟩
        replace F_g := hide (World.ownsRow.alloc F_g.out (.cells #[] 73))
        have N_b10_g : Hid (V2.heap.size ≠ g) := hide (by have := L_g.out; omega)
        replace L_g : Hid (g < (V2.alloc (.cells #[] 73)).heap.size) := hide (by have := L_g.out; simp; omega)
        have F_b10 : Hid ((V2.alloc (.cells #[] 73)).ownsRow W0.heap.size 73 2 (.slice (some ⟨V2.heap.size, 0, none⟩) 0 0) 0 []) := hide (World.ownsRow_made V2 #[] 0 HB.out.size (Nat.zero_le _) rfl)
        have L_b10 : Hid (V2.heap.size < (V2.alloc (.cells #[] 73)).heap.size) := hide (by simp)
        clear HB
        have HB := hide HB'.out
        clear HB'
        generalize (V2.alloc (.cells #[] 73)) = V3 at *
        generalize V2.heap.size = b10 at *
        refine wpAnyS_two 7 9 (by kernel_rfl) (by simp; rfl) (by simp; rfl) rfl rfl rfl rfl (fun K hK => ?_) (fun K hK => ?_)
        · refine wp_append_nilN (.tmp 10) (.tmp 12) 25 rfl W0.heap.size 73 i1 2 Tryz.underlying25 Hi1.out (.slice (some ⟨b10, 0, none⟩) 0 0) 0 [] rfl F_b10.out d (show Value.slice none m d = .slice none 0 d by rw [HM0.out]) (hK _ _ ⟨later_of HB.out, ?_⟩)
          simp only [Act.put, List.setIfInBounds_toArray, List.set_cons_succ, List.set_cons_zero]
          obtain ⟨cap2, hc2⟩ : ∃ cap2, Value.slice (some ⟨b10, 0, none⟩) 0 0 = .slice (some ⟨b10, 0, none⟩) m cap2 := ⟨0, by rw [HM0.out]⟩
          rw [hc2]
          have F_g2 : Hid (V3.ownsRow W0.heap.size 73 2 (.slice (some ⟨b10, 0, none⟩) m cap2) m (H.flatMap mcells)) := hide (by rw [← hc2, HM0.out, HH0.out]; exact F_b10.out)
          have L_g2 := L_b10
          have N_g_g2 : Hid (b10 ≠ g) := hide (by have := N_b10_g.out; omega)
          clear N_b10_g
          clear F_b10 L_b10 hc2
          generalize V3 = V4 at *
          generalize b10 = g2 at *
          refine wpAnyS_take_all [8] 2 rfl (by kernel_rfl) (by intro c a d v w h; cases d <;> exact h) (by kernel_rfl) (by simp; rfl) rfl (later_of HB.out) ?_
          repeat (go_big_quiet_step (fail))
          refine wpQuiet_nil ?_
          refine wpAnyS_only 9 (by kernel_rfl) (by simp; rfl) rfl rfl (fun K hK => ?_)
          go_wp2_with fail
          have HB' : Hid (Below W0.heap.size W0 (V4.alloc (.cells #[.slice none 0 0, .slice none 0 0] 27))) := hide (below_alloc HB.out _)
          refine ⟨later_of HB'.out, ?_⟩
          replace F_g := hide (World.ownsRow.alloc F_g.out (.cells #[.slice none 0 0, .slice none 0 0] 27))
          have N_g_q : Hid (V4.heap.size ≠ g) := hide (by have := L_g.out; omega)
          replace L_g : Hid (g < (V4.alloc (.cells #[.slice none 0 0, .slice none 0 0] 27)).heap.size) := hide (by have := L_g.out; simp; omega)
          replace F_g2 := hide (World.ownsRow.alloc F_g2.out (.cells #[.slice none 0 0, .slice none 0 0] 27))
          have N_g2_q : Hid (V4.heap.size ≠ g2) := hide (by have := L_g2.out; omega)
          replace L_g2 : Hid (g2 < (V4.alloc (.cells #[.slice none 0 0, .slice none 0 0] 27)).heap.size) := hide (by have := L_g2.out; simp; omega)
          have F_q := hide (Row.new V4 #[.slice none 0 0, .slice none 0 0] 27)
          have Q0 : Hid (W0.heap.size ≤ V4.heap.size) := hide HB.out.size
          have L_q : Hid (V4.heap.size < (V4.alloc (.cells #[.slice none 0 0, .slice none 0 0] 27)).heap.size) := hide (by simp)
          clear HB
          have HB := hide HB'.out
          clear HB'
          generalize (V4.alloc (.cells #[.slice none 0 0, .slice none 0 0] 27)) = V5 at *
          generalize V4.heap.size = q at *
          obtain ⟨W3, rfl⟩ : ∃ x, x = V5 := ⟨_, rfl⟩
          have HQ4 := hide F_q.out
          have HB4 := hide HB.out
          have HQ0 := hide Q0.out
          have HV4 := hide (own_le (B' := w.heap.size + 2) F_g.out (by have := HW0.out; omega))
          have HH4 := hide (own_le (B' := w.heap.size + 2) F_g2.out (by have := HW0.out; omega))
          have HF4 := hide (HF0.out.below HB.out)
          have HNV : Hid (g ≠ q) := hide (by have := N_g_q.out; omega)
          have HNH : Hid (∀ k, (Value.slice (some ⟨g2, 0, none⟩) m cap2).ownBlock = some k → k ≠ q ∧ k ≠ g) := hide (fun k hk => by simp [Value.ownBlock] at hk; subst hk; have h1 := N_g2_q.out; have h2 := N_g_g2.out; omega)
          clear HB F_g F_g2 F_q
          have r0 := HQ4.out.2.1 0 _ rfl
          have r1 := HQ4.out.2.1 1 _ rfl
          have r2 := HQ4.out.free 0
          have r3 := HQ4.out.free 1
          have hq4 := HQ4.out.1
          have HS4 : Hid (Below W0.heap.size W0 ((W3.setCell ⟨q, 0, none⟩ (.slice (some ⟨g, 0, none⟩) n cap1)).setCell ⟨q, 1, none⟩ (.slice (some ⟨g2, 0, none⟩) m cap2))) := hide ((HB4.out.setCell HQ0.out _).setCell HQ0.out _)
          have HQ5 : Hid (Row ((W3.setCell ⟨q, 0, none⟩ (.slice (some ⟨g, 0, none⟩) n cap1)).setCell ⟨q, 1, none⟩ (.slice (some ⟨g2, 0, none⟩) m cap2)) q [.slice (some ⟨g, 0, none⟩) n cap1, .slice (some ⟨g2, 0, none⟩) m cap2]) := hide ((HQ4.out.set (k := 0) (by simp) _).set (k := 1) (by simp) _)
          refine wpAnyS_only 10 (by kernel_rfl) (by simp; rfl) rfl rfl (fun K hK => ?_)
          go_wp2_with fail
          refine ⟨later_of HS4.out, ?_⟩
          refine wpAnyH_done (by kernel_rfl) ?_ _
          have HV5 := hide (ownsRow_far (ownsRow_far HV4.out (q := q) (o := 0) (u := .slice (some ⟨g, 0, none⟩) n cap1) (fun e => HNV.out e.symm)) (q := q) (o := 1) (u := .slice (some ⟨g2, 0, none⟩) m cap2) (fun e => HNV.out e.symm))
          have HH5 := hide (own_apart (own_apart HH4.out (grown_set (p := ⟨q, 0, none⟩) (.slice (some ⟨g, 0, none⟩) n cap1) rfl) (fun k hk e => (HNH.out k hk).1 (by injection e))) (grown_set (p := ⟨q, 1, none⟩) (.slice (some ⟨g2, 0, none⟩) m cap2) rfl) (fun k hk e => (HNH.out k hk).1 (by injection e)))
          have HF5 := hide ((HF4.out.far (p := ⟨q, 0, none⟩) (by have := HQ0.out; have := HW0.out; simp; omega) (.slice (some ⟨g, 0, none⟩) n cap1)).far (p := ⟨q, 1, none⟩) (by have := HQ0.out; have := HW0.out; simp; omega) (.slice (some ⟨g2, 0, none⟩) m cap2))
          have hgq : ¬ g = q := HNV.out
          have hgw : w.heap.size < q := by have := HQ0.out; have := HW0.out; omega
          have hgb : w.heap.size + 2 ≤ g := (HV4.out.lt g rfl).1
          have hgw2 : ¬ g = w.heap.size := by omega
          have hgw3 : ¬ g = w.heap.size + 1 := by omega
          have HC4 := hide (cell_on hc0 HS4.out)
          clear hc0 hc1
          generalize (W3.setCell ⟨q, 0, none⟩ (.slice (some ⟨g, 0, none⟩) n cap1)).setCell ⟨q, 1, none⟩ (.slice (some ⟨g2, 0, none⟩) m cap2) = W4 at *
          clear r0 r1 r2 r3 hq4
          have r0 := HQ5.out.2.1 0 _ rfl
          have r1 := HQ5.out.2.1 1 _ rfl
          have hq4 := HQ5.out.1
          have f0 := HF5.out.2.1 0 _ rfl
          have f1 := HF5.out.2.1 1 _ rfl
          have f2 := HF5.out.free 0
          have f3 := HF5.out.free 1
          have hf4 := HF5.out.1
          obtain ⟨⟨p0, p1⟩, hp⟩ : ∃ h, M[i]? = some h := ⟨_, List.getElem?_eq_getElem (by rw [← Hn.out]; exact hi)⟩
          obtain ⟨g', off', hA, -, d0, d1⟩ := (own_rd HV5.out).get2 (fun _ => rfl) hp rfl
          simp only [Option.some.injEq, Addr.mk.injEq, and_true] at hA
          obtain ⟨rfl, rfl⟩ := hA
          have d2 := World.ownsRow.frozenAt HV5.out (i * 2 + 1)
          have hg4 := (HV5.out.lt g rfl).2
          rw [Nat.zero_add] at d1
          dsimp only at d1
          have e0 := World.ownsRow.frozenAt HV5.out (i * 2)
          rw [Nat.zero_add] at d0
          dsimp only at d0
          have HST := (World.ownsRow.stored (World.ownsRow.stored HV5.out (i * 2 + 0) (.int .i64 p0)).1 (i * 2 + 1) (.int .i64 0)).1
          rw [flat_set mcells 2 (fun _ => rfl) 0 (by omega) (.int .i64 p0) (p0, p1) M i _ hp rfl, flat_set mcells 2 (fun _ => rfl) 1 (by omega) (.int .i64 0) (par M i, 0) (M.set i (p0, p1)) i (p0, p1) (by rw [List.getElem?_set_self (by rw [← Hn.out]; exact hi)]) (by rw [par_some hp]; rfl), List.set_set, Nat.add_zero] at HST
          have HST := hide HST
          have hcx := HC4.out
          have HRX := hide ((HR0.out.1.below HS4.out).get2 (fun _ => rfl) hp rfl)
          obtain ⟨b9, o9, hA9, hb9, d3, d4⟩ := HRX.out
          simp only [Option.some.injEq, Addr.mk.injEq, and_true] at hA9
          obtain ⟨rfl, rfl⟩ := hA9
          dsimp only at d3 d4
          clear hp
          go_wp2_with fail
          go_region
          have HB6 := hide (((below_step HB0.out HS4.out).setCell (p := ⟨g, i * 2, none⟩) (show w.heap.size ≤ g by omega) (.int .i64 p0)).setCell (p := ⟨g, i * 2 + 1, none⟩) (show w.heap.size ≤ g by omega) (.int .i64 0)).drew
          have HH6 := hide (own_apart (own_apart HH5.out (grown_set (p := ⟨g, i * 2, none⟩) (.int .i64 p0) rfl) (fun k hk e => (HNH.out k hk).2 (by injection e))) (grown_set (p := ⟨g, i * 2 + 1, none⟩) (.int .i64 0) rfl) (fun k hk e => (HNH.out k hk).2 (by injection e)))
          have HF6 := hide ((HF5.out.far (p := ⟨g, i * 2, none⟩) (by simp; omega) (.int .i64 p0)).far (p := ⟨g, i * 2 + 1, none⟩) (by simp; omega) (.int .i64 0)).drew
          have HQ6 := hide ((HQ5.out.far (p := ⟨g, i * 2, none⟩) (by simp; omega) (.int .i64 p0)).far (p := ⟨g, i * 2 + 1, none⟩) (by simp; omega) (.int .i64 0)).drew
          have HV6 : Hid (((W4.setCell ⟨g, i * 2, none⟩ (.int .i64 p0)).setCell ⟨g, i * 2 + 1, none⟩ (.int .i64 0)).drew.ownsRow (w.heap.size + 2) 36 2 (.slice (some ⟨g, 0, none⟩) n cap1) n ((closeM M i).flatMap mcells)) := hide HST.out
          have HH7 : Hid (((W4.setCell ⟨g, i * 2, none⟩ (.int .i64 p0)).setCell ⟨g, i * 2 + 1, none⟩ (.int .i64 0)).drew.ownsRow (w.heap.size + 2) 73 2 (.slice (some ⟨g2, 0, none⟩) m cap2) m (H.flatMap mcells)) := hide HH6.out
          clear HST HH6 r0 r1 hq4 f0 f1 f2 f3 hf4 d0 d1 d2 d3 d4 e0 hg4 hcx HC4 HRX
          generalize ((W4.setCell ⟨g, i * 2, none⟩ (.int .i64 p0)).setCell ⟨g, i * 2 + 1, none⟩ (.int .i64 0)).drew = W6 at *
          have r0 := HQ6.out.2.1 0 _ rfl
          have r1 := HQ6.out.2.1 1 _ rfl
          have hq4 := HQ6.out.1
          have f0 := HF6.out.2.1 0 _ rfl
          have f1 := HF6.out.2.1 1 _ rfl
          have f2 := HF6.out.free 0
          have f3 := HF6.out.free 1
          have hf4 := HF6.out.1
          have hq5 : ¬ q = w.heap.size + 1 := by have := HQ0.out; have := HW0.out; omega
          go_wp2
          refine bodyPost_ret (v := .agg #[.slice (some ⟨g, 0, none⟩) n cap1, .slice (some ⟨g2, 0, none⟩) m cap2]) (by simp [results, Tryz.results54, go_sem, *]) rfl ⟨⟨_, _, rfl, ?_, ?_⟩, ?_⟩
          · have h := own_far_any (own_far_any HV6.out (q := w.heap.size + 1) (o := 0) (u := .slice (some ⟨g, 0, none⟩) n cap1) (by omega)) (q := w.heap.size + 1) (o := 1) (u := .slice (some ⟨g2, 0, none⟩) m cap2) (by omega)
            have h2 := own_le h (B' := w.heap.size) (by omega)
            rw [show (closeM M i).length = n by rw [closeM, List.length_set]; exact Hn.out.symm]
            exact h2
          · have h1 := own_far_any (own_far_any HH7.out (q := w.heap.size + 1) (o := 0) (u := .slice (some ⟨g, 0, none⟩) n cap1) (by omega)) (q := w.heap.size + 1) (o := 1) (u := .slice (some ⟨g2, 0, none⟩) m cap2) (by omega)
            have h2 := own_le h1 (B' := w.heap.size) (by omega)
            rw [← show m = H.length from Hm.out]
            exact h2
          · exact (HB6.out.setCell (p := ⟨w.heap.size + 1, 0, none⟩) (Nat.le_succ _) _).setCell (p := ⟨w.heap.size + 1, 1, none⟩) (Nat.le_succ _) _
        · go_wp2_with fail
          have HB' : Hid (Below W0.heap.size W0 (V3.alloc (.cells #[.slice none 0 0, .slice none 0 0] 27))) := hide (below_alloc HB.out _)
          refine ⟨later_of HB'.out, ?_⟩
          replace F_b10 := hide (World.ownsRow.alloc F_b10.out (.cells #[.slice none 0 0, .slice none 0 0] 27))
          have N_b10_q : Hid (V3.heap.size ≠ b10) := hide (by have := L_b10.out; omega)
          replace L_b10 : Hid (b10 < (V3.alloc (.cells #[.slice none 0 0, .slice none 0 0] 27)).heap.size) := hide (by have := L_b10.out; simp; omega)
          replace F_g := hide (World.ownsRow.alloc F_g.out (.cells #[.slice none 0 0, .slice none 0 0] 27))
          have N_g_q : Hid (V3.heap.size ≠ g) := hide (by have := L_g.out; omega)
          replace L_g : Hid (g < (V3.alloc (.cells #[.slice none 0 0, .slice none 0 0] 27)).heap.size) := hide (by have := L_g.out; simp; omega)
          have F_q := hide (Row.new V3 #[.slice none 0 0, .slice none 0 0] 27)
          have Q0 : Hid (W0.heap.size ≤ V3.heap.size) := hide HB.out.size
          have L_q : Hid (V3.heap.size < (V3.alloc (.cells #[.slice none 0 0, .slice none 0 0] 27)).heap.size) := hide (by simp)
          clear HB
          have HB := hide HB'.out
          clear HB'
          generalize (V3.alloc (.cells #[.slice none 0 0, .slice none 0 0] 27)) = V4 at *
          generalize V3.heap.size = q at *
          refine wpAnyS_only 7 (by kernel_rfl) (by simp; rfl) rfl rfl (fun K hK => ?_)
          refine wp_append_nilN (.tmp 10) (.tmp 12) 25 rfl W0.heap.size 73 i1 2 Tryz.underlying25 Hi1.out (.slice (some ⟨b10, 0, none⟩) 0 0) 0 [] rfl F_b10.out d (show Value.slice none m d = .slice none 0 d by rw [HM0.out]) (hK _ _ ⟨later_of HB.out, ?_⟩)
          simp only [Act.put, List.setIfInBounds_toArray, List.set_cons_succ, List.set_cons_zero]
          obtain ⟨cap2, hc2⟩ : ∃ cap2, Value.slice (some ⟨b10, 0, none⟩) 0 0 = .slice (some ⟨b10, 0, none⟩) m cap2 := ⟨0, by rw [HM0.out]⟩
          rw [hc2]
          have F_g2 : Hid (V4.ownsRow W0.heap.size 73 2 (.slice (some ⟨b10, 0, none⟩) m cap2) m (H.flatMap mcells)) := hide (by rw [← hc2, HM0.out, HH0.out]; exact F_b10.out)
          have L_g2 := L_b10
          have N_g_g2 : Hid (b10 ≠ g) := hide (by have := N_b10_g.out; omega)
          clear N_b10_g
          have N_g2_q : Hid (b10 ≠ q) := hide (by have := N_b10_q.out; omega)
          clear N_b10_q
          clear F_b10 L_b10 hc2
          generalize V4 = V5 at *
          generalize b10 = g2 at *
          refine wpAnyS_take_all [8] 1 rfl (by kernel_rfl) (by intro c a d v w h; cases d <;> exact h) (by kernel_rfl) (by simp; rfl) rfl (later_of HB.out) ?_
          repeat (go_big_quiet_step (fail))
          refine wpQuiet_nil ?_
          obtain ⟨W3, rfl⟩ : ∃ x, x = V5 := ⟨_, rfl⟩
          have HQ4 := hide F_q.out
          have HB4 := hide HB.out
          have HQ0 := hide Q0.out
          have HV4 := hide (own_le (B' := w.heap.size + 2) F_g.out (by have := HW0.out; omega))
          have HH4 := hide (own_le (B' := w.heap.size + 2) F_g2.out (by have := HW0.out; omega))
          have HF4 := hide (HF0.out.below HB.out)
          have HNV : Hid (g ≠ q) := hide (by have := N_g_q.out; omega)
          have HNH : Hid (∀ k, (Value.slice (some ⟨g2, 0, none⟩) m cap2).ownBlock = some k → k ≠ q ∧ k ≠ g) := hide (fun k hk => by simp [Value.ownBlock] at hk; subst hk; have h1 := N_g2_q.out; have h2 := N_g_g2.out; omega)
          clear HB F_g F_g2 F_q
          have r0 := HQ4.out.2.1 0 _ rfl
          have r1 := HQ4.out.2.1 1 _ rfl
          have r2 := HQ4.out.free 0
          have r3 := HQ4.out.free 1
          have hq4 := HQ4.out.1
          have HS4 : Hid (Below W0.heap.size W0 ((W3.setCell ⟨q, 0, none⟩ (.slice (some ⟨g, 0, none⟩) n cap1)).setCell ⟨q, 1, none⟩ (.slice (some ⟨g2, 0, none⟩) m cap2))) := hide ((HB4.out.setCell HQ0.out _).setCell HQ0.out _)
          have HQ5 : Hid (Row ((W3.setCell ⟨q, 0, none⟩ (.slice (some ⟨g, 0, none⟩) n cap1)).setCell ⟨q, 1, none⟩ (.slice (some ⟨g2, 0, none⟩) m cap2)) q [.slice (some ⟨g, 0, none⟩) n cap1, .slice (some ⟨g2, 0, none⟩) m cap2]) := hide ((HQ4.out.set (k := 0) (by simp) _).set (k := 1) (by simp) _)
          refine wpAnyS_only 10 (by kernel_rfl) (by simp; rfl) rfl rfl (fun K hK => ?_)
          go_wp2_with fail
          refine ⟨later_of HS4.out, ?_⟩
          refine wpAnyH_done (by kernel_rfl) ?_ _
          have HV5 := hide (ownsRow_far (ownsRow_far HV4.out (q := q) (o := 0) (u := .slice (some ⟨g, 0, none⟩) n cap1) (fun e => HNV.out e.symm)) (q := q) (o := 1) (u := .slice (some ⟨g2, 0, none⟩) m cap2) (fun e => HNV.out e.symm))
          have HH5 := hide (own_apart (own_apart HH4.out (grown_set (p := ⟨q, 0, none⟩) (.slice (some ⟨g, 0, none⟩) n cap1) rfl) (fun k hk e => (HNH.out k hk).1 (by injection e))) (grown_set (p := ⟨q, 1, none⟩) (.slice (some ⟨g2, 0, none⟩) m cap2) rfl) (fun k hk e => (HNH.out k hk).1 (by injection e)))
          have HF5 := hide ((HF4.out.far (p := ⟨q, 0, none⟩) (by have := HQ0.out; have := HW0.out; simp; omega) (.slice (some ⟨g, 0, none⟩) n cap1)).far (p := ⟨q, 1, none⟩) (by have := HQ0.out; have := HW0.out; simp; omega) (.slice (some ⟨g2, 0, none⟩) m cap2))
          have hgq : ¬ g = q := HNV.out
          have hgw : w.heap.size < q := by have := HQ0.out; have := HW0.out; omega
          have hgb : w.heap.size + 2 ≤ g := (HV4.out.lt g rfl).1
          have hgw2 : ¬ g = w.heap.size := by omega
          have hgw3 : ¬ g = w.heap.size + 1 := by omega
          have HC4 := hide (cell_on hc0 HS4.out)
          clear hc0 hc1
          generalize (W3.setCell ⟨q, 0, none⟩ (.slice (some ⟨g, 0, none⟩) n cap1)).setCell ⟨q, 1, none⟩ (.slice (some ⟨g2, 0, none⟩) m cap2) = W4 at *
          clear r0 r1 r2 r3 hq4
          have r0 := HQ5.out.2.1 0 _ rfl
          have r1 := HQ5.out.2.1 1 _ rfl
          have hq4 := HQ5.out.1
          have f0 := HF5.out.2.1 0 _ rfl
          have f1 := HF5.out.2.1 1 _ rfl
          have f2 := HF5.out.free 0
          have f3 := HF5.out.free 1
          have hf4 := HF5.out.1
          obtain ⟨⟨p0, p1⟩, hp⟩ : ∃ h, M[i]? = some h := ⟨_, List.getElem?_eq_getElem (by rw [← Hn.out]; exact hi)⟩
          obtain ⟨g', off', hA, -, d0, d1⟩ := (own_rd HV5.out).get2 (fun _ => rfl) hp rfl
          simp only [Option.some.injEq, Addr.mk.injEq, and_true] at hA
          obtain ⟨rfl, rfl⟩ := hA
          have d2 := World.ownsRow.frozenAt HV5.out (i * 2 + 1)
          have hg4 := (HV5.out.lt g rfl).2
          rw [Nat.zero_add] at d1
          dsimp only at d1
          have e0 := World.ownsRow.frozenAt HV5.out (i * 2)
          rw [Nat.zero_add] at d0
          dsimp only at d0
          have HST := (World.ownsRow.stored (World.ownsRow.stored HV5.out (i * 2 + 0) (.int .i64 p0)).1 (i * 2 + 1) (.int .i64 0)).1
          rw [flat_set mcells 2 (fun _ => rfl) 0 (by omega) (.int .i64 p0) (p0, p1) M i _ hp rfl, flat_set mcells 2 (fun _ => rfl) 1 (by omega) (.int .i64 0) (par M i, 0) (M.set i (p0, p1)) i (p0, p1) (by rw [List.getElem?_set_self (by rw [← Hn.out]; exact hi)]) (by rw [par_some hp]; rfl), List.set_set, Nat.add_zero] at HST
          have HST := hide HST
          have hcx := HC4.out
          have HRX := hide ((HR0.out.1.below HS4.out).get2 (fun _ => rfl) hp rfl)
          obtain ⟨b9, o9, hA9, hb9, d3, d4⟩ := HRX.out
          simp only [Option.some.injEq, Addr.mk.injEq, and_true] at hA9
          obtain ⟨rfl, rfl⟩ := hA9
          dsimp only at d3 d4
          clear hp
          go_wp2_with fail
          go_region
          have HB6 := hide (((below_step HB0.out HS4.out).setCell (p := ⟨g, i * 2, none⟩) (show w.heap.size ≤ g by omega) (.int .i64 p0)).setCell (p := ⟨g, i * 2 + 1, none⟩) (show w.heap.size ≤ g by omega) (.int .i64 0)).drew
          have HH6 := hide (own_apart (own_apart HH5.out (grown_set (p := ⟨g, i * 2, none⟩) (.int .i64 p0) rfl) (fun k hk e => (HNH.out k hk).2 (by injection e))) (grown_set (p := ⟨g, i * 2 + 1, none⟩) (.int .i64 0) rfl) (fun k hk e => (HNH.out k hk).2 (by injection e)))
          have HF6 := hide ((HF5.out.far (p := ⟨g, i * 2, none⟩) (by simp; omega) (.int .i64 p0)).far (p := ⟨g, i * 2 + 1, none⟩) (by simp; omega) (.int .i64 0)).drew
          have HQ6 := hide ((HQ5.out.far (p := ⟨g, i * 2, none⟩) (by simp; omega) (.int .i64 p0)).far (p := ⟨g, i * 2 + 1, none⟩) (by simp; omega) (.int .i64 0)).drew
          have HV6 : Hid (((W4.setCell ⟨g, i * 2, none⟩ (.int .i64 p0)).setCell ⟨g, i * 2 + 1, none⟩ (.int .i64 0)).drew.ownsRow (w.heap.size + 2) 36 2 (.slice (some ⟨g, 0, none⟩) n cap1) n ((closeM M i).flatMap mcells)) := hide HST.out
          have HH7 : Hid (((W4.setCell ⟨g, i * 2, none⟩ (.int .i64 p0)).setCell ⟨g, i * 2 + 1, none⟩ (.int .i64 0)).drew.ownsRow (w.heap.size + 2) 73 2 (.slice (some ⟨g2, 0, none⟩) m cap2) m (H.flatMap mcells)) := hide HH6.out
          clear HST HH6 r0 r1 hq4 f0 f1 f2 f3 hf4 d0 d1 d2 d3 d4 e0 hg4 hcx HC4 HRX
          generalize ((W4.setCell ⟨g, i * 2, none⟩ (.int .i64 p0)).setCell ⟨g, i * 2 + 1, none⟩ (.int .i64 0)).drew = W6 at *
          have r0 := HQ6.out.2.1 0 _ rfl
          have r1 := HQ6.out.2.1 1 _ rfl
          have hq4 := HQ6.out.1
          have f0 := HF6.out.2.1 0 _ rfl
          have f1 := HF6.out.2.1 1 _ rfl
          have f2 := HF6.out.free 0
          have f3 := HF6.out.free 1
          have hf4 := HF6.out.1
          have hq5 : ¬ q = w.heap.size + 1 := by have := HQ0.out; have := HW0.out; omega
          go_wp2
          refine bodyPost_ret (v := .agg #[.slice (some ⟨g, 0, none⟩) n cap1, .slice (some ⟨g2, 0, none⟩) m cap2]) (by simp [results, Tryz.results54, go_sem, *]) rfl ⟨⟨_, _, rfl, ?_, ?_⟩, ?_⟩
          · have h := own_far_any (own_far_any HV6.out (q := w.heap.size + 1) (o := 0) (u := .slice (some ⟨g, 0, none⟩) n cap1) (by omega)) (q := w.heap.size + 1) (o := 1) (u := .slice (some ⟨g2, 0, none⟩) m cap2) (by omega)
            have h2 := own_le h (B' := w.heap.size) (by omega)
            rw [show (closeM M i).length = n by rw [closeM, List.length_set]; exact Hn.out.symm]
            exact h2
          · have h1 := own_far_any (own_far_any HH7.out (q := w.heap.size + 1) (o := 0) (u := .slice (some ⟨g, 0, none⟩) n cap1) (by omega)) (q := w.heap.size + 1) (o := 1) (u := .slice (some ⟨g2, 0, none⟩) m cap2) (by omega)
            have h2 := own_le h1 (B' := w.heap.size) (by omega)
            rw [← show m = H.length from Hm.out]
            exact h2
          · exact (HB6.out.setCell (p := ⟨w.heap.size + 1, 0, none⟩) (Nat.le_succ _) _).setCell (p := ⟨w.heap.size + 1, 1, none⟩) (Nat.le_succ _) _
      · go_wp2_with fail
        have HB' : Hid (Below W0.heap.size W0 (V2.alloc (.cells #[.slice none 0 0, .slice none 0 0] 27))) := hide (below_alloc HB.out _)
        refine ⟨later_of HB'.out, ?_⟩
        replace F_g := hide (World.ownsRow.alloc F_g.out (.cells #[.slice none 0 0, .slice none 0 0] 27))
        have N_g_q : Hid (V2.heap.size ≠ g) := hide (by have := L_g.out; omega)
        replace L_g : Hid (g < (V2.alloc (.cells #[.slice none 0 0, .slice none 0 0] 27)).heap.size) := hide (by have := L_g.out; simp; omega)
        have F_q := hide (Row.new V2 #[.slice none 0 0, .slice none 0 0] 27)
        have Q0 : Hid (W0.heap.size ≤ V2.heap.size) := hide HB.out.size
        have L_q : Hid (V2.heap.size < (V2.alloc (.cells #[.slice none 0 0, .slice none 0 0] 27)).heap.size) := hide (by simp)
        clear HB
        have HB := hide HB'.out
        clear HB'
        generalize (V2.alloc (.cells #[.slice none 0 0, .slice none 0 0] 27)) = V3 at *
        generalize V2.heap.size = q at *
        refine wpAnyS_only 4 (by kernel_rfl) (by simp; rfl) rfl rfl (fun K hK => ?_)
        go_wp2_with fail
        have HB' : Hid (Below W0.heap.size W0 (V3.alloc (.cells #[] 73))) := hide (below_alloc HB.out _)
        refine ⟨later_of HB'.out, ?_⟩
        replace F_g := hide (World.ownsRow.alloc F_g.out (.cells #[] 73))
        have N_b10_g : Hid (V3.heap.size ≠ g) := hide (by have := L_g.out; omega)
        replace L_g : Hid (g < (V3.alloc (.cells #[] 73)).heap.size) := hide (by have := L_g.out; simp; omega)
        replace F_q := hide (F_q.out.alloc (.cells #[] 73))
        have N_b10_q : Hid (V3.heap.size ≠ q) := hide (by have := L_q.out; omega)
        replace L_q : Hid (q < (V3.alloc (.cells #[] 73)).heap.size) := hide (by have := L_q.out; simp; omega)
        have F_b10 : Hid ((V3.alloc (.cells #[] 73)).ownsRow W0.heap.size 73 2 (.slice (some ⟨V3.heap.size, 0, none⟩) 0 0) 0 []) := hide (World.ownsRow_made V3 #[] 0 HB.out.size (Nat.zero_le _) rfl)
        have L_b10 : Hid (V3.heap.size < (V3.alloc (.cells #[] 73)).heap.size) := hide (by simp)
        clear HB
        have HB := hide HB'.out
        clear HB'
        generalize (V3.alloc (.cells #[] 73)) = V4 at *
        generalize V3.heap.size = b10 at *
        refine wpAnyS_only 7 (by kernel_rfl) (by simp; rfl) rfl rfl (fun K hK => ?_)
        refine wp_append_nilN (.tmp 10) (.tmp 12) 25 rfl W0.heap.size 73 i1 2 Tryz.underlying25 Hi1.out (.slice (some ⟨b10, 0, none⟩) 0 0) 0 [] rfl F_b10.out d (show Value.slice none m d = .slice none 0 d by rw [HM0.out]) (hK _ _ ⟨later_of HB.out, ?_⟩)
        simp only [Act.put, List.setIfInBounds_toArray, List.set_cons_succ, List.set_cons_zero]
        obtain ⟨cap2, hc2⟩ : ∃ cap2, Value.slice (some ⟨b10, 0, none⟩) 0 0 = .slice (some ⟨b10, 0, none⟩) m cap2 := ⟨0, by rw [HM0.out]⟩
        rw [hc2]
        have F_g2 : Hid (V4.ownsRow W0.heap.size 73 2 (.slice (some ⟨b10, 0, none⟩) m cap2) m (H.flatMap mcells)) := hide (by rw [← hc2, HM0.out, HH0.out]; exact F_b10.out)
        have L_g2 := L_b10
        have N_g_g2 : Hid (b10 ≠ g) := hide (by have := N_b10_g.out; omega)
        clear N_b10_g
        have N_g2_q : Hid (b10 ≠ q) := hide (by have := N_b10_q.out; omega)
        clear N_b10_q
        clear F_b10 L_b10 hc2
        generalize V4 = V5 at *
        generalize b10 = g2 at *
        refine wpAnyS_take_all [8] 1 rfl (by kernel_rfl) (by intro c a d v w h; cases d <;> exact h) (by kernel_rfl) (by simp; rfl) rfl (later_of HB.out) ?_
        repeat (go_big_quiet_step (fail))
        refine wpQuiet_nil ?_
        obtain ⟨W3, rfl⟩ : ∃ x, x = V5 := ⟨_, rfl⟩
        have HQ4 := hide F_q.out
        have HB4 := hide HB.out
        have HQ0 := hide Q0.out
        have HV4 := hide (own_le (B' := w.heap.size + 2) F_g.out (by have := HW0.out; omega))
        have HH4 := hide (own_le (B' := w.heap.size + 2) F_g2.out (by have := HW0.out; omega))
        have HF4 := hide (HF0.out.below HB.out)
        have HNV : Hid (g ≠ q) := hide (by have := N_g_q.out; omega)
        have HNH : Hid (∀ k, (Value.slice (some ⟨g2, 0, none⟩) m cap2).ownBlock = some k → k ≠ q ∧ k ≠ g) := hide (fun k hk => by simp [Value.ownBlock] at hk; subst hk; have h1 := N_g2_q.out; have h2 := N_g_g2.out; omega)
        clear HB F_g F_g2 F_q
        have r0 := HQ4.out.2.1 0 _ rfl
        have r1 := HQ4.out.2.1 1 _ rfl
        have r2 := HQ4.out.free 0
        have r3 := HQ4.out.free 1
        have hq4 := HQ4.out.1
        have HS4 : Hid (Below W0.heap.size W0 ((W3.setCell ⟨q, 0, none⟩ (.slice (some ⟨g, 0, none⟩) n cap1)).setCell ⟨q, 1, none⟩ (.slice (some ⟨g2, 0, none⟩) m cap2))) := hide ((HB4.out.setCell HQ0.out _).setCell HQ0.out _)
        have HQ5 : Hid (Row ((W3.setCell ⟨q, 0, none⟩ (.slice (some ⟨g, 0, none⟩) n cap1)).setCell ⟨q, 1, none⟩ (.slice (some ⟨g2, 0, none⟩) m cap2)) q [.slice (some ⟨g, 0, none⟩) n cap1, .slice (some ⟨g2, 0, none⟩) m cap2]) := hide ((HQ4.out.set (k := 0) (by simp) _).set (k := 1) (by simp) _)
        refine wpAnyS_only 10 (by kernel_rfl) (by simp; rfl) rfl rfl (fun K hK => ?_)
        go_wp2_with fail
        refine ⟨later_of HS4.out, ?_⟩
        refine wpAnyH_done (by kernel_rfl) ?_ _
        have HV5 := hide (ownsRow_far (ownsRow_far HV4.out (q := q) (o := 0) (u := .slice (some ⟨g, 0, none⟩) n cap1) (fun e => HNV.out e.symm)) (q := q) (o := 1) (u := .slice (some ⟨g2, 0, none⟩) m cap2) (fun e => HNV.out e.symm))
        have HH5 := hide (own_apart (own_apart HH4.out (grown_set (p := ⟨q, 0, none⟩) (.slice (some ⟨g, 0, none⟩) n cap1) rfl) (fun k hk e => (HNH.out k hk).1 (by injection e))) (grown_set (p := ⟨q, 1, none⟩) (.slice (some ⟨g2, 0, none⟩) m cap2) rfl) (fun k hk e => (HNH.out k hk).1 (by injection e)))
        have HF5 := hide ((HF4.out.far (p := ⟨q, 0, none⟩) (by have := HQ0.out; have := HW0.out; simp; omega) (.slice (some ⟨g, 0, none⟩) n cap1)).far (p := ⟨q, 1, none⟩) (by have := HQ0.out; have := HW0.out; simp; omega) (.slice (some ⟨g2, 0, none⟩) m cap2))
        have hgq : ¬ g = q := HNV.out
        have hgw : w.heap.size < q := by have := HQ0.out; have := HW0.out; omega
        have hgb : w.heap.size + 2 ≤ g := (HV4.out.lt g rfl).1
        have hgw2 : ¬ g = w.heap.size := by omega
        have hgw3 : ¬ g = w.heap.size + 1 := by omega
        have HC4 := hide (cell_on hc0 HS4.out)
        clear hc0 hc1
        generalize (W3.setCell ⟨q, 0, none⟩ (.slice (some ⟨g, 0, none⟩) n cap1)).setCell ⟨q, 1, none⟩ (.slice (some ⟨g2, 0, none⟩) m cap2) = W4 at *
        clear r0 r1 r2 r3 hq4
        have r0 := HQ5.out.2.1 0 _ rfl
        have r1 := HQ5.out.2.1 1 _ rfl
        have hq4 := HQ5.out.1
        have f0 := HF5.out.2.1 0 _ rfl
        have f1 := HF5.out.2.1 1 _ rfl
        have f2 := HF5.out.free 0
        have f3 := HF5.out.free 1
        have hf4 := HF5.out.1
        obtain ⟨⟨p0, p1⟩, hp⟩ : ∃ h, M[i]? = some h := ⟨_, List.getElem?_eq_getElem (by rw [← Hn.out]; exact hi)⟩
        obtain ⟨g', off', hA, -, d0, d1⟩ := (own_rd HV5.out).get2 (fun _ => rfl) hp rfl
        simp only [Option.some.injEq, Addr.mk.injEq, and_true] at hA
        obtain ⟨rfl, rfl⟩ := hA
        have d2 := World.ownsRow.frozenAt HV5.out (i * 2 + 1)
        have hg4 := (HV5.out.lt g rfl).2
        rw [Nat.zero_add] at d1
        dsimp only at d1
        have e0 := World.ownsRow.frozenAt HV5.out (i * 2)
        rw [Nat.zero_add] at d0
        dsimp only at d0
        have HST := (World.ownsRow.stored (World.ownsRow.stored HV5.out (i * 2 + 0) (.int .i64 p0)).1 (i * 2 + 1) (.int .i64 0)).1
        rw [flat_set mcells 2 (fun _ => rfl) 0 (by omega) (.int .i64 p0) (p0, p1) M i _ hp rfl, flat_set mcells 2 (fun _ => rfl) 1 (by omega) (.int .i64 0) (par M i, 0) (M.set i (p0, p1)) i (p0, p1) (by rw [List.getElem?_set_self (by rw [← Hn.out]; exact hi)]) (by rw [par_some hp]; rfl), List.set_set, Nat.add_zero] at HST
        have HST := hide HST
        have hcx := HC4.out
        have HRX := hide ((HR0.out.1.below HS4.out).get2 (fun _ => rfl) hp rfl)
        obtain ⟨b9, o9, hA9, hb9, d3, d4⟩ := HRX.out
        simp only [Option.some.injEq, Addr.mk.injEq, and_true] at hA9
        obtain ⟨rfl, rfl⟩ := hA9
        dsimp only at d3 d4
        clear hp
        go_wp2_with fail
        go_region
        have HB6 := hide (((below_step HB0.out HS4.out).setCell (p := ⟨g, i * 2, none⟩) (show w.heap.size ≤ g by omega) (.int .i64 p0)).setCell (p := ⟨g, i * 2 + 1, none⟩) (show w.heap.size ≤ g by omega) (.int .i64 0)).drew
        have HH6 := hide (own_apart (own_apart HH5.out (grown_set (p := ⟨g, i * 2, none⟩) (.int .i64 p0) rfl) (fun k hk e => (HNH.out k hk).2 (by injection e))) (grown_set (p := ⟨g, i * 2 + 1, none⟩) (.int .i64 0) rfl) (fun k hk e => (HNH.out k hk).2 (by injection e)))
        have HF6 := hide ((HF5.out.far (p := ⟨g, i * 2, none⟩) (by simp; omega) (.int .i64 p0)).far (p := ⟨g, i * 2 + 1, none⟩) (by simp; omega) (.int .i64 0)).drew
        have HQ6 := hide ((HQ5.out.far (p := ⟨g, i * 2, none⟩) (by simp; omega) (.int .i64 p0)).far (p := ⟨g, i * 2 + 1, none⟩) (by simp; omega) (.int .i64 0)).drew
        have HV6 : Hid (((W4.setCell ⟨g, i * 2, none⟩ (.int .i64 p0)).setCell ⟨g, i * 2 + 1, none⟩ (.int .i64 0)).drew.ownsRow (w.heap.size + 2) 36 2 (.slice (some ⟨g, 0, none⟩) n cap1) n ((closeM M i).flatMap mcells)) := hide HST.out
        have HH7 : Hid (((W4.setCell ⟨g, i * 2, none⟩ (.int .i64 p0)).setCell ⟨g, i * 2 + 1, none⟩ (.int .i64 0)).drew.ownsRow (w.heap.size + 2) 73 2 (.slice (some ⟨g2, 0, none⟩) m cap2) m (H.flatMap mcells)) := hide HH6.out
        clear HST HH6 r0 r1 hq4 f0 f1 f2 f3 hf4 d0 d1 d2 d3 d4 e0 hg4 hcx HC4 HRX
        generalize ((W4.setCell ⟨g, i * 2, none⟩ (.int .i64 p0)).setCell ⟨g, i * 2 + 1, none⟩ (.int .i64 0)).drew = W6 at *
        have r0 := HQ6.out.2.1 0 _ rfl
        have r1 := HQ6.out.2.1 1 _ rfl
        have hq4 := HQ6.out.1
        have f0 := HF6.out.2.1 0 _ rfl
        have f1 := HF6.out.2.1 1 _ rfl
        have f2 := HF6.out.free 0
        have f3 := HF6.out.free 1
        have hf4 := HF6.out.1
        have hq5 : ¬ q = w.heap.size + 1 := by have := HQ0.out; have := HW0.out; omega
        go_wp2
        refine bodyPost_ret (v := .agg #[.slice (some ⟨g, 0, none⟩) n cap1, .slice (some ⟨g2, 0, none⟩) m cap2]) (by simp [results, Tryz.results54, go_sem, *]) rfl ⟨⟨_, _, rfl, ?_, ?_⟩, ?_⟩
        · have h := own_far_any (own_far_any HV6.out (q := w.heap.size + 1) (o := 0) (u := .slice (some ⟨g, 0, none⟩) n cap1) (by omega)) (q := w.heap.size + 1) (o := 1) (u := .slice (some ⟨g2, 0, none⟩) m cap2) (by omega)
          have h2 := own_le h (B' := w.heap.size) (by omega)
          rw [show (closeM M i).length = n by rw [closeM, List.length_set]; exact Hn.out.symm]
          exact h2
        · have h1 := own_far_any (own_far_any HH7.out (q := w.heap.size + 1) (o := 0) (u := .slice (some ⟨g, 0, none⟩) n cap1) (by omega)) (q := w.heap.size + 1) (o := 1) (u := .slice (some ⟨g2, 0, none⟩) m cap2) (by omega)
          have h2 := own_le h1 (B' := w.heap.size) (by omega)
          rw [← show m = H.length from Hm.out]
          exact h2
        · exact (HB6.out.setCell (p := ⟨w.heap.size + 1, 0, none⟩) (Nat.le_succ _) _).setCell (p := ⟨w.heap.size + 1, 1, none⟩) (Nat.le_succ _) _
    · go_wp2_with fail
      have HB' : Hid (Below W0.heap.size W0 (V1.alloc (.cells #[] 73))) := hide (below_alloc HB.out _)
      refine ⟨later_of HB'.out, ?_⟩
      replace F_b6 := hide (World.ownsRow.alloc F_b6.out (.cells #[] 73))
      have N_b10_b6 : Hid (V1.heap.size ≠ b6) := hide (by have := L_b6.out; omega)
      replace L_b6 : Hid (b6 < (V1.alloc (.cells #[] 73)).heap.size) := hide (by have := L_b6.out; simp; omega)
      have F_b10 : Hid ((V1.alloc (.cells #[] 73)).ownsRow W0.heap.size 73 2 (.slice (some ⟨V1.heap.size, 0, none⟩) 0 0) 0 []) := hide (World.ownsRow_made V1 #[] 0 HB.out.size (Nat.zero_le _) rfl)
      have L_b10 : Hid (V1.heap.size < (V1.alloc (.cells #[] 73)).heap.size) := hide (by simp)
      clear HB
      have HB := hide HB'.out
      clear HB'
      generalize (V1.alloc (.cells #[] 73)) = V2 at *
      generalize V1.heap.size = b10 at *
      refine wpAnyS_two 3 9 (by kernel_rfl) (by simp; rfl) (by simp; rfl) rfl rfl rfl rfl (fun K hK => ?_) (fun K hK => ?_)
      · refine wp_append_at (.tmp 6) (.tmp 8) 24 rfl W0.heap.size 36 i0 _ 2 16 Tryz.underlying24 Hi0.out Hz.out.1 Hz.out.2.1 Hz.out.2.2 rfl (by decide) b6 0 0 [] rfl F_b6.out ⟨bA, oA, none⟩ n c (M.flatMap mcells) rfl HLM.out (Rd.add (HR0.out.1.below HB.out)) (mcells_one M) (by unfold maxLen; omega) (by omega) HB.out.size (fun g cap1 V3 hown hgrow hg hlt => ?_)
        rw [Nat.zero_add] at hown ⊢
        have HB' := hide (HB.out.grown hgrow HB.out.size (fun k hk => by injection hk with hk; have := (F_b6.out.lt b6 rfl).1; omega))
        replace F_b10 := hide (own_apart F_b10.out hgrow (fun k hk e => by simp [Value.ownBlock] at hk; injection e with e; exact N_b10_b6.out (by omega)))
        have N_b10_g : Hid (g ≠ b10) := hide (by have := L_b10.out; have := N_b10_b6.out; omega)
        replace L_b10 : Hid (b10 < V3.heap.size) := hide (by have := L_b10.out; have := hgrow.size; omega)
        clear N_b10_b6
        have F_g : Hid (V3.ownsRow W0.heap.size 36 2 (.slice (some ⟨g, 0, none⟩) n cap1) n (M.flatMap mcells)) := hide (by simpa using hown)
        have L_g : Hid (g < V3.heap.size) := hide hlt
        clear HB hown hgrow hg hlt F_b6 L_b6
        have HB := hide HB'.out
        clear HB'
        refine hK _ _ ⟨later_of HB.out, ?_⟩
        simp only [Act.put, List.setIfInBounds_toArray, List.set_cons_succ, List.set_cons_zero]
        refine wpAnyS_two 7 9 (by kernel_rfl) (by simp; rfl) (by simp; rfl) rfl rfl rfl rfl (fun K hK => ?_) (fun K hK => ?_)
        · refine wp_append_nilN (.tmp 10) (.tmp 12) 25 rfl W0.heap.size 73 i1 2 Tryz.underlying25 Hi1.out (.slice (some ⟨b10, 0, none⟩) 0 0) 0 [] rfl F_b10.out d (show Value.slice none m d = .slice none 0 d by rw [HM0.out]) (hK _ _ ⟨later_of HB.out, ?_⟩)
          simp only [Act.put, List.setIfInBounds_toArray, List.set_cons_succ, List.set_cons_zero]
          obtain ⟨cap2, hc2⟩ : ∃ cap2, Value.slice (some ⟨b10, 0, none⟩) 0 0 = .slice (some ⟨b10, 0, none⟩) m cap2 := ⟨0, by rw [HM0.out]⟩
          rw [hc2]
          have F_g2 : Hid (V3.ownsRow W0.heap.size 73 2 (.slice (some ⟨b10, 0, none⟩) m cap2) m (H.flatMap mcells)) := hide (by rw [← hc2, HM0.out, HH0.out]; exact F_b10.out)
          have L_g2 := L_b10
          have N_g_g2 : Hid (b10 ≠ g) := hide (by have := N_b10_g.out; omega)
          clear N_b10_g
          clear F_b10 L_b10 hc2
          generalize V3 = V4 at *
          generalize b10 = g2 at *
          refine wpAnyS_take_all [8] 2 rfl (by kernel_rfl) (by intro c a d v w h; cases d <;> exact h) (by kernel_rfl) (by simp; rfl) rfl (later_of HB.out) ?_
          repeat (go_big_quiet_step (fail))
          refine wpQuiet_nil ?_
          refine wpAnyS_only 9 (by kernel_rfl) (by simp; rfl) rfl rfl (fun K hK => ?_)
          go_wp2_with fail
          have HB' : Hid (Below W0.heap.size W0 (V4.alloc (.cells #[.slice none 0 0, .slice none 0 0] 27))) := hide (below_alloc HB.out _)
          refine ⟨later_of HB'.out, ?_⟩
          replace F_g := hide (World.ownsRow.alloc F_g.out (.cells #[.slice none 0 0, .slice none 0 0] 27))
          have N_g_q : Hid (V4.heap.size ≠ g) := hide (by have := L_g.out; omega)
          replace L_g : Hid (g < (V4.alloc (.cells #[.slice none 0 0, .slice none 0 0] 27)).heap.size) := hide (by have := L_g.out; simp; omega)
          replace F_g2 := hide (World.ownsRow.alloc F_g2.out (.cells #[.slice none 0 0, .slice none 0 0] 27))
          have N_g2_q : Hid (V4.heap.size ≠ g2) := hide (by have := L_g2.out; omega)
          replace L_g2 : Hid (g2 < (V4.alloc (.cells #[.slice none 0 0, .slice none 0 0] 27)).heap.size) := hide (by have := L_g2.out; simp; omega)
          have F_q := hide (Row.new V4 #[.slice none 0 0, .slice none 0 0] 27)
          have Q0 : Hid (W0.heap.size ≤ V4.heap.size) := hide HB.out.size
          have L_q : Hid (V4.heap.size < (V4.alloc (.cells #[.slice none 0 0, .slice none 0 0] 27)).heap.size) := hide (by simp)
          clear HB
          have HB := hide HB'.out
          clear HB'
          generalize (V4.alloc (.cells #[.slice none 0 0, .slice none 0 0] 27)) = V5 at *
          generalize V4.heap.size = q at *
          obtain ⟨W3, rfl⟩ : ∃ x, x = V5 := ⟨_, rfl⟩
          have HQ4 := hide F_q.out
          have HB4 := hide HB.out
          have HQ0 := hide Q0.out
          have HV4 := hide (own_le (B' := w.heap.size + 2) F_g.out (by have := HW0.out; omega))
          have HH4 := hide (own_le (B' := w.heap.size + 2) F_g2.out (by have := HW0.out; omega))
          have HF4 := hide (HF0.out.below HB.out)
          have HNV : Hid (g ≠ q) := hide (by have := N_g_q.out; omega)
          have HNH : Hid (∀ k, (Value.slice (some ⟨g2, 0, none⟩) m cap2).ownBlock = some k → k ≠ q ∧ k ≠ g) := hide (fun k hk => by simp [Value.ownBlock] at hk; subst hk; have h1 := N_g2_q.out; have h2 := N_g_g2.out; omega)
          clear HB F_g F_g2 F_q
          have r0 := HQ4.out.2.1 0 _ rfl
          have r1 := HQ4.out.2.1 1 _ rfl
          have r2 := HQ4.out.free 0
          have r3 := HQ4.out.free 1
          have hq4 := HQ4.out.1
          have HS4 : Hid (Below W0.heap.size W0 ((W3.setCell ⟨q, 0, none⟩ (.slice (some ⟨g, 0, none⟩) n cap1)).setCell ⟨q, 1, none⟩ (.slice (some ⟨g2, 0, none⟩) m cap2))) := hide ((HB4.out.setCell HQ0.out _).setCell HQ0.out _)
          have HQ5 : Hid (Row ((W3.setCell ⟨q, 0, none⟩ (.slice (some ⟨g, 0, none⟩) n cap1)).setCell ⟨q, 1, none⟩ (.slice (some ⟨g2, 0, none⟩) m cap2)) q [.slice (some ⟨g, 0, none⟩) n cap1, .slice (some ⟨g2, 0, none⟩) m cap2]) := hide ((HQ4.out.set (k := 0) (by simp) _).set (k := 1) (by simp) _)
          refine wpAnyS_only 10 (by kernel_rfl) (by simp; rfl) rfl rfl (fun K hK => ?_)
          go_wp2_with fail
          refine ⟨later_of HS4.out, ?_⟩
          refine wpAnyH_done (by kernel_rfl) ?_ _
          have HV5 := hide (ownsRow_far (ownsRow_far HV4.out (q := q) (o := 0) (u := .slice (some ⟨g, 0, none⟩) n cap1) (fun e => HNV.out e.symm)) (q := q) (o := 1) (u := .slice (some ⟨g2, 0, none⟩) m cap2) (fun e => HNV.out e.symm))
          have HH5 := hide (own_apart (own_apart HH4.out (grown_set (p := ⟨q, 0, none⟩) (.slice (some ⟨g, 0, none⟩) n cap1) rfl) (fun k hk e => (HNH.out k hk).1 (by injection e))) (grown_set (p := ⟨q, 1, none⟩) (.slice (some ⟨g2, 0, none⟩) m cap2) rfl) (fun k hk e => (HNH.out k hk).1 (by injection e)))
          have HF5 := hide ((HF4.out.far (p := ⟨q, 0, none⟩) (by have := HQ0.out; have := HW0.out; simp; omega) (.slice (some ⟨g, 0, none⟩) n cap1)).far (p := ⟨q, 1, none⟩) (by have := HQ0.out; have := HW0.out; simp; omega) (.slice (some ⟨g2, 0, none⟩) m cap2))
          have hgq : ¬ g = q := HNV.out
          have hgw : w.heap.size < q := by have := HQ0.out; have := HW0.out; omega
          have hgb : w.heap.size + 2 ≤ g := (HV4.out.lt g rfl).1
          have hgw2 : ¬ g = w.heap.size := by omega
          have hgw3 : ¬ g = w.heap.size + 1 := by omega
          have HC4 := hide (cell_on hc0 HS4.out)
          clear hc0 hc1
          generalize (W3.setCell ⟨q, 0, none⟩ (.slice (some ⟨g, 0, none⟩) n cap1)).setCell ⟨q, 1, none⟩ (.slice (some ⟨g2, 0, none⟩) m cap2) = W4 at *
          clear r0 r1 r2 r3 hq4
          have r0 := HQ5.out.2.1 0 _ rfl
          have r1 := HQ5.out.2.1 1 _ rfl
          have hq4 := HQ5.out.1
          have f0 := HF5.out.2.1 0 _ rfl
          have f1 := HF5.out.2.1 1 _ rfl
          have f2 := HF5.out.free 0
          have f3 := HF5.out.free 1
          have hf4 := HF5.out.1
          obtain ⟨⟨p0, p1⟩, hp⟩ : ∃ h, M[i]? = some h := ⟨_, List.getElem?_eq_getElem (by rw [← Hn.out]; exact hi)⟩
          obtain ⟨g', off', hA, -, d0, d1⟩ := (own_rd HV5.out).get2 (fun _ => rfl) hp rfl
          simp only [Option.some.injEq, Addr.mk.injEq, and_true] at hA
          obtain ⟨rfl, rfl⟩ := hA
          have d2 := World.ownsRow.frozenAt HV5.out (i * 2 + 1)
          have hg4 := (HV5.out.lt g rfl).2
          rw [Nat.zero_add] at d1
          dsimp only at d1
          have e0 := World.ownsRow.frozenAt HV5.out (i * 2)
          rw [Nat.zero_add] at d0
          dsimp only at d0
          have HST := (World.ownsRow.stored (World.ownsRow.stored HV5.out (i * 2 + 0) (.int .i64 p0)).1 (i * 2 + 1) (.int .i64 0)).1
          rw [flat_set mcells 2 (fun _ => rfl) 0 (by omega) (.int .i64 p0) (p0, p1) M i _ hp rfl, flat_set mcells 2 (fun _ => rfl) 1 (by omega) (.int .i64 0) (par M i, 0) (M.set i (p0, p1)) i (p0, p1) (by rw [List.getElem?_set_self (by rw [← Hn.out]; exact hi)]) (by rw [par_some hp]; rfl), List.set_set, Nat.add_zero] at HST
          have HST := hide HST
          have hcx := HC4.out
          have HRX := hide ((HR0.out.1.below HS4.out).get2 (fun _ => rfl) hp rfl)
          obtain ⟨b9, o9, hA9, hb9, d3, d4⟩ := HRX.out
          simp only [Option.some.injEq, Addr.mk.injEq, and_true] at hA9
          obtain ⟨rfl, rfl⟩ := hA9
          dsimp only at d3 d4
          clear hp
          go_wp2_with fail
          go_region
          have HB6 := hide (((below_step HB0.out HS4.out).setCell (p := ⟨g, i * 2, none⟩) (show w.heap.size ≤ g by omega) (.int .i64 p0)).setCell (p := ⟨g, i * 2 + 1, none⟩) (show w.heap.size ≤ g by omega) (.int .i64 0)).drew
          have HH6 := hide (own_apart (own_apart HH5.out (grown_set (p := ⟨g, i * 2, none⟩) (.int .i64 p0) rfl) (fun k hk e => (HNH.out k hk).2 (by injection e))) (grown_set (p := ⟨g, i * 2 + 1, none⟩) (.int .i64 0) rfl) (fun k hk e => (HNH.out k hk).2 (by injection e)))
          have HF6 := hide ((HF5.out.far (p := ⟨g, i * 2, none⟩) (by simp; omega) (.int .i64 p0)).far (p := ⟨g, i * 2 + 1, none⟩) (by simp; omega) (.int .i64 0)).drew
          have HQ6 := hide ((HQ5.out.far (p := ⟨g, i * 2, none⟩) (by simp; omega) (.int .i64 p0)).far (p := ⟨g, i * 2 + 1, none⟩) (by simp; omega) (.int .i64 0)).drew
          have HV6 : Hid (((W4.setCell ⟨g, i * 2, none⟩ (.int .i64 p0)).setCell ⟨g, i * 2 + 1, none⟩ (.int .i64 0)).drew.ownsRow (w.heap.size + 2) 36 2 (.slice (some ⟨g, 0, none⟩) n cap1) n ((closeM M i).flatMap mcells)) := hide HST.out
          have HH7 : Hid (((W4.setCell ⟨g, i * 2, none⟩ (.int .i64 p0)).setCell ⟨g, i * 2 + 1, none⟩ (.int .i64 0)).drew.ownsRow (w.heap.size + 2) 73 2 (.slice (some ⟨g2, 0, none⟩) m cap2) m (H.flatMap mcells)) := hide HH6.out
          clear HST HH6 r0 r1 hq4 f0 f1 f2 f3 hf4 d0 d1 d2 d3 d4 e0 hg4 hcx HC4 HRX
          generalize ((W4.setCell ⟨g, i * 2, none⟩ (.int .i64 p0)).setCell ⟨g, i * 2 + 1, none⟩ (.int .i64 0)).drew = W6 at *
          have r0 := HQ6.out.2.1 0 _ rfl
          have r1 := HQ6.out.2.1 1 _ rfl
          have hq4 := HQ6.out.1
          have f0 := HF6.out.2.1 0 _ rfl
          have f1 := HF6.out.2.1 1 _ rfl
          have f2 := HF6.out.free 0
          have f3 := HF6.out.free 1
          have hf4 := HF6.out.1
          have hq5 : ¬ q = w.heap.size + 1 := by have := HQ0.out; have := HW0.out; omega
          go_wp2
          refine bodyPost_ret (v := .agg #[.slice (some ⟨g, 0, none⟩) n cap1, .slice (some ⟨g2, 0, none⟩) m cap2]) (by simp [results, Tryz.results54, go_sem, *]) rfl ⟨⟨_, _, rfl, ?_, ?_⟩, ?_⟩
          · have h := own_far_any (own_far_any HV6.out (q := w.heap.size + 1) (o := 0) (u := .slice (some ⟨g, 0, none⟩) n cap1) (by omega)) (q := w.heap.size + 1) (o := 1) (u := .slice (some ⟨g2, 0, none⟩) m cap2) (by omega)
            have h2 := own_le h (B' := w.heap.size) (by omega)
            rw [show (closeM M i).length = n by rw [closeM, List.length_set]; exact Hn.out.symm]
            exact h2
          · have h1 := own_far_any (own_far_any HH7.out (q := w.heap.size + 1) (o := 0) (u := .slice (some ⟨g, 0, none⟩) n cap1) (by omega)) (q := w.heap.size + 1) (o := 1) (u := .slice (some ⟨g2, 0, none⟩) m cap2) (by omega)
            have h2 := own_le h1 (B' := w.heap.size) (by omega)
            rw [← show m = H.length from Hm.out]
            exact h2
          · exact (HB6.out.setCell (p := ⟨w.heap.size + 1, 0, none⟩) (Nat.le_succ _) _).setCell (p := ⟨w.heap.size + 1, 1, none⟩) (Nat.le_succ _) _
        · go_wp2_with fail
          have HB' : Hid (Below W0.heap.size W0 (V3.alloc (.cells #[.slice none 0 0, .slice none 0 0] 27))) := hide (below_alloc HB.out _)
          refine ⟨later_of HB'.out, ?_⟩
          replace F_b10 := hide (World.ownsRow.alloc F_b10.out (.cells #[.slice none 0 0, .slice none 0 0] 27))
          have N_b10_q : Hid (V3.heap.size ≠ b10) := hide (by have := L_b10.out; omega)
          replace L_b10 : Hid (b10 < (V3.alloc (.cells #[.slice none 0 0, .slice none 0 0] 27)).heap.size) := hide (by have := L_b10.out; simp; omega)
          replace F_g := hide (World.ownsRow.alloc F_g.out (.cells #[.slice none 0 0, .slice none 0 0] 27))
          have N_g_q : Hid (V3.heap.size ≠ g) := hide (by have := L_g.out; omega)
          replace L_g : Hid (g < (V3.alloc (.cells #[.slice none 0 0, .slice none 0 0] 27)).heap.size) := hide (by have := L_g.out; simp; omega)
          have F_q := hide (Row.new V3 #[.slice none 0 0, .slice none 0 0] 27)
          have Q0 : Hid (W0.heap.size ≤ V3.heap.size) := hide HB.out.size
          have L_q : Hid (V3.heap.size < (V3.alloc (.cells #[.slice none 0 0, .slice none 0 0] 27)).heap.size) := hide (by simp)
          clear HB
          have HB := hide HB'.out
          clear HB'
          generalize (V3.alloc (.cells #[.slice none 0 0, .slice none 0 0] 27)) = V4 at *
          generalize V3.heap.size = q at *
          refine wpAnyS_only 7 (by kernel_rfl) (by simp; rfl) rfl rfl (fun K hK => ?_)
          refine wp_append_nilN (.tmp 10) (.tmp 12) 25 rfl W0.heap.size 73 i1 2 Tryz.underlying25 Hi1.out (.slice (some ⟨b10, 0, none⟩) 0 0) 0 [] rfl F_b10.out d (show Value.slice none m d = .slice none 0 d by rw [HM0.out]) (hK _ _ ⟨later_of HB.out, ?_⟩)
          simp only [Act.put, List.setIfInBounds_toArray, List.set_cons_succ, List.set_cons_zero]
          obtain ⟨cap2, hc2⟩ : ∃ cap2, Value.slice (some ⟨b10, 0, none⟩) 0 0 = .slice (some ⟨b10, 0, none⟩) m cap2 := ⟨0, by rw [HM0.out]⟩
          rw [hc2]
          have F_g2 : Hid (V4.ownsRow W0.heap.size 73 2 (.slice (some ⟨b10, 0, none⟩) m cap2) m (H.flatMap mcells)) := hide (by rw [← hc2, HM0.out, HH0.out]; exact F_b10.out)
          have L_g2 := L_b10
          have N_g_g2 : Hid (b10 ≠ g) := hide (by have := N_b10_g.out; omega)
          clear N_b10_g
          have N_g2_q : Hid (b10 ≠ q) := hide (by have := N_b10_q.out; omega)
          clear N_b10_q
          clear F_b10 L_b10 hc2
          generalize V4 = V5 at *
          generalize b10 = g2 at *
          refine wpAnyS_take_all [8] 1 rfl (by kernel_rfl) (by intro c a d v w h; cases d <;> exact h) (by kernel_rfl) (by simp; rfl) rfl (later_of HB.out) ?_
          repeat (go_big_quiet_step (fail))
          refine wpQuiet_nil ?_
          obtain ⟨W3, rfl⟩ : ∃ x, x = V5 := ⟨_, rfl⟩
          have HQ4 := hide F_q.out
          have HB4 := hide HB.out
          have HQ0 := hide Q0.out
          have HV4 := hide (own_le (B' := w.heap.size + 2) F_g.out (by have := HW0.out; omega))
          have HH4 := hide (own_le (B' := w.heap.size + 2) F_g2.out (by have := HW0.out; omega))
          have HF4 := hide (HF0.out.below HB.out)
          have HNV : Hid (g ≠ q) := hide (by have := N_g_q.out; omega)
          have HNH : Hid (∀ k, (Value.slice (some ⟨g2, 0, none⟩) m cap2).ownBlock = some k → k ≠ q ∧ k ≠ g) := hide (fun k hk => by simp [Value.ownBlock] at hk; subst hk; have h1 := N_g2_q.out; have h2 := N_g_g2.out; omega)
          clear HB F_g F_g2 F_q
          have r0 := HQ4.out.2.1 0 _ rfl
          have r1 := HQ4.out.2.1 1 _ rfl
          have r2 := HQ4.out.free 0
          have r3 := HQ4.out.free 1
          have hq4 := HQ4.out.1
          have HS4 : Hid (Below W0.heap.size W0 ((W3.setCell ⟨q, 0, none⟩ (.slice (some ⟨g, 0, none⟩) n cap1)).setCell ⟨q, 1, none⟩ (.slice (some ⟨g2, 0, none⟩) m cap2))) := hide ((HB4.out.setCell HQ0.out _).setCell HQ0.out _)
          have HQ5 : Hid (Row ((W3.setCell ⟨q, 0, none⟩ (.slice (some ⟨g, 0, none⟩) n cap1)).setCell ⟨q, 1, none⟩ (.slice (some ⟨g2, 0, none⟩) m cap2)) q [.slice (some ⟨g, 0, none⟩) n cap1, .slice (some ⟨g2, 0, none⟩) m cap2]) := hide ((HQ4.out.set (k := 0) (by simp) _).set (k := 1) (by simp) _)
          refine wpAnyS_only 10 (by kernel_rfl) (by simp; rfl) rfl rfl (fun K hK => ?_)
          go_wp2_with fail
          refine ⟨later_of HS4.out, ?_⟩
          refine wpAnyH_done (by kernel_rfl) ?_ _
          have HV5 := hide (ownsRow_far (ownsRow_far HV4.out (q := q) (o := 0) (u := .slice (some ⟨g, 0, none⟩) n cap1) (fun e => HNV.out e.symm)) (q := q) (o := 1) (u := .slice (some ⟨g2, 0, none⟩) m cap2) (fun e => HNV.out e.symm))
          have HH5 := hide (own_apart (own_apart HH4.out (grown_set (p := ⟨q, 0, none⟩) (.slice (some ⟨g, 0, none⟩) n cap1) rfl) (fun k hk e => (HNH.out k hk).1 (by injection e))) (grown_set (p := ⟨q, 1, none⟩) (.slice (some ⟨g2, 0, none⟩) m cap2) rfl) (fun k hk e => (HNH.out k hk).1 (by injection e)))
          have HF5 := hide ((HF4.out.far (p := ⟨q, 0, none⟩) (by have := HQ0.out; have := HW0.out; simp; omega) (.slice (some ⟨g, 0, none⟩) n cap1)).far (p := ⟨q, 1, none⟩) (by have := HQ0.out; have := HW0.out; simp; omega) (.slice (some ⟨g2, 0, none⟩) m cap2))
          have hgq : ¬ g = q := HNV.out
          have hgw : w.heap.size < q := by have := HQ0.out; have := HW0.out; omega
          have hgb : w.heap.size + 2 ≤ g := (HV4.out.lt g rfl).1
          have hgw2 : ¬ g = w.heap.size := by omega
          have hgw3 : ¬ g = w.heap.size + 1 := by omega
          have HC4 := hide (cell_on hc0 HS4.out)
          clear hc0 hc1
          generalize (W3.setCell ⟨q, 0, none⟩ (.slice (some ⟨g, 0, none⟩) n cap1)).setCell ⟨q, 1, none⟩ (.slice (some ⟨g2, 0, none⟩) m cap2) = W4 at *
          clear r0 r1 r2 r3 hq4
          have r0 := HQ5.out.2.1 0 _ rfl
          have r1 := HQ5.out.2.1 1 _ rfl
          have hq4 := HQ5.out.1
          have f0 := HF5.out.2.1 0 _ rfl
          have f1 := HF5.out.2.1 1 _ rfl
          have f2 := HF5.out.free 0
          have f3 := HF5.out.free 1
          have hf4 := HF5.out.1
          obtain ⟨⟨p0, p1⟩, hp⟩ : ∃ h, M[i]? = some h := ⟨_, List.getElem?_eq_getElem (by rw [← Hn.out]; exact hi)⟩
          obtain ⟨g', off', hA, -, d0, d1⟩ := (own_rd HV5.out).get2 (fun _ => rfl) hp rfl
          simp only [Option.some.injEq, Addr.mk.injEq, and_true] at hA
          obtain ⟨rfl, rfl⟩ := hA
          have d2 := World.ownsRow.frozenAt HV5.out (i * 2 + 1)
          have hg4 := (HV5.out.lt g rfl).2
          rw [Nat.zero_add] at d1
          dsimp only at d1
          have e0 := World.ownsRow.frozenAt HV5.out (i * 2)
          rw [Nat.zero_add] at d0
          dsimp only at d0
          have HST := (World.ownsRow.stored (World.ownsRow.stored HV5.out (i * 2 + 0) (.int .i64 p0)).1 (i * 2 + 1) (.int .i64 0)).1
          rw [flat_set mcells 2 (fun _ => rfl) 0 (by omega) (.int .i64 p0) (p0, p1) M i _ hp rfl, flat_set mcells 2 (fun _ => rfl) 1 (by omega) (.int .i64 0) (par M i, 0) (M.set i (p0, p1)) i (p0, p1) (by rw [List.getElem?_set_self (by rw [← Hn.out]; exact hi)]) (by rw [par_some hp]; rfl), List.set_set, Nat.add_zero] at HST
          have HST := hide HST
          have hcx := HC4.out
          have HRX := hide ((HR0.out.1.below HS4.out).get2 (fun _ => rfl) hp rfl)
          obtain ⟨b9, o9, hA9, hb9, d3, d4⟩ := HRX.out
          simp only [Option.some.injEq, Addr.mk.injEq, and_true] at hA9
          obtain ⟨rfl, rfl⟩ := hA9
          dsimp only at d3 d4
          clear hp
          go_wp2_with fail
          go_region
          have HB6 := hide (((below_step HB0.out HS4.out).setCell (p := ⟨g, i * 2, none⟩) (show w.heap.size ≤ g by omega) (.int .i64 p0)).setCell (p := ⟨g, i * 2 + 1, none⟩) (show w.heap.size ≤ g by omega) (.int .i64 0)).drew
          have HH6 := hide (own_apart (own_apart HH5.out (grown_set (p := ⟨g, i * 2, none⟩) (.int .i64 p0) rfl) (fun k hk e => (HNH.out k hk).2 (by injection e))) (grown_set (p := ⟨g, i * 2 + 1, none⟩) (.int .i64 0) rfl) (fun k hk e => (HNH.out k hk).2 (by injection e)))
          have HF6 := hide ((HF5.out.far (p := ⟨g, i * 2, none⟩) (by simp; omega) (.int .i64 p0)).far (p := ⟨g, i * 2 + 1, none⟩) (by simp; omega) (.int .i64 0)).drew
          have HQ6 := hide ((HQ5.out.far (p := ⟨g, i * 2, none⟩) (by simp; omega) (.int .i64 p0)).far (p := ⟨g, i * 2 + 1, none⟩) (by simp; omega) (.int .i64 0)).drew
          have HV6 : Hid (((W4.setCell ⟨g, i * 2, none⟩ (.int .i64 p0)).setCell ⟨g, i * 2 + 1, none⟩ (.int .i64 0)).drew.ownsRow (w.heap.size + 2) 36 2 (.slice (some ⟨g, 0, none⟩) n cap1) n ((closeM M i).flatMap mcells)) := hide HST.out
          have HH7 : Hid (((W4.setCell ⟨g, i * 2, none⟩ (.int .i64 p0)).setCell ⟨g, i * 2 + 1, none⟩ (.int .i64 0)).drew.ownsRow (w.heap.size + 2) 73 2 (.slice (some ⟨g2, 0, none⟩) m cap2) m (H.flatMap mcells)) := hide HH6.out
          clear HST HH6 r0 r1 hq4 f0 f1 f2 f3 hf4 d0 d1 d2 d3 d4 e0 hg4 hcx HC4 HRX
          generalize ((W4.setCell ⟨g, i * 2, none⟩ (.int .i64 p0)).setCell ⟨g, i * 2 + 1, none⟩ (.int .i64 0)).drew = W6 at *
          have r0 := HQ6.out.2.1 0 _ rfl
          have r1 := HQ6.out.2.1 1 _ rfl
          have hq4 := HQ6.out.1
          have f0 := HF6.out.2.1 0 _ rfl
          have f1 := HF6.out.2.1 1 _ rfl
          have f2 := HF6.out.free 0
          have f3 := HF6.out.free 1
          have hf4 := HF6.out.1
          have hq5 : ¬ q = w.heap.size + 1 := by have := HQ0.out; have := HW0.out; omega
          go_wp2
          refine bodyPost_ret (v := .agg #[.slice (some ⟨g, 0, none⟩) n cap1, .slice (some ⟨g2, 0, none⟩) m cap2]) (by simp [results, Tryz.results54, go_sem, *]) rfl ⟨⟨_, _, rfl, ?_, ?_⟩, ?_⟩
          · have h := own_far_any (own_far_any HV6.out (q := w.heap.size + 1) (o := 0) (u := .slice (some ⟨g, 0, none⟩) n cap1) (by omega)) (q := w.heap.size + 1) (o := 1) (u := .slice (some ⟨g2, 0, none⟩) m cap2) (by omega)
            have h2 := own_le h (B' := w.heap.size) (by omega)
            rw [show (closeM M i).length = n by rw [closeM, List.length_set]; exact Hn.out.symm]
            exact h2
          · have h1 := own_far_any (own_far_any HH7.out (q := w.heap.size + 1) (o := 0) (u := .slice (some ⟨g, 0, none⟩) n cap1) (by omega)) (q := w.heap.size + 1) (o := 1) (u := .slice (some ⟨g2, 0, none⟩) m cap2) (by omega)
            have h2 := own_le h1 (B' := w.heap.size) (by omega)
            rw [← show m = H.length from Hm.out]
            exact h2
          · exact (HB6.out.setCell (p := ⟨w.heap.size + 1, 0, none⟩) (Nat.le_succ _) _).setCell (p := ⟨w.heap.size + 1, 1, none⟩) (Nat.le_succ _) _
      · go_wp2_with fail
        have HB' : Hid (Below W0.heap.size W0 (V2.alloc (.cells #[.slice none 0 0, .slice none 0 0] 27))) := hide (below_alloc HB.out _)
        refine ⟨later_of HB'.out, ?_⟩
        replace F_b6 := hide (World.ownsRow.alloc F_b6.out (.cells #[.slice none 0 0, .slice none 0 0] 27))
        have N_b6_q : Hid (V2.heap.size ≠ b6) := hide (by have := L_b6.out; omega)
        replace L_b6 : Hid (b6 < (V2.alloc (.cells #[.slice none 0 0, .slice none 0 0] 27)).heap.size) := hide (by have := L_b6.out; simp; omega)
        replace F_b10 := hide (World.ownsRow.alloc F_b10.out (.cells #[.slice none 0 0, .slice none 0 0] 27))
        have N_b10_q : Hid (V2.heap.size ≠ b10) := hide (by have := L_b10.out; omega)
        replace L_b10 : Hid (b10 < (V2.alloc (.cells #[.slice none 0 0, .slice none 0 0] 27)).heap.size) := hide (by have := L_b10.out; simp; omega)
        have F_q := hide (Row.new V2 #[.slice none 0 0, .slice none 0 0] 27)
        have Q0 : Hid (W0.heap.size ≤ V2.heap.size) := hide HB.out.size
        have L_q : Hid (V2.heap.size < (V2.alloc (.cells #[.slice none 0 0, .slice none 0 0] 27)).heap.size) := hide (by simp)
        clear HB
        have HB := hide HB'.out
        clear HB'
        generalize (V2.alloc (.cells #[.slice none 0 0, .slice none 0 0] 27)) = V3 at *
        generalize V2.heap.size = q at *
        refine wpAnyS_only 3 (by kernel_rfl) (by simp; rfl) rfl rfl (fun K hK => ?_)
        refine wp_append_at (.tmp 6) (.tmp 8) 24 rfl W0.heap.size 36 i0 _ 2 16 Tryz.underlying24 Hi0.out Hz.out.1 Hz.out.2.1 Hz.out.2.2 rfl (by decide) b6 0 0 [] rfl F_b6.out ⟨bA, oA, none⟩ n c (M.flatMap mcells) rfl HLM.out (Rd.add (HR0.out.1.below HB.out)) (mcells_one M) (by unfold maxLen; omega) (by omega) HB.out.size (fun g cap1 V4 hown hgrow hg hlt => ?_)
        rw [Nat.zero_add] at hown ⊢
        have HB' := hide (HB.out.grown hgrow HB.out.size (fun k hk => by injection hk with hk; have := (F_b6.out.lt b6 rfl).1; omega))
        replace F_b10 := hide (own_apart F_b10.out hgrow (fun k hk e => by simp [Value.ownBlock] at hk; injection e with e; exact N_b10_b6.out (by omega)))
        have N_b10_g : Hid (g ≠ b10) := hide (by have := L_b10.out; have := N_b10_b6.out; omega)
        replace F_q := hide (F_q.out.grown hgrow (fun e => by injection e with e; exact N_b6_q.out (by omega)))
        have N_g_q : Hid (g ≠ q) := hide (by have := L_q.out; have := N_b6_q.out; omega)
        replace L_b10 : Hid (b10 < V4.heap.size) := hide (by have := L_b10.out; have := hgrow.size; omega)
        clear N_b10_b6
        replace L_q : Hid (q < V4.heap.size) := hide (by have := L_q.out; have := hgrow.size; omega)
        clear N_b6_q
        have F_g : Hid (V4.ownsRow W0.heap.size 36 2 (.slice (some ⟨g, 0, none⟩) n cap1) n (M.flatMap mcells)) := hide (by simpa using hown)
        have L_g : Hid (g < V4.heap.size) := hide hlt
        clear HB hown hgrow hg hlt F_b6 L_b6
        have HB := hide HB'.out
        clear HB'
        refine hK _ _ ⟨later_of HB.out, ?_⟩
        simp only [Act.put, List.setIfInBounds_toArray, List.set_cons_succ, List.set_cons_zero]
        refine wpAnyS_only 7 (by kernel_rfl) (by simp; rfl) rfl rfl (fun K hK => ?_)
        refine wp_append_nilN (.tmp 10) (.tmp 12) 25 rfl W0.heap.size 73 i1 2 Tryz.underlying25 Hi1.out (.slice (some ⟨b10, 0, none⟩) 0 0) 0 [] rfl F_b10.out d (show Value.slice none m d = .slice none 0 d by rw [HM0.out]) (hK _ _ ⟨later_of HB.out, ?_⟩)
        simp only [Act.put, List.setIfInBounds_toArray, List.set_cons_succ, List.set_cons_zero]
        obtain ⟨cap2, hc2⟩ : ∃ cap2, Value.slice (some ⟨b10, 0, none⟩) 0 0 = .slice (some ⟨b10, 0, none⟩) m cap2 := ⟨0, by rw [HM0.out]⟩
        rw [hc2]
        have F_g2 : Hid (V4.ownsRow W0.heap.size 73 2 (.slice (some ⟨b10, 0, none⟩) m cap2) m (H.flatMap mcells)) := hide (by rw [← hc2, HM0.out, HH0.out]; exact F_b10.out)
        have L_g2 := L_b10
        have N_g_g2 : Hid (b10 ≠ g) := hide (by have := N_b10_g.out; omega)
        clear N_b10_g
        have N_g2_q : Hid (b10 ≠ q) := hide (by have := N_b10_q.out; omega)
        clear N_b10_q
        clear F_b10 L_b10 hc2
        generalize V4 = V5 at *
        generalize b10 = g2 at *
        refine wpAnyS_take_all [8] 1 rfl (by kernel_rfl) (by intro c a d v w h; cases d <;> exact h) (by kernel_rfl) (by simp; rfl) rfl (later_of HB.out) ?_
        repeat (go_big_quiet_step (fail))
        refine wpQuiet_nil ?_
        obtain ⟨W3, rfl⟩ : ∃ x, x = V5 := ⟨_, rfl⟩
        have HQ4 := hide F_q.out
        have HB4 := hide HB.out
        have HQ0 := hide Q0.out
        have HV4 := hide (own_le (B' := w.heap.size + 2) F_g.out (by have := HW0.out; omega))
        have HH4 := hide (own_le (B' := w.heap.size + 2) F_g2.out (by have := HW0.out; omega))
        have HF4 := hide (HF0.out.below HB.out)
        have HNV : Hid (g ≠ q) := hide (by have := N_g_q.out; omega)
        have HNH : Hid (∀ k, (Value.slice (some ⟨g2, 0, none⟩) m cap2).ownBlock = some k → k ≠ q ∧ k ≠ g) := hide (fun k hk => by simp [Value.ownBlock] at hk; subst hk; have h1 := N_g2_q.out; have h2 := N_g_g2.out; omega)
        clear HB F_g F_g2 F_q
        have r0 := HQ4.out.2.1 0 _ rfl
        have r1 := HQ4.out.2.1 1 _ rfl
        have r2 := HQ4.out.free 0
        have r3 := HQ4.out.free 1
        have hq4 := HQ4.out.1
        have HS4 : Hid (Below W0.heap.size W0 ((W3.setCell ⟨q, 0, none⟩ (.slice (some ⟨g, 0, none⟩) n cap1)).setCell ⟨q, 1, none⟩ (.slice (some ⟨g2, 0, none⟩) m cap2))) := hide ((HB4.out.setCell HQ0.out _).setCell HQ0.out _)
        have HQ5 : Hid (Row ((W3.setCell ⟨q, 0, none⟩ (.slice (some ⟨g, 0, none⟩) n cap1)).setCell ⟨q, 1, none⟩ (.slice (some ⟨g2, 0, none⟩) m cap2)) q [.slice (some ⟨g, 0, none⟩) n cap1, .slice (some ⟨g2, 0, none⟩) m cap2]) := hide ((HQ4.out.set (k := 0) (by simp) _).set (k := 1) (by simp) _)
        refine wpAnyS_only 10 (by kernel_rfl) (by simp; rfl) rfl rfl (fun K hK => ?_)
        go_wp2_with fail
        refine ⟨later_of HS4.out, ?_⟩
        refine wpAnyH_done (by kernel_rfl) ?_ _
        have HV5 := hide (ownsRow_far (ownsRow_far HV4.out (q := q) (o := 0) (u := .slice (some ⟨g, 0, none⟩) n cap1) (fun e => HNV.out e.symm)) (q := q) (o := 1) (u := .slice (some ⟨g2, 0, none⟩) m cap2) (fun e => HNV.out e.symm))
        have HH5 := hide (own_apart (own_apart HH4.out (grown_set (p := ⟨q, 0, none⟩) (.slice (some ⟨g, 0, none⟩) n cap1) rfl) (fun k hk e => (HNH.out k hk).1 (by injection e))) (grown_set (p := ⟨q, 1, none⟩) (.slice (some ⟨g2, 0, none⟩) m cap2) rfl) (fun k hk e => (HNH.out k hk).1 (by injection e)))
        have HF5 := hide ((HF4.out.far (p := ⟨q, 0, none⟩) (by have := HQ0.out; have := HW0.out; simp; omega) (.slice (some ⟨g, 0, none⟩) n cap1)).far (p := ⟨q, 1, none⟩) (by have := HQ0.out; have := HW0.out; simp; omega) (.slice (some ⟨g2, 0, none⟩) m cap2))
        have hgq : ¬ g = q := HNV.out
        have hgw : w.heap.size < q := by have := HQ0.out; have := HW0.out; omega
        have hgb : w.heap.size + 2 ≤ g := (HV4.out.lt g rfl).1
        have hgw2 : ¬ g = w.heap.size := by omega
        have hgw3 : ¬ g = w.heap.size + 1 := by omega
        have HC4 := hide (cell_on hc0 HS4.out)
        clear hc0 hc1
        generalize (W3.setCell ⟨q, 0, none⟩ (.slice (some ⟨g, 0, none⟩) n cap1)).setCell ⟨q, 1, none⟩ (.slice (some ⟨g2, 0, none⟩) m cap2) = W4 at *
        clear r0 r1 r2 r3 hq4
        have r0 := HQ5.out.2.1 0 _ rfl
        have r1 := HQ5.out.2.1 1 _ rfl
        have hq4 := HQ5.out.1
        have f0 := HF5.out.2.1 0 _ rfl
        have f1 := HF5.out.2.1 1 _ rfl
        have f2 := HF5.out.free 0
        have f3 := HF5.out.free 1
        have hf4 := HF5.out.1
        obtain ⟨⟨p0, p1⟩, hp⟩ : ∃ h, M[i]? = some h := ⟨_, List.getElem?_eq_getElem (by rw [← Hn.out]; exact hi)⟩
        obtain ⟨g', off', hA, -, d0, d1⟩ := (own_rd HV5.out).get2 (fun _ => rfl) hp rfl
        simp only [Option.some.injEq, Addr.mk.injEq, and_true] at hA
        obtain ⟨rfl, rfl⟩ := hA
        have d2 := World.ownsRow.frozenAt HV5.out (i * 2 + 1)
        have hg4 := (HV5.out.lt g rfl).2
        rw [Nat.zero_add] at d1
        dsimp only at d1
        have e0 := World.ownsRow.frozenAt HV5.out (i * 2)
        rw [Nat.zero_add] at d0
        dsimp only at d0
        have HST := (World.ownsRow.stored (World.ownsRow.stored HV5.out (i * 2 + 0) (.int .i64 p0)).1 (i * 2 + 1) (.int .i64 0)).1
        rw [flat_set mcells 2 (fun _ => rfl) 0 (by omega) (.int .i64 p0) (p0, p1) M i _ hp rfl, flat_set mcells 2 (fun _ => rfl) 1 (by omega) (.int .i64 0) (par M i, 0) (M.set i (p0, p1)) i (p0, p1) (by rw [List.getElem?_set_self (by rw [← Hn.out]; exact hi)]) (by rw [par_some hp]; rfl), List.set_set, Nat.add_zero] at HST
        have HST := hide HST
        have hcx := HC4.out
        have HRX := hide ((HR0.out.1.below HS4.out).get2 (fun _ => rfl) hp rfl)
        obtain ⟨b9, o9, hA9, hb9, d3, d4⟩ := HRX.out
        simp only [Option.some.injEq, Addr.mk.injEq, and_true] at hA9
        obtain ⟨rfl, rfl⟩ := hA9
        dsimp only at d3 d4
        clear hp
        go_wp2_with fail
        go_region
        have HB6 := hide (((below_step HB0.out HS4.out).setCell (p := ⟨g, i * 2, none⟩) (show w.heap.size ≤ g by omega) (.int .i64 p0)).setCell (p := ⟨g, i * 2 + 1, none⟩) (show w.heap.size ≤ g by omega) (.int .i64 0)).drew
        have HH6 := hide (own_apart (own_apart HH5.out (grown_set (p := ⟨g, i * 2, none⟩) (.int .i64 p0) rfl) (fun k hk e => (HNH.out k hk).2 (by injection e))) (grown_set (p := ⟨g, i * 2 + 1, none⟩) (.int .i64 0) rfl) (fun k hk e => (HNH.out k hk).2 (by injection e)))
        have HF6 := hide ((HF5.out.far (p := ⟨g, i * 2, none⟩) (by simp; omega) (.int .i64 p0)).far (p := ⟨g, i * 2 + 1, none⟩) (by simp; omega) (.int .i64 0)).drew
        have HQ6 := hide ((HQ5.out.far (p := ⟨g, i * 2, none⟩) (by simp; omega) (.int .i64 p0)).far (p := ⟨g, i * 2 + 1, none⟩) (by simp; omega) (.int .i64 0)).drew
        have HV6 : Hid (((W4.setCell ⟨g, i * 2, none⟩ (.int .i64 p0)).setCell ⟨g, i * 2 + 1, none⟩ (.int .i64 0)).drew.ownsRow (w.heap.size + 2) 36 2 (.slice (some ⟨g, 0, none⟩) n cap1) n ((closeM M i).flatMap mcells)) := hide HST.out
        have HH7 : Hid (((W4.setCell ⟨g, i * 2, none⟩ (.int .i64 p0)).setCell ⟨g, i * 2 + 1, none⟩ (.int .i64 0)).drew.ownsRow (w.heap.size + 2) 73 2 (.slice (some ⟨g2, 0, none⟩) m cap2) m (H.flatMap mcells)) := hide HH6.out
        clear HST HH6 r0 r1 hq4 f0 f1 f2 f3 hf4 d0 d1 d2 d3 d4 e0 hg4 hcx HC4 HRX
        generalize ((W4.setCell ⟨g, i * 2, none⟩ (.int .i64 p0)).setCell ⟨g, i * 2 + 1, none⟩ (.int .i64 0)).drew = W6 at *
        have r0 := HQ6.out.2.1 0 _ rfl
        have r1 := HQ6.out.2.1 1 _ rfl
        have hq4 := HQ6.out.1
        have f0 := HF6.out.2.1 0 _ rfl
        have f1 := HF6.out.2.1 1 _ rfl
        have f2 := HF6.out.free 0
        have f3 := HF6.out.free 1
        have hf4 := HF6.out.1
        have hq5 : ¬ q = w.heap.size + 1 := by have := HQ0.out; have := HW0.out; omega
        go_wp2
        refine bodyPost_ret (v := .agg #[.slice (some ⟨g, 0, none⟩) n cap1, .slice (some ⟨g2, 0, none⟩) m cap2]) (by simp [results, Tryz.results54, go_sem, *]) rfl ⟨⟨_, _, rfl, ?_, ?_⟩, ?_⟩
        · have h := own_far_any (own_far_any HV6.out (q := w.heap.size + 1) (o := 0) (u := .slice (some ⟨g, 0, none⟩) n cap1) (by omega)) (q := w.heap.size + 1) (o := 1) (u := .slice (some ⟨g2, 0, none⟩) m cap2) (by omega)
          have h2 := own_le h (B' := w.heap.size) (by omega)
          rw [show (closeM M i).length = n by rw [closeM, List.length_set]; exact Hn.out.symm]
          exact h2
        · have h1 := own_far_any (own_far_any HH7.out (q := w.heap.size + 1) (o := 0) (u := .slice (some ⟨g, 0, none⟩) n cap1) (by omega)) (q := w.heap.size + 1) (o := 1) (u := .slice (some ⟨g2, 0, none⟩) m cap2) (by omega)
          have h2 := own_le h1 (B' := w.heap.size) (by omega)
          rw [← show m = H.length from Hm.out]
          exact h2
        · exact (HB6.out.setCell (p := ⟨w.heap.size + 1, 0, none⟩) (Nat.le_succ _) _).setCell (p := ⟨w.heap.size + 1, 1, none⟩) (Nat.le_succ _) _
    · go_wp2_with fail
      have HB' : Hid (Below W0.heap.size W0 (V1.alloc (.cells #[.slice none 0 0, .slice none 0 0] 27))) := hide (below_alloc HB.out _)
      refine ⟨later_of HB'.out, ?_⟩
      replace F_b6 := hide (World.ownsRow.alloc F_b6.out (.cells #[.slice none 0 0, .slice none 0 0] 27))
      have N_b6_q : Hid (V1.heap.size ≠ b6) := hide (by have := L_b6.out; omega)
      replace L_b6 : Hid (b6 < (V1.alloc (.cells #[.slice none 0 0, .slice none 0 0] 27)).heap.size) := hide (by have := L_b6.out; simp; omega)
      have F_q := hide (Row.new V1 #[.slice none 0 0, .slice none 0 0] 27)
      have Q0 : Hid (W0.heap.size ≤ V1.heap.size) := hide HB.out.size
      have L_q : Hid (V1.heap.size < (V1.alloc (.cells #[.slice none 0 0, .slice none 0 0] 27)).heap.size) := hide (by simp)
      clear HB
      have HB := hide HB'.out
      clear HB'
      generalize (V1.alloc (.cells #[.slice none 0 0, .slice none 0 0] 27)) = V2 at *
      generalize V1.heap.size = q at *
      refine wpAnyS_two 3 4 (by kernel_rfl) (by simp; rfl) (by simp; rfl) rfl rfl rfl rfl (fun K hK => ?_) (fun K hK => ?_)
      · refine wp_append_at (.tmp 6) (.tmp 8) 24 rfl W0.heap.size 36 i0 _ 2 16 Tryz.underlying24 Hi0.out Hz.out.1 Hz.out.2.1 Hz.out.2.2 rfl (by decide) b6 0 0 [] rfl F_b6.out ⟨bA, oA, none⟩ n c (M.flatMap mcells) rfl HLM.out (Rd.add (HR0.out.1.below HB.out)) (mcells_one M) (by unfold maxLen; omega) (by omega) HB.out.size (fun g cap1 V3 hown hgrow hg hlt => ?_)
        rw [Nat.zero_add] at hown ⊢
        have HB' := hide (HB.out.grown hgrow HB.out.size (fun k hk => by injection hk with hk; have := (F_b6.out.lt b6 rfl).1; omega))
        replace F_q := hide (F_q.out.grown hgrow (fun e => by injection e with e; exact N_b6_q.out (by omega)))
        have N_g_q : Hid (g ≠ q) := hide (by have := L_q.out; have := N_b6_q.out; omega)
        replace L_q : Hid (q < V3.heap.size) := hide (by have := L_q.out; have := hgrow.size; omega)
        clear N_b6_q
        have F_g : Hid (V3.ownsRow W0.heap.size 36 2 (.slice (some ⟨g, 0, none⟩) n cap1) n (M.flatMap mcells)) := hide (by simpa using hown)
        have L_g : Hid (g < V3.heap.size) := hide hlt
        clear HB hown hgrow hg hlt F_b6 L_b6
        have HB := hide HB'.out
        clear HB'
        refine hK _ _ ⟨later_of HB.out, ?_⟩
        simp only [Act.put, List.setIfInBounds_toArray, List.set_cons_succ, List.set_cons_zero]
        refine wpAnyS_only 4 (by kernel_rfl) (by simp; rfl) rfl rfl (fun K hK => ?_)
        go_wp2_with fail
        have HB' : Hid (Below W0.heap.size W0 (V3.alloc (.cells #[] 73))) := hide (below_alloc HB.out _)
        refine ⟨later_of HB'.out, ?_⟩
        replace F_g := hide (World.ownsRow.alloc F_g.out (.cells #[] 73))
        have N_b10_g : Hid (V3.heap.size ≠ g) := hide (by have := L_g.out; omega)
        replace L_g : Hid (g < (V3.alloc (.cells #[] 73)).heap.size) := hide (by have := L_g.out; simp; omega)
        replace F_q := hide (F_q.out.alloc (.cells #[] 73))
        have N_b10_q : Hid (V3.heap.size ≠ q) := hide (by have := L_q.out; omega)
        replace L_q : Hid (q < (V3.alloc (.cells #[] 73)).heap.size) := hide (by have := L_q.out; simp; omega)
        have F_b10 : Hid ((V3.alloc (.cells #[] 73)).ownsRow W0.heap.size 73 2 (.slice (some ⟨V3.heap.size, 0, none⟩) 0 0) 0 []) := hide (World.ownsRow_made V3 #[] 0 HB.out.size (Nat.zero_le _) rfl)
        have L_b10 : Hid (V3.heap.size < (V3.alloc (.cells #[] 73)).heap.size) := hide (by simp)
        clear HB
        have HB := hide HB'.out
        clear HB'
        generalize (V3.alloc (.cells #[] 73)) = V4 at *
        generalize V3.heap.size = b10 at *
        refine wpAnyS_only 7 (by kernel_rfl) (by simp; rfl) rfl rfl (fun K hK => ?_)
        refine wp_append_nilN (.tmp 10) (.tmp 12) 25 rfl W0.heap.size 73 i1 2 Tryz.underlying25 Hi1.out (.slice (some ⟨b10, 0, none⟩) 0 0) 0 [] rfl F_b10.out d (show Value.slice none m d = .slice none 0 d by rw [HM0.out]) (hK _ _ ⟨later_of HB.out, ?_⟩)
        simp only [Act.put, List.setIfInBounds_toArray, List.set_cons_succ, List.set_cons_zero]
        obtain ⟨cap2, hc2⟩ : ∃ cap2, Value.slice (some ⟨b10, 0, none⟩) 0 0 = .slice (some ⟨b10, 0, none⟩) m cap2 := ⟨0, by rw [HM0.out]⟩
        rw [hc2]
        have F_g2 : Hid (V4.ownsRow W0.heap.size 73 2 (.slice (some ⟨b10, 0, none⟩) m cap2) m (H.flatMap mcells)) := hide (by rw [← hc2, HM0.out, HH0.out]; exact F_b10.out)
        have L_g2 := L_b10
        have N_g_g2 : Hid (b10 ≠ g) := hide (by have := N_b10_g.out; omega)
        clear N_b10_g
        have N_g2_q : Hid (b10 ≠ q) := hide (by have := N_b10_q.out; omega)
        clear N_b10_q
        clear F_b10 L_b10 hc2
        generalize V4 = V5 at *
        generalize b10 = g2 at *
        refine wpAnyS_take_all [8] 1 rfl (by kernel_rfl) (by intro c a d v w h; cases d <;> exact h) (by kernel_rfl) (by simp; rfl) rfl (later_of HB.out) ?_
        repeat (go_big_quiet_step (fail))
        refine wpQuiet_nil ?_
        obtain ⟨W3, rfl⟩ : ∃ x, x = V5 := ⟨_, rfl⟩
        have HQ4 := hide F_q.out
        have HB4 := hide HB.out
        have HQ0 := hide Q0.out
        have HV4 := hide (own_le (B' := w.heap.size + 2) F_g.out (by have := HW0.out; omega))
        have HH4 := hide (own_le (B' := w.heap.size + 2) F_g2.out (by have := HW0.out; omega))
        have HF4 := hide (HF0.out.below HB.out)
        have HNV : Hid (g ≠ q) := hide (by have := N_g_q.out; omega)
        have HNH : Hid (∀ k, (Value.slice (some ⟨g2, 0, none⟩) m cap2).ownBlock = some k → k ≠ q ∧ k ≠ g) := hide (fun k hk => by simp [Value.ownBlock] at hk; subst hk; have h1 := N_g2_q.out; have h2 := N_g_g2.out; omega)
        clear HB F_g F_g2 F_q
        have r0 := HQ4.out.2.1 0 _ rfl
        have r1 := HQ4.out.2.1 1 _ rfl
        have r2 := HQ4.out.free 0
        have r3 := HQ4.out.free 1
        have hq4 := HQ4.out.1
        have HS4 : Hid (Below W0.heap.size W0 ((W3.setCell ⟨q, 0, none⟩ (.slice (some ⟨g, 0, none⟩) n cap1)).setCell ⟨q, 1, none⟩ (.slice (some ⟨g2, 0, none⟩) m cap2))) := hide ((HB4.out.setCell HQ0.out _).setCell HQ0.out _)
        have HQ5 : Hid (Row ((W3.setCell ⟨q, 0, none⟩ (.slice (some ⟨g, 0, none⟩) n cap1)).setCell ⟨q, 1, none⟩ (.slice (some ⟨g2, 0, none⟩) m cap2)) q [.slice (some ⟨g, 0, none⟩) n cap1, .slice (some ⟨g2, 0, none⟩) m cap2]) := hide ((HQ4.out.set (k := 0) (by simp) _).set (k := 1) (by simp) _)
        refine wpAnyS_only 10 (by kernel_rfl) (by simp; rfl) rfl rfl (fun K hK => ?_)
        go_wp2_with fail
        refine ⟨later_of HS4.out, ?_⟩
        refine wpAnyH_done (by kernel_rfl) ?_ _
        have HV5 := hide (ownsRow_far (ownsRow_far HV4.out (q := q) (o := 0) (u := .slice (some ⟨g, 0, none⟩) n cap1) (fun e => HNV.out e.symm)) (q := q) (o := 1) (u := .slice (some ⟨g2, 0, none⟩) m cap2) (fun e => HNV.out e.symm))
        have HH5 := hide (own_apart (own_apart HH4.out (grown_set (p := ⟨q, 0, none⟩) (.slice (some ⟨g, 0, none⟩) n cap1) rfl) (fun k hk e => (HNH.out k hk).1 (by injection e))) (grown_set (p := ⟨q, 1, none⟩) (.slice (some ⟨g2, 0, none⟩) m cap2) rfl) (fun k hk e => (HNH.out k hk).1 (by injection e)))
        have HF5 := hide ((HF4.out.far (p := ⟨q, 0, none⟩) (by have := HQ0.out; have := HW0.out; simp; omega) (.slice (some ⟨g, 0, none⟩) n cap1)).far (p := ⟨q, 1, none⟩) (by have := HQ0.out; have := HW0.out; simp; omega) (.slice (some ⟨g2, 0, none⟩) m cap2))
        have hgq : ¬ g = q := HNV.out
        have hgw : w.heap.size < q := by have := HQ0.out; have := HW0.out; omega
        have hgb : w.heap.size + 2 ≤ g := (HV4.out.lt g rfl).1
        have hgw2 : ¬ g = w.heap.size := by omega
        have hgw3 : ¬ g = w.heap.size + 1 := by omega
        have HC4 := hide (cell_on hc0 HS4.out)
        clear hc0 hc1
        generalize (W3.setCell ⟨q, 0, none⟩ (.slice (some ⟨g, 0, none⟩) n cap1)).setCell ⟨q, 1, none⟩ (.slice (some ⟨g2, 0, none⟩) m cap2) = W4 at *
        clear r0 r1 r2 r3 hq4
        have r0 := HQ5.out.2.1 0 _ rfl
        have r1 := HQ5.out.2.1 1 _ rfl
        have hq4 := HQ5.out.1
        have f0 := HF5.out.2.1 0 _ rfl
        have f1 := HF5.out.2.1 1 _ rfl
        have f2 := HF5.out.free 0
        have f3 := HF5.out.free 1
        have hf4 := HF5.out.1
        obtain ⟨⟨p0, p1⟩, hp⟩ : ∃ h, M[i]? = some h := ⟨_, List.getElem?_eq_getElem (by rw [← Hn.out]; exact hi)⟩
        obtain ⟨g', off', hA, -, d0, d1⟩ := (own_rd HV5.out).get2 (fun _ => rfl) hp rfl
        simp only [Option.some.injEq, Addr.mk.injEq, and_true] at hA
        obtain ⟨rfl, rfl⟩ := hA
        have d2 := World.ownsRow.frozenAt HV5.out (i * 2 + 1)
        have hg4 := (HV5.out.lt g rfl).2
        rw [Nat.zero_add] at d1
        dsimp only at d1
        have e0 := World.ownsRow.frozenAt HV5.out (i * 2)
        rw [Nat.zero_add] at d0
        dsimp only at d0
        have HST := (World.ownsRow.stored (World.ownsRow.stored HV5.out (i * 2 + 0) (.int .i64 p0)).1 (i * 2 + 1) (.int .i64 0)).1
        rw [flat_set mcells 2 (fun _ => rfl) 0 (by omega) (.int .i64 p0) (p0, p1) M i _ hp rfl, flat_set mcells 2 (fun _ => rfl) 1 (by omega) (.int .i64 0) (par M i, 0) (M.set i (p0, p1)) i (p0, p1) (by rw [List.getElem?_set_self (by rw [← Hn.out]; exact hi)]) (by rw [par_some hp]; rfl), List.set_set, Nat.add_zero] at HST
        have HST := hide HST
        have hcx := HC4.out
        have HRX := hide ((HR0.out.1.below HS4.out).get2 (fun _ => rfl) hp rfl)
        obtain ⟨b9, o9, hA9, hb9, d3, d4⟩ := HRX.out
        simp only [Option.some.injEq, Addr.mk.injEq, and_true] at hA9
        obtain ⟨rfl, rfl⟩ := hA9
        dsimp only at d3 d4
        clear hp
        go_wp2_with fail
        go_region
        have HB6 := hide (((below_step HB0.out HS4.out).setCell (p := ⟨g, i * 2, none⟩) (show w.heap.size ≤ g by omega) (.int .i64 p0)).setCell (p := ⟨g, i * 2 + 1, none⟩) (show w.heap.size ≤ g by omega) (.int .i64 0)).drew
        have HH6 := hide (own_apart (own_apart HH5.out (grown_set (p := ⟨g, i * 2, none⟩) (.int .i64 p0) rfl) (fun k hk e => (HNH.out k hk).2 (by injection e))) (grown_set (p := ⟨g, i * 2 + 1, none⟩) (.int .i64 0) rfl) (fun k hk e => (HNH.out k hk).2 (by injection e)))
        have HF6 := hide ((HF5.out.far (p := ⟨g, i * 2, none⟩) (by simp; omega) (.int .i64 p0)).far (p := ⟨g, i * 2 + 1, none⟩) (by simp; omega) (.int .i64 0)).drew
        have HQ6 := hide ((HQ5.out.far (p := ⟨g, i * 2, none⟩) (by simp; omega) (.int .i64 p0)).far (p := ⟨g, i * 2 + 1, none⟩) (by simp; omega) (.int .i64 0)).drew
        have HV6 : Hid (((W4.setCell ⟨g, i * 2, none⟩ (.int .i64 p0)).setCell ⟨g, i * 2 + 1, none⟩ (.int .i64 0)).drew.ownsRow (w.heap.size + 2) 36 2 (.slice (some ⟨g, 0, none⟩) n cap1) n ((closeM M i).flatMap mcells)) := hide HST.out
        have HH7 : Hid (((W4.setCell ⟨g, i * 2, none⟩ (.int .i64 p0)).setCell ⟨g, i * 2 + 1, none⟩ (.int .i64 0)).drew.ownsRow (w.heap.size + 2) 73 2 (.slice (some ⟨g2, 0, none⟩) m cap2) m (H.flatMap mcells)) := hide HH6.out
        clear HST HH6 r0 r1 hq4 f0 f1 f2 f3 hf4 d0 d1 d2 d3 d4 e0 hg4 hcx HC4 HRX
        generalize ((W4.setCell ⟨g, i * 2, none⟩ (.int .i64 p0)).setCell ⟨g, i * 2 + 1, none⟩ (.int .i64 0)).drew = W6 at *
        have r0 := HQ6.out.2.1 0 _ rfl
        have r1 := HQ6.out.2.1 1 _ rfl
        have hq4 := HQ6.out.1
        have f0 := HF6.out.2.1 0 _ rfl
        have f1 := HF6.out.2.1 1 _ rfl
        have f2 := HF6.out.free 0
        have f3 := HF6.out.free 1
        have hf4 := HF6.out.1
        have hq5 : ¬ q = w.heap.size + 1 := by have := HQ0.out; have := HW0.out; omega
        go_wp2
        refine bodyPost_ret (v := .agg #[.slice (some ⟨g, 0, none⟩) n cap1, .slice (some ⟨g2, 0, none⟩) m cap2]) (by simp [results, Tryz.results54, go_sem, *]) rfl ⟨⟨_, _, rfl, ?_, ?_⟩, ?_⟩
        · have h := own_far_any (own_far_any HV6.out (q := w.heap.size + 1) (o := 0) (u := .slice (some ⟨g, 0, none⟩) n cap1) (by omega)) (q := w.heap.size + 1) (o := 1) (u := .slice (some ⟨g2, 0, none⟩) m cap2) (by omega)
          have h2 := own_le h (B' := w.heap.size) (by omega)
          rw [show (closeM M i).length = n by rw [closeM, List.length_set]; exact Hn.out.symm]
          exact h2
        · have h1 := own_far_any (own_far_any HH7.out (q := w.heap.size + 1) (o := 0) (u := .slice (some ⟨g, 0, none⟩) n cap1) (by omega)) (q := w.heap.size + 1) (o := 1) (u := .slice (some ⟨g2, 0, none⟩) m cap2) (by omega)
          have h2 := own_le h1 (B' := w.heap.size) (by omega)
          rw [← show m = H.length from Hm.out]
          exact h2
        · exact (HB6.out.setCell (p := ⟨w.heap.size + 1, 0, none⟩) (Nat.le_succ _) _).setCell (p := ⟨w.heap.size + 1, 1, none⟩) (Nat.le_succ _) _
      · go_wp2_with fail
        have HB' : Hid (Below W0.heap.size W0 (V2.alloc (.cells #[] 73))) := hide (below_alloc HB.out _)
        refine ⟨later_of HB'.out, ?_⟩
        replace F_b6 := hide (World.ownsRow.alloc F_b6.out (.cells #[] 73))
        have N_b10_b6 : Hid (V2.heap.size ≠ b6) := hide (by have := L_b6.out; omega)
        replace L_b6 : Hid (b6 < (V2.alloc (.cells #[] 73)).heap.size) := hide (by have := L_b6.out; simp; omega)
        replace F_q := hide (F_q.out.alloc (.cells #[] 73))
        have N_b10_q : Hid (V2.heap.size ≠ q) := hide (by have := L_q.out; omega)
        replace L_q : Hid (q < (V2.alloc (.cells #[] 73)).heap.size) := hide (by have := L_q.out; simp; omega)
        have F_b10 : Hid ((V2.alloc (.cells #[] 73)).ownsRow W0.heap.size 73 2 (.slice (some ⟨V2.heap.size, 0, none⟩) 0 0) 0 []) := hide (World.ownsRow_made V2 #[] 0 HB.out.size (Nat.zero_le _) rfl)
        have L_b10 : Hid (V2.heap.size < (V2.alloc (.cells #[] 73)).heap.size) := hide (by simp)
        clear HB
        have HB := hide HB'.out
        clear HB'
        generalize (V2.alloc (.cells #[] 73)) = V3 at *
        generalize V2.heap.size = b10 at *
        refine wpAnyS_only 3 (by kernel_rfl) (by simp; rfl) rfl rfl (fun K hK => ?_)
        refine wp_append_at (.tmp 6) (.tmp 8) 24 rfl W0.heap.size 36 i0 _ 2 16 Tryz.underlying24 Hi0.out Hz.out.1 Hz.out.2.1 Hz.out.2.2 rfl (by decide) b6 0 0 [] rfl F_b6.out ⟨bA, oA, none⟩ n c (M.flatMap mcells) rfl HLM.out (Rd.add (HR0.out.1.below HB.out)) (mcells_one M) (by unfold maxLen; omega) (by omega) HB.out.size (fun g cap1 V4 hown hgrow hg hlt => ?_)
        rw [Nat.zero_add] at hown ⊢
        have HB' := hide (HB.out.grown hgrow HB.out.size (fun k hk => by injection hk with hk; have := (F_b6.out.lt b6 rfl).1; omega))
        replace F_b10 := hide (own_apart F_b10.out hgrow (fun k hk e => by simp [Value.ownBlock] at hk; injection e with e; exact N_b10_b6.out (by omega)))
        have N_b10_g : Hid (g ≠ b10) := hide (by have := L_b10.out; have := N_b10_b6.out; omega)
        replace F_q := hide (F_q.out.grown hgrow (fun e => by injection e with e; exact N_b6_q.out (by omega)))
        have N_g_q : Hid (g ≠ q) := hide (by have := L_q.out; have := N_b6_q.out; omega)
        replace L_b10 : Hid (b10 < V4.heap.size) := hide (by have := L_b10.out; have := hgrow.size; omega)
        clear N_b10_b6
        replace L_q : Hid (q < V4.heap.size) := hide (by have := L_q.out; have := hgrow.size; omega)
        clear N_b6_q
        have F_g : Hid (V4.ownsRow W0.heap.size 36 2 (.slice (some ⟨g, 0, none⟩) n cap1) n (M.flatMap mcells)) := hide (by simpa using hown)
        have L_g : Hid (g < V4.heap.size) := hide hlt
        clear HB hown hgrow hg hlt F_b6 L_b6
        have HB := hide HB'.out
        clear HB'
        refine hK _ _ ⟨later_of HB.out, ?_⟩
        simp only [Act.put, List.setIfInBounds_toArray, List.set_cons_succ, List.set_cons_zero]
        refine wpAnyS_only 7 (by kernel_rfl) (by simp; rfl) rfl rfl (fun K hK => ?_)
        refine wp_append_nilN (.tmp 10) (.tmp 12) 25 rfl W0.heap.size 73 i1 2 Tryz.underlying25 Hi1.out (.slice (some ⟨b10, 0, none⟩) 0 0) 0 [] rfl F_b10.out d (show Value.slice none m d = .slice none 0 d by rw [HM0.out]) (hK _ _ ⟨later_of HB.out, ?_⟩)
        simp only [Act.put, List.setIfInBounds_toArray, List.set_cons_succ, List.set_cons_zero]
        obtain ⟨cap2, hc2⟩ : ∃ cap2, Value.slice (some ⟨b10, 0, none⟩) 0 0 = .slice (some ⟨b10, 0, none⟩) m cap2 := ⟨0, by rw [HM0.out]⟩
        rw [hc2]
        have F_g2 : Hid (V4.ownsRow W0.heap.size 73 2 (.slice (some ⟨b10, 0, none⟩) m cap2) m (H.flatMap mcells)) := hide (by rw [← hc2, HM0.out, HH0.out]; exact F_b10.out)
        have L_g2 := L_b10
        have N_g_g2 : Hid (b10 ≠ g) := hide (by have := N_b10_g.out; omega)
        clear N_b10_g
        have N_g2_q : Hid (b10 ≠ q) := hide (by have := N_b10_q.out; omega)
        clear N_b10_q
        clear F_b10 L_b10 hc2
        generalize V4 = V5 at *
        generalize b10 = g2 at *
        refine wpAnyS_take_all [8] 1 rfl (by kernel_rfl) (by intro c a d v w h; cases d <;> exact h) (by kernel_rfl) (by simp; rfl) rfl (later_of HB.out) ?_
        repeat (go_big_quiet_step (fail))
        refine wpQuiet_nil ?_
        obtain ⟨W3, rfl⟩ : ∃ x, x = V5 := ⟨_, rfl⟩
        have HQ4 := hide F_q.out
        have HB4 := hide HB.out
        have HQ0 := hide Q0.out
        have HV4 := hide (own_le (B' := w.heap.size + 2) F_g.out (by have := HW0.out; omega))
        have HH4 := hide (own_le (B' := w.heap.size + 2) F_g2.out (by have := HW0.out; omega))
        have HF4 := hide (HF0.out.below HB.out)
        have HNV : Hid (g ≠ q) := hide (by have := N_g_q.out; omega)
        have HNH : Hid (∀ k, (Value.slice (some ⟨g2, 0, none⟩) m cap2).ownBlock = some k → k ≠ q ∧ k ≠ g) := hide (fun k hk => by simp [Value.ownBlock] at hk; subst hk; have h1 := N_g2_q.out; have h2 := N_g_g2.out; omega)
        clear HB F_g F_g2 F_q
        have r0 := HQ4.out.2.1 0 _ rfl
        have r1 := HQ4.out.2.1 1 _ rfl
        have r2 := HQ4.out.free 0
        have r3 := HQ4.out.free 1
        have hq4 := HQ4.out.1
        have HS4 : Hid (Below W0.heap.size W0 ((W3.setCell ⟨q, 0, none⟩ (.slice (some ⟨g, 0, none⟩) n cap1)).setCell ⟨q, 1, none⟩ (.slice (some ⟨g2, 0, none⟩) m cap2))) := hide ((HB4.out.setCell HQ0.out _).setCell HQ0.out _)
        have HQ5 : Hid (Row ((W3.setCell ⟨q, 0, none⟩ (.slice (some ⟨g, 0, none⟩) n cap1)).setCell ⟨q, 1, none⟩ (.slice (some ⟨g2, 0, none⟩) m cap2)) q [.slice (some ⟨g, 0, none⟩) n cap1, .slice (some ⟨g2, 0, none⟩) m cap2]) := hide ((HQ4.out.set (k := 0) (by simp) _).set (k := 1) (by simp) _)
        refine wpAnyS_only 10 (by kernel_rfl) (by simp; rfl) rfl rfl (fun K hK => ?_)
        go_wp2_with fail
        refine ⟨later_of HS4.out, ?_⟩
        refine wpAnyH_done (by kernel_rfl) ?_ _
        have HV5 := hide (ownsRow_far (ownsRow_far HV4.out (q := q) (o := 0) (u := .slice (some ⟨g, 0, none⟩) n cap1) (fun e => HNV.out e.symm)) (q := q) (o := 1) (u := .slice (some ⟨g2, 0, none⟩) m cap2) (fun e => HNV.out e.symm))
        have HH5 := hide (own_apart (own_apart HH4.out (grown_set (p := ⟨q, 0, none⟩) (.slice (some ⟨g, 0, none⟩) n cap1) rfl) (fun k hk e => (HNH.out k hk).1 (by injection e))) (grown_set (p := ⟨q, 1, none⟩) (.slice (some ⟨g2, 0, none⟩) m cap2) rfl) (fun k hk e => (HNH.out k hk).1 (by injection e)))
        have HF5 := hide ((HF4.out.far (p := ⟨q, 0, none⟩) (by have := HQ0.out; have := HW0.out; simp; omega) (.slice (some ⟨g, 0, none⟩) n cap1)).far (p := ⟨q, 1, none⟩) (by have := HQ0.out; have := HW0.out; simp; omega) (.slice (some ⟨g2, 0, none⟩) m cap2))
        have hgq : ¬ g = q := HNV.out
        have hgw : w.heap.size < q := by have := HQ0.out; have := HW0.out; omega
        have hgb : w.heap.size + 2 ≤ g := (HV4.out.lt g rfl).1
        have hgw2 : ¬ g = w.heap.size := by omega
        have hgw3 : ¬ g = w.heap.size + 1 := by omega
        have HC4 := hide (cell_on hc0 HS4.out)
        clear hc0 hc1
        generalize (W3.setCell ⟨q, 0, none⟩ (.slice (some ⟨g, 0, none⟩) n cap1)).setCell ⟨q, 1, none⟩ (.slice (some ⟨g2, 0, none⟩) m cap2) = W4 at *
        clear r0 r1 r2 r3 hq4
        have r0 := HQ5.out.2.1 0 _ rfl
        have r1 := HQ5.out.2.1 1 _ rfl
        have hq4 := HQ5.out.1
        have f0 := HF5.out.2.1 0 _ rfl
        have f1 := HF5.out.2.1 1 _ rfl
        have f2 := HF5.out.free 0
        have f3 := HF5.out.free 1
        have hf4 := HF5.out.1
        obtain ⟨⟨p0, p1⟩, hp⟩ : ∃ h, M[i]? = some h := ⟨_, List.getElem?_eq_getElem (by rw [← Hn.out]; exact hi)⟩
        obtain ⟨g', off', hA, -, d0, d1⟩ := (own_rd HV5.out).get2 (fun _ => rfl) hp rfl
        simp only [Option.some.injEq, Addr.mk.injEq, and_true] at hA
        obtain ⟨rfl, rfl⟩ := hA
        have d2 := World.ownsRow.frozenAt HV5.out (i * 2 + 1)
        have hg4 := (HV5.out.lt g rfl).2
        rw [Nat.zero_add] at d1
        dsimp only at d1
        have e0 := World.ownsRow.frozenAt HV5.out (i * 2)
        rw [Nat.zero_add] at d0
        dsimp only at d0
        have HST := (World.ownsRow.stored (World.ownsRow.stored HV5.out (i * 2 + 0) (.int .i64 p0)).1 (i * 2 + 1) (.int .i64 0)).1
        rw [flat_set mcells 2 (fun _ => rfl) 0 (by omega) (.int .i64 p0) (p0, p1) M i _ hp rfl, flat_set mcells 2 (fun _ => rfl) 1 (by omega) (.int .i64 0) (par M i, 0) (M.set i (p0, p1)) i (p0, p1) (by rw [List.getElem?_set_self (by rw [← Hn.out]; exact hi)]) (by rw [par_some hp]; rfl), List.set_set, Nat.add_zero] at HST
        have HST := hide HST
        have hcx := HC4.out
        have HRX := hide ((HR0.out.1.below HS4.out).get2 (fun _ => rfl) hp rfl)
        obtain ⟨b9, o9, hA9, hb9, d3, d4⟩ := HRX.out
        simp only [Option.some.injEq, Addr.mk.injEq, and_true] at hA9
        obtain ⟨rfl, rfl⟩ := hA9
        dsimp only at d3 d4
        clear hp
        go_wp2_with fail
        go_region
        have HB6 := hide (((below_step HB0.out HS4.out).setCell (p := ⟨g, i * 2, none⟩) (show w.heap.size ≤ g by omega) (.int .i64 p0)).setCell (p := ⟨g, i * 2 + 1, none⟩) (show w.heap.size ≤ g by omega) (.int .i64 0)).drew
        have HH6 := hide (own_apart (own_apart HH5.out (grown_set (p := ⟨g, i * 2, none⟩) (.int .i64 p0) rfl) (fun k hk e => (HNH.out k hk).2 (by injection e))) (grown_set (p := ⟨g, i * 2 + 1, none⟩) (.int .i64 0) rfl) (fun k hk e => (HNH.out k hk).2 (by injection e)))
        have HF6 := hide ((HF5.out.far (p := ⟨g, i * 2, none⟩) (by simp; omega) (.int .i64 p0)).far (p := ⟨g, i * 2 + 1, none⟩) (by simp; omega) (.int .i64 0)).drew
        have HQ6 := hide ((HQ5.out.far (p := ⟨g, i * 2, none⟩) (by simp; omega) (.int .i64 p0)).far (p := ⟨g, i * 2 + 1, none⟩) (by simp; omega) (.int .i64 0)).drew
        have HV6 : Hid (((W4.setCell ⟨g, i * 2, none⟩ (.int .i64 p0)).setCell ⟨g, i * 2 + 1, none⟩ (.int .i64 0)).drew.ownsRow (w.heap.size + 2) 36 2 (.slice (some ⟨g, 0, none⟩) n cap1) n ((closeM M i).flatMap mcells)) := hide HST.out
        have HH7 : Hid (((W4.setCell ⟨g, i * 2, none⟩ (.int .i64 p0)).setCell ⟨g, i * 2 + 1, none⟩ (.int .i64 0)).drew.ownsRow (w.heap.size + 2) 73 2 (.slice (some ⟨g2, 0, none⟩) m cap2) m (H.flatMap mcells)) := hide HH6.out
        clear HST HH6 r0 r1 hq4 f0 f1 f2 f3 hf4 d0 d1 d2 d3 d4 e0 hg4 hcx HC4 HRX
        generalize ((W4.setCell ⟨g, i * 2, none⟩ (.int .i64 p0)).setCell ⟨g, i * 2 + 1, none⟩ (.int .i64 0)).drew = W6 at *
        have r0 := HQ6.out.2.1 0 _ rfl
        have r1 := HQ6.out.2.1 1 _ rfl
        have hq4 := HQ6.out.1
        have f0 := HF6.out.2.1 0 _ rfl
        have f1 := HF6.out.2.1 1 _ rfl
        have f2 := HF6.out.free 0
        have f3 := HF6.out.free 1
        have hf4 := HF6.out.1
        have hq5 : ¬ q = w.heap.size + 1 := by have := HQ0.out; have := HW0.out; omega
        go_wp2
        refine bodyPost_ret (v := .agg #[.slice (some ⟨g, 0, none⟩) n cap1, .slice (some ⟨g2, 0, none⟩) m cap2]) (by simp [results, Tryz.results54, go_sem, *]) rfl ⟨⟨_, _, rfl, ?_, ?_⟩, ?_⟩
        · have h := own_far_any (own_far_any HV6.out (q := w.heap.size + 1) (o := 0) (u := .slice (some ⟨g, 0, none⟩) n cap1) (by omega)) (q := w.heap.size + 1) (o := 1) (u := .slice (some ⟨g2, 0, none⟩) m cap2) (by omega)
          have h2 := own_le h (B' := w.heap.size) (by omega)
          rw [show (closeM M i).length = n by rw [closeM, List.length_set]; exact Hn.out.symm]
          exact h2
        · have h1 := own_far_any (own_far_any HH7.out (q := w.heap.size + 1) (o := 0) (u := .slice (some ⟨g, 0, none⟩) n cap1) (by omega)) (q := w.heap.size + 1) (o := 1) (u := .slice (some ⟨g2, 0, none⟩) m cap2) (by omega)
          have h2 := own_le h1 (B' := w.heap.size) (by omega)
          rw [← show m = H.length from Hm.out]
          exact h2
        · exact (HB6.out.setCell (p := ⟨w.heap.size + 1, 0, none⟩) (Nat.le_succ _) _).setCell (p := ⟨w.heap.size + 1, 1, none⟩) (Nat.le_succ _) _
  · go_wp2_with fail
    have HB' : Hid (Below W0.heap.size W0 (V0.alloc (.cells #[] 73))) := hide (below_alloc HB.out _)
    refine ⟨later_of HB'.out, ?_⟩
    have F_b10 : Hid ((V0.alloc (.cells #[] 73)).ownsRow W0.heap.size 73 2 (.slice (some ⟨V0.heap.size, 0, none⟩) 0 0) 0 []) := hide (World.ownsRow_made V0 #[] 0 HB.out.size (Nat.zero_le _) rfl)
    have L_b10 : Hid (V0.heap.size < (V0.alloc (.cells #[] 73)).heap.size) := hide (by simp)
    clear HB
    have HB := hide HB'.out
    clear HB'
    generalize (V0.alloc (.cells #[] 73)) = V1 at *
    generalize V0.heap.size = b10 at *
    refine wpAnyS_two 0 9 (by kernel_rfl) (by simp; rfl) (by simp; rfl) rfl rfl rfl rfl (fun K hK => ?_) (fun K hK => ?_)
    · go_wp2_with fail
      have HB' : Hid (Below W0.heap.size W0 (V1.alloc (.cells #[] 36))) := hide (below_alloc HB.out _)
      refine ⟨later_of HB'.out, ?_⟩
      replace F_b10 := hide (World.ownsRow.alloc F_b10.out (.cells #[] 36))
      have N_b10_b6 : Hid (V1.heap.size ≠ b10) := hide (by have := L_b10.out; omega)
      replace L_b10 : Hid (b10 < (V1.alloc (.cells #[] 36)).heap.size) := hide (by have := L_b10.out; simp; omega)
      have F_b6 : Hid ((V1.alloc (.cells #[] 36)).ownsRow W0.heap.size 36 2 (.slice (some ⟨V1.heap.size, 0, none⟩) 0 0) 0 []) := hide (World.ownsRow_made V1 #[] 0 HB.out.size (Nat.zero_le _) rfl)
      have L_b6 : Hid (V1.heap.size < (V1.alloc (.cells #[] 36)).heap.size) := hide (by simp)
      clear HB
      have HB := hide HB'.out
      clear HB'
      generalize (V1.alloc (.cells #[] 36)) = V2 at *
      generalize V1.heap.size = b6 at *
      refine wpAnyS_two 3 9 (by kernel_rfl) (by simp; rfl) (by simp; rfl) rfl rfl rfl rfl (fun K hK => ?_) (fun K hK => ?_)
      · refine wp_append_at (.tmp 6) (.tmp 8) 24 rfl W0.heap.size 36 i0 _ 2 16 Tryz.underlying24 Hi0.out Hz.out.1 Hz.out.2.1 Hz.out.2.2 rfl (by decide) b6 0 0 [] rfl F_b6.out ⟨bA, oA, none⟩ n c (M.flatMap mcells) rfl HLM.out (Rd.add (HR0.out.1.below HB.out)) (mcells_one M) (by unfold maxLen; omega) (by omega) HB.out.size (fun g cap1 V3 hown hgrow hg hlt => ?_)
        rw [Nat.zero_add] at hown ⊢
        have HB' := hide (HB.out.grown hgrow HB.out.size (fun k hk => by injection hk with hk; have := (F_b6.out.lt b6 rfl).1; omega))
        replace F_b10 := hide (own_apart F_b10.out hgrow (fun k hk e => by simp [Value.ownBlock] at hk; injection e with e; exact N_b10_b6.out (by omega)))
        have N_b10_g : Hid (g ≠ b10) := hide (by have := L_b10.out; have := N_b10_b6.out; omega)
        replace L_b10 : Hid (b10 < V3.heap.size) := hide (by have := L_b10.out; have := hgrow.size; omega)
        clear N_b10_b6
        have F_g : Hid (V3.ownsRow W0.heap.size 36 2 (.slice (some ⟨g, 0, none⟩) n cap1) n (M.flatMap mcells)) := hide (by simpa using hown)
        have L_g : Hid (g < V3.heap.size) := hide hlt
        clear HB hown hgrow hg hlt F_b6 L_b6
        have HB := hide HB'.out
        clear HB'
        refine hK _ _ ⟨later_of HB.out, ?_⟩
        simp only [Act.put, List.setIfInBounds_toArray, List.set_cons_succ, List.set_cons_zero]
        refine wpAnyS_two 7 9 (by kernel_rfl) (by simp; rfl) (by simp; rfl) rfl rfl rfl rfl (fun K hK => ?_) (fun K hK => ?_)
        · refine wp_append_nilN (.tmp 10) (.tmp 12) 25 rfl W0.heap.size 73 i1 2 Tryz.underlying25 Hi1.out (.slice (some ⟨b10, 0, none⟩) 0 0) 0 [] rfl F_b10.out d (show Value.slice none m d = .slice none 0 d by rw [HM0.out]) (hK _ _ ⟨later_of HB.out, ?_⟩)
          simp only [Act.put, List.setIfInBounds_toArray, List.set_cons_succ, List.set_cons_zero]
          obtain ⟨cap2, hc2⟩ : ∃ cap2, Value.slice (some ⟨b10, 0, none⟩) 0 0 = .slice (some ⟨b10, 0, none⟩) m cap2 := ⟨0, by rw [HM0.out]⟩
          rw [hc2]
          have F_g2 : Hid (V3.ownsRow W0.heap.size 73 2 (.slice (some ⟨b10, 0, none⟩) m cap2) m (H.flatMap mcells)) := hide (by rw [← hc2, HM0.out, HH0.out]; exact F_b10.out)
          have L_g2 := L_b10
          have N_g_g2 : Hid (b10 ≠ g) := hide (by have := N_b10_g.out; omega)
          clear N_b10_g
          clear F_b10 L_b10 hc2
          generalize V3 = V4 at *
          generalize b10 = g2 at *
          refine wpAnyS_take_all [8] 2 rfl (by kernel_rfl) (by intro c a d v w h; cases d <;> exact h) (by kernel_rfl) (by simp; rfl) rfl (later_of HB.out) ?_
          repeat (go_big_quiet_step (fail))
          refine wpQuiet_nil ?_
          refine wpAnyS_only 9 (by kernel_rfl) (by simp; rfl) rfl rfl (fun K hK => ?_)
          go_wp2_with fail
          have HB' : Hid (Below W0.heap.size W0 (V4.alloc (.cells #[.slice none 0 0, .slice none 0 0] 27))) := hide (below_alloc HB.out _)
          refine ⟨later_of HB'.out, ?_⟩
          replace F_g := hide (World.ownsRow.alloc F_g.out (.cells #[.slice none 0 0, .slice none 0 0] 27))
          have N_g_q : Hid (V4.heap.size ≠ g) := hide (by have := L_g.out; omega)
          replace L_g : Hid (g < (V4.alloc (.cells #[.slice none 0 0, .slice none 0 0] 27)).heap.size) := hide (by have := L_g.out; simp; omega)
          replace F_g2 := hide (World.ownsRow.alloc F_g2.out (.cells #[.slice none 0 0, .slice none 0 0] 27))
          have N_g2_q : Hid (V4.heap.size ≠ g2) := hide (by have := L_g2.out; omega)
          replace L_g2 : Hid (g2 < (V4.alloc (.cells #[.slice none 0 0, .slice none 0 0] 27)).heap.size) := hide (by have := L_g2.out; simp; omega)
          have F_q := hide (Row.new V4 #[.slice none 0 0, .slice none 0 0] 27)
          have Q0 : Hid (W0.heap.size ≤ V4.heap.size) := hide HB.out.size
          have L_q : Hid (V4.heap.size < (V4.alloc (.cells #[.slice none 0 0, .slice none 0 0] 27)).heap.size) := hide (by simp)
          clear HB
          have HB := hide HB'.out
          clear HB'
          generalize (V4.alloc (.cells #[.slice none 0 0, .slice none 0 0] 27)) = V5 at *
          generalize V4.heap.size = q at *
          obtain ⟨W3, rfl⟩ : ∃ x, x = V5 := ⟨_, rfl⟩
          have HQ4 := hide F_q.out
          have HB4 := hide HB.out
          have HQ0 := hide Q0.out
          have HV4 := hide (own_le (B' := w.heap.size + 2) F_g.out (by have := HW0.out; omega))
          have HH4 := hide (own_le (B' := w.heap.size + 2) F_g2.out (by have := HW0.out; omega))
          have HF4 := hide (HF0.out.below HB.out)
          have HNV : Hid (g ≠ q) := hide (by have := N_g_q.out; omega)
          have HNH : Hid (∀ k, (Value.slice (some ⟨g2, 0, none⟩) m cap2).ownBlock = some k → k ≠ q ∧ k ≠ g) := hide (fun k hk => by simp [Value.ownBlock] at hk; subst hk; have h1 := N_g2_q.out; have h2 := N_g_g2.out; omega)
          clear HB F_g F_g2 F_q
          have r0 := HQ4.out.2.1 0 _ rfl
          have r1 := HQ4.out.2.1 1 _ rfl
          have r2 := HQ4.out.free 0
          have r3 := HQ4.out.free 1
          have hq4 := HQ4.out.1
          have HS4 : Hid (Below W0.heap.size W0 ((W3.setCell ⟨q, 0, none⟩ (.slice (some ⟨g, 0, none⟩) n cap1)).setCell ⟨q, 1, none⟩ (.slice (some ⟨g2, 0, none⟩) m cap2))) := hide ((HB4.out.setCell HQ0.out _).setCell HQ0.out _)
          have HQ5 : Hid (Row ((W3.setCell ⟨q, 0, none⟩ (.slice (some ⟨g, 0, none⟩) n cap1)).setCell ⟨q, 1, none⟩ (.slice (some ⟨g2, 0, none⟩) m cap2)) q [.slice (some ⟨g, 0, none⟩) n cap1, .slice (some ⟨g2, 0, none⟩) m cap2]) := hide ((HQ4.out.set (k := 0) (by simp) _).set (k := 1) (by simp) _)
          refine wpAnyS_only 10 (by kernel_rfl) (by simp; rfl) rfl rfl (fun K hK => ?_)
          go_wp2_with fail
          refine ⟨later_of HS4.out, ?_⟩
          refine wpAnyH_done (by kernel_rfl) ?_ _
          have HV5 := hide (ownsRow_far (ownsRow_far HV4.out (q := q) (o := 0) (u := .slice (some ⟨g, 0, none⟩) n cap1) (fun e => HNV.out e.symm)) (q := q) (o := 1) (u := .slice (some ⟨g2, 0, none⟩) m cap2) (fun e => HNV.out e.symm))
          have HH5 := hide (own_apart (own_apart HH4.out (grown_set (p := ⟨q, 0, none⟩) (.slice (some ⟨g, 0, none⟩) n cap1) rfl) (fun k hk e => (HNH.out k hk).1 (by injection e))) (grown_set (p := ⟨q, 1, none⟩) (.slice (some ⟨g2, 0, none⟩) m cap2) rfl) (fun k hk e => (HNH.out k hk).1 (by injection e)))
          have HF5 := hide ((HF4.out.far (p := ⟨q, 0, none⟩) (by have := HQ0.out; have := HW0.out; simp; omega) (.slice (some ⟨g, 0, none⟩) n cap1)).far (p := ⟨q, 1, none⟩) (by have := HQ0.out; have := HW0.out; simp; omega) (.slice (some ⟨g2, 0, none⟩) m cap2))
          have hgq : ¬ g = q := HNV.out
          have hgw : w.heap.size < q := by have := HQ0.out; have := HW0.out; omega
          have hgb : w.heap.size + 2 ≤ g := (HV4.out.lt g rfl).1
          have hgw2 : ¬ g = w.heap.size := by omega
          have hgw3 : ¬ g = w.heap.size + 1 := by omega
          have HC4 := hide (cell_on hc0 HS4.out)
          clear hc0 hc1
          generalize (W3.setCell ⟨q, 0, none⟩ (.slice (some ⟨g, 0, none⟩) n cap1)).setCell ⟨q, 1, none⟩ (.slice (some ⟨g2, 0, none⟩) m cap2) = W4 at *
          clear r0 r1 r2 r3 hq4
          have r0 := HQ5.out.2.1 0 _ rfl
          have r1 := HQ5.out.2.1 1 _ rfl
          have hq4 := HQ5.out.1
          have f0 := HF5.out.2.1 0 _ rfl
          have f1 := HF5.out.2.1 1 _ rfl
          have f2 := HF5.out.free 0
          have f3 := HF5.out.free 1
          have hf4 := HF5.out.1
          obtain ⟨⟨p0, p1⟩, hp⟩ : ∃ h, M[i]? = some h := ⟨_, List.getElem?_eq_getElem (by rw [← Hn.out]; exact hi)⟩
          obtain ⟨g', off', hA, -, d0, d1⟩ := (own_rd HV5.out).get2 (fun _ => rfl) hp rfl
          simp only [Option.some.injEq, Addr.mk.injEq, and_true] at hA
          obtain ⟨rfl, rfl⟩ := hA
          have d2 := World.ownsRow.frozenAt HV5.out (i * 2 + 1)
          have hg4 := (HV5.out.lt g rfl).2
          rw [Nat.zero_add] at d1
          dsimp only at d1
          have e0 := World.ownsRow.frozenAt HV5.out (i * 2)
          rw [Nat.zero_add] at d0
          dsimp only at d0
          have HST := (World.ownsRow.stored (World.ownsRow.stored HV5.out (i * 2 + 0) (.int .i64 p0)).1 (i * 2 + 1) (.int .i64 0)).1
          rw [flat_set mcells 2 (fun _ => rfl) 0 (by omega) (.int .i64 p0) (p0, p1) M i _ hp rfl, flat_set mcells 2 (fun _ => rfl) 1 (by omega) (.int .i64 0) (par M i, 0) (M.set i (p0, p1)) i (p0, p1) (by rw [List.getElem?_set_self (by rw [← Hn.out]; exact hi)]) (by rw [par_some hp]; rfl), List.set_set, Nat.add_zero] at HST
          have HST := hide HST
          have hcx := HC4.out
          have HRX := hide ((HR0.out.1.below HS4.out).get2 (fun _ => rfl) hp rfl)
          obtain ⟨b9, o9, hA9, hb9, d3, d4⟩ := HRX.out
          simp only [Option.some.injEq, Addr.mk.injEq, and_true] at hA9
          obtain ⟨rfl, rfl⟩ := hA9
          dsimp only at d3 d4
          clear hp
          go_wp2_with fail
          go_region
          have HB6 := hide (((below_step HB0.out HS4.out).setCell (p := ⟨g, i * 2, none⟩) (show w.heap.size ≤ g by omega) (.int .i64 p0)).setCell (p := ⟨g, i * 2 + 1, none⟩) (show w.heap.size ≤ g by omega) (.int .i64 0)).drew
          have HH6 := hide (own_apart (own_apart HH5.out (grown_set (p := ⟨g, i * 2, none⟩) (.int .i64 p0) rfl) (fun k hk e => (HNH.out k hk).2 (by injection e))) (grown_set (p := ⟨g, i * 2 + 1, none⟩) (.int .i64 0) rfl) (fun k hk e => (HNH.out k hk).2 (by injection e)))
          have HF6 := hide ((HF5.out.far (p := ⟨g, i * 2, none⟩) (by simp; omega) (.int .i64 p0)).far (p := ⟨g, i * 2 + 1, none⟩) (by simp; omega) (.int .i64 0)).drew
          have HQ6 := hide ((HQ5.out.far (p := ⟨g, i * 2, none⟩) (by simp; omega) (.int .i64 p0)).far (p := ⟨g, i * 2 + 1, none⟩) (by simp; omega) (.int .i64 0)).drew
          have HV6 : Hid (((W4.setCell ⟨g, i * 2, none⟩ (.int .i64 p0)).setCell ⟨g, i * 2 + 1, none⟩ (.int .i64 0)).drew.ownsRow (w.heap.size + 2) 36 2 (.slice (some ⟨g, 0, none⟩) n cap1) n ((closeM M i).flatMap mcells)) := hide HST.out
          have HH7 : Hid (((W4.setCell ⟨g, i * 2, none⟩ (.int .i64 p0)).setCell ⟨g, i * 2 + 1, none⟩ (.int .i64 0)).drew.ownsRow (w.heap.size + 2) 73 2 (.slice (some ⟨g2, 0, none⟩) m cap2) m (H.flatMap mcells)) := hide HH6.out
          clear HST HH6 r0 r1 hq4 f0 f1 f2 f3 hf4 d0 d1 d2 d3 d4 e0 hg4 hcx HC4 HRX
          generalize ((W4.setCell ⟨g, i * 2, none⟩ (.int .i64 p0)).setCell ⟨g, i * 2 + 1, none⟩ (.int .i64 0)).drew = W6 at *
          have r0 := HQ6.out.2.1 0 _ rfl
          have r1 := HQ6.out.2.1 1 _ rfl
          have hq4 := HQ6.out.1
          have f0 := HF6.out.2.1 0 _ rfl
          have f1 := HF6.out.2.1 1 _ rfl
          have f2 := HF6.out.free 0
          have f3 := HF6.out.free 1
          have hf4 := HF6.out.1
          have hq5 : ¬ q = w.heap.size + 1 := by have := HQ0.out; have := HW0.out; omega
          go_wp2
          refine bodyPost_ret (v := .agg #[.slice (some ⟨g, 0, none⟩) n cap1, .slice (some ⟨g2, 0, none⟩) m cap2]) (by simp [results, Tryz.results54, go_sem, *]) rfl ⟨⟨_, _, rfl, ?_, ?_⟩, ?_⟩
          · have h := own_far_any (own_far_any HV6.out (q := w.heap.size + 1) (o := 0) (u := .slice (some ⟨g, 0, none⟩) n cap1) (by omega)) (q := w.heap.size + 1) (o := 1) (u := .slice (some ⟨g2, 0, none⟩) m cap2) (by omega)
            have h2 := own_le h (B' := w.heap.size) (by omega)
            rw [show (closeM M i).length = n by rw [closeM, List.length_set]; exact Hn.out.symm]
            exact h2
          · have h1 := own_far_any (own_far_any HH7.out (q := w.heap.size + 1) (o := 0) (u := .slice (some ⟨g, 0, none⟩) n cap1) (by omega)) (q := w.heap.size + 1) (o := 1) (u := .slice (some ⟨g2, 0, none⟩) m cap2) (by omega)
            have h2 := own_le h1 (B' := w.heap.size) (by omega)
            rw [← show m = H.length from Hm.out]
            exact h2
          · exact (HB6.out.setCell (p := ⟨w.heap.size + 1, 0, none⟩) (Nat.le_succ _) _).setCell (p := ⟨w.heap.size + 1, 1, none⟩) (Nat.le_succ _) _
        · go_wp2_with fail
          have HB' : Hid (Below W0.heap.size W0 (V3.alloc (.cells #[.slice none 0 0, .slice none 0 0] 27))) := hide (below_alloc HB.out _)
          refine ⟨later_of HB'.out, ?_⟩
          replace F_b10 := hide (World.ownsRow.alloc F_b10.out (.cells #[.slice none 0 0, .slice none 0 0] 27))
          have N_b10_q : Hid (V3.heap.size ≠ b10) := hide (by have := L_b10.out; omega)
          replace L_b10 : Hid (b10 < (V3.alloc (.cells #[.slice none 0 0, .slice none 0 0] 27)).heap.size) := hide (by have := L_b10.out; simp; omega)
          replace F_g := hide (World.ownsRow.alloc F_g.out (.cells #[.slice none 0 0, .slice none 0 0] 27))
          have N_g_q : Hid (V3.heap.size ≠ g) := hide (by have := L_g.out; omega)
          replace L_g : Hid (g < (V3.alloc (.cells #[.slice none 0 0, .slice none 0 0] 27)).heap.size) := hide (by have := L_g.out; simp; omega)
          have F_q := hide (Row.new V3 #[.slice none 0 0, .slice none 0 0] 27)
          have Q0 : Hid (W0.heap.size ≤ V3.heap.size) := hide HB.out.size
          have L_q : Hid (V3.heap.size < (V3.alloc (.cells #[.slice none 0 0, .slice none 0 0] 27)).heap.size) := hide (by simp)
          clear HB
          have HB := hide HB'.out
          clear HB'
          generalize (V3.alloc (.cells #[.slice none 0 0, .slice none 0 0] 27)) = V4 at *
          generalize V3.heap.size = q at *
          refine wpAnyS_only 7 (by kernel_rfl) (by simp; rfl) rfl rfl (fun K hK => ?_)
          refine wp_append_nilN (.tmp 10) (.tmp 12) 25 rfl W0.heap.size 73 i1 2 Tryz.underlying25 Hi1.out (.slice (some ⟨b10, 0, none⟩) 0 0) 0 [] rfl F_b10.out d (show Value.slice none m d = .slice none 0 d by rw [HM0.out]) (hK _ _ ⟨later_of HB.out, ?_⟩)
          simp only [Act.put, List.setIfInBounds_toArray, List.set_cons_succ, List.set_cons_zero]
          obtain ⟨cap2, hc2⟩ : ∃ cap2, Value.slice (some ⟨b10, 0, none⟩) 0 0 = .slice (some ⟨b10, 0, none⟩) m cap2 := ⟨0, by rw [HM0.out]⟩
          rw [hc2]
          have F_g2 : Hid (V4.ownsRow W0.heap.size 73 2 (.slice (some ⟨b10, 0, none⟩) m cap2) m (H.flatMap mcells)) := hide (by rw [← hc2, HM0.out, HH0.out]; exact F_b10.out)
          have L_g2 := L_b10
          have N_g_g2 : Hid (b10 ≠ g) := hide (by have := N_b10_g.out; omega)
          clear N_b10_g
          have N_g2_q : Hid (b10 ≠ q) := hide (by have := N_b10_q.out; omega)
          clear N_b10_q
          clear F_b10 L_b10 hc2
          generalize V4 = V5 at *
          generalize b10 = g2 at *
          refine wpAnyS_take_all [8] 1 rfl (by kernel_rfl) (by intro c a d v w h; cases d <;> exact h) (by kernel_rfl) (by simp; rfl) rfl (later_of HB.out) ?_
          repeat (go_big_quiet_step (fail))
          refine wpQuiet_nil ?_
          obtain ⟨W3, rfl⟩ : ∃ x, x = V5 := ⟨_, rfl⟩
          have HQ4 := hide F_q.out
          have HB4 := hide HB.out
          have HQ0 := hide Q0.out
          have HV4 := hide (own_le (B' := w.heap.size + 2) F_g.out (by have := HW0.out; omega))
          have HH4 := hide (own_le (B' := w.heap.size + 2) F_g2.out (by have := HW0.out; omega))
          have HF4 := hide (HF0.out.below HB.out)
          have HNV : Hid (g ≠ q) := hide (by have := N_g_q.out; omega)
          have HNH : Hid (∀ k, (Value.slice (some ⟨g2, 0, none⟩) m cap2).ownBlock = some k → k ≠ q ∧ k ≠ g) := hide (fun k hk => by simp [Value.ownBlock] at hk; subst hk; have h1 := N_g2_q.out; have h2 := N_g_g2.out; omega)
          clear HB F_g F_g2 F_q
          have r0 := HQ4.out.2.1 0 _ rfl
          have r1 := HQ4.out.2.1 1 _ rfl
          have r2 := HQ4.out.free 0
          have r3 := HQ4.out.free 1
          have hq4 := HQ4.out.1
          have HS4 : Hid (Below W0.heap.size W0 ((W3.setCell ⟨q, 0, none⟩ (.slice (some ⟨g, 0, none⟩) n cap1)).setCell ⟨q, 1, none⟩ (.slice (some ⟨g2, 0, none⟩) m cap2))) := hide ((HB4.out.setCell HQ0.out _).setCell HQ0.out _)
          have HQ5 : Hid (Row ((W3.setCell ⟨q, 0, none⟩ (.slice (some ⟨g, 0, none⟩) n cap1)).setCell ⟨q, 1, none⟩ (.slice (some ⟨g2, 0, none⟩) m cap2)) q [.slice (some ⟨g, 0, none⟩) n cap1, .slice (some ⟨g2, 0, none⟩) m cap2]) := hide ((HQ4.out.set (k := 0) (by simp) _).set (k := 1) (by simp) _)
          refine wpAnyS_only 10 (by kernel_rfl) (by simp; rfl) rfl rfl (fun K hK => ?_)
          go_wp2_with fail
          refine ⟨later_of HS4.out, ?_⟩
          refine wpAnyH_done (by kernel_rfl) ?_ _
          have HV5 := hide (ownsRow_far (ownsRow_far HV4.out (q := q) (o := 0) (u := .slice (some ⟨g, 0, none⟩) n cap1) (fun e => HNV.out e.symm)) (q := q) (o := 1) (u := .slice (some ⟨g2, 0, none⟩) m cap2) (fun e => HNV.out e.symm))
          have HH5 := hide (own_apart (own_apart HH4.out (grown_set (p := ⟨q, 0, none⟩) (.slice (some ⟨g, 0, none⟩) n cap1) rfl) (fun k hk e => (HNH.out k hk).1 (by injection e))) (grown_set (p := ⟨q, 1, none⟩) (.slice (some ⟨g2, 0, none⟩) m cap2) rfl) (fun k hk e => (HNH.out k hk).1 (by injection e)))
          have HF5 := hide ((HF4.out.far (p := ⟨q, 0, none⟩) (by have := HQ0.out; have := HW0.out; simp; omega) (.slice (some ⟨g, 0, none⟩) n cap1)).far (p := ⟨q, 1, none⟩) (by have := HQ0.out; have := HW0.out; simp; omega) (.slice (some ⟨g2, 0, none⟩) m cap2))
          have hgq : ¬ g = q := HNV.out
          have hgw : w.heap.size < q := by have := HQ0.out; have := HW0.out; omega
          have hgb : w.heap.size + 2 ≤ g := (HV4.out.lt g rfl).1
          have hgw2 : ¬ g = w.heap.size := by omega
          have hgw3 : ¬ g = w.heap.size + 1 := by omega
          have HC4 := hide (cell_on hc0 HS4.out)
          clear hc0 hc1
          generalize (W3.setCell ⟨q, 0, none⟩ (.slice (some ⟨g, 0, none⟩) n cap1)).setCell ⟨q, 1, none⟩ (.slice (some ⟨g2, 0, none⟩) m cap2) = W4 at *
          clear r0 r1 r2 r3 hq4
          have r0 := HQ5.out.2.1 0 _ rfl
          have r1 := HQ5.out.2.1 1 _ rfl
          have hq4 := HQ5.out.1
          have f0 := HF5.out.2.1 0 _ rfl
          have f1 := HF5.out.2.1 1 _ rfl
          have f2 := HF5.out.free 0
          have f3 := HF5.out.free 1
          have hf4 := HF5.out.1
          obtain ⟨⟨p0, p1⟩, hp⟩ : ∃ h, M[i]? = some h := ⟨_, List.getElem?_eq_getElem (by rw [← Hn.out]; exact hi)⟩
          obtain ⟨g', off', hA, -, d0, d1⟩ := (own_rd HV5.out).get2 (fun _ => rfl) hp rfl
          simp only [Option.some.injEq, Addr.mk.injEq, and_true] at hA
          obtain ⟨rfl, rfl⟩ := hA
          have d2 := World.ownsRow.frozenAt HV5.out (i * 2 + 1)
          have hg4 := (HV5.out.lt g rfl).2
          rw [Nat.zero_add] at d1
          dsimp only at d1
          have e0 := World.ownsRow.frozenAt HV5.out (i * 2)
          rw [Nat.zero_add] at d0
          dsimp only at d0
          have HST := (World.ownsRow.stored (World.ownsRow.stored HV5.out (i * 2 + 0) (.int .i64 p0)).1 (i * 2 + 1) (.int .i64 0)).1
          rw [flat_set mcells 2 (fun _ => rfl) 0 (by omega) (.int .i64 p0) (p0, p1) M i _ hp rfl, flat_set mcells 2 (fun _ => rfl) 1 (by omega) (.int .i64 0) (par M i, 0) (M.set i (p0, p1)) i (p0, p1) (by rw [List.getElem?_set_self (by rw [← Hn.out]; exact hi)]) (by rw [par_some hp]; rfl), List.set_set, Nat.add_zero] at HST
          have HST := hide HST
          have hcx := HC4.out
          have HRX := hide ((HR0.out.1.below HS4.out).get2 (fun _ => rfl) hp rfl)
          obtain ⟨b9, o9, hA9, hb9, d3, d4⟩ := HRX.out
          simp only [Option.some.injEq, Addr.mk.injEq, and_true] at hA9
          obtain ⟨rfl, rfl⟩ := hA9
          dsimp only at d3 d4
          clear hp
          go_wp2_with fail
          go_region
          have HB6 := hide (((below_step HB0.out HS4.out).setCell (p := ⟨g, i * 2, none⟩) (show w.heap.size ≤ g by omega) (.int .i64 p0)).setCell (p := ⟨g, i * 2 + 1, none⟩) (show w.heap.size ≤ g by omega) (.int .i64 0)).drew
          have HH6 := hide (own_apart (own_apart HH5.out (grown_set (p := ⟨g, i * 2, none⟩) (.int .i64 p0) rfl) (fun k hk e => (HNH.out k hk).2 (by injection e))) (grown_set (p := ⟨g, i * 2 + 1, none⟩) (.int .i64 0) rfl) (fun k hk e => (HNH.out k hk).2 (by injection e)))
          have HF6 := hide ((HF5.out.far (p := ⟨g, i * 2, none⟩) (by simp; omega) (.int .i64 p0)).far (p := ⟨g, i * 2 + 1, none⟩) (by simp; omega) (.int .i64 0)).drew
          have HQ6 := hide ((HQ5.out.far (p := ⟨g, i * 2, none⟩) (by simp; omega) (.int .i64 p0)).far (p := ⟨g, i * 2 + 1, none⟩) (by simp; omega) (.int .i64 0)).drew
          have HV6 : Hid (((W4.setCell ⟨g, i * 2, none⟩ (.int .i64 p0)).setCell ⟨g, i * 2 + 1, none⟩ (.int .i64 0)).drew.ownsRow (w.heap.size + 2) 36 2 (.slice (some ⟨g, 0, none⟩) n cap1) n ((closeM M i).flatMap mcells)) := hide HST.out
          have HH7 : Hid (((W4.setCell ⟨g, i * 2, none⟩ (.int .i64 p0)).setCell ⟨g, i * 2 + 1, none⟩ (.int .i64 0)).drew.ownsRow (w.heap.size + 2) 73 2 (.slice (some ⟨g2, 0, none⟩) m cap2) m (H.flatMap mcells)) := hide HH6.out
          clear HST HH6 r0 r1 hq4 f0 f1 f2 f3 hf4 d0 d1 d2 d3 d4 e0 hg4 hcx HC4 HRX
          generalize ((W4.setCell ⟨g, i * 2, none⟩ (.int .i64 p0)).setCell ⟨g, i * 2 + 1, none⟩ (.int .i64 0)).drew = W6 at *
          have r0 := HQ6.out.2.1 0 _ rfl
          have r1 := HQ6.out.2.1 1 _ rfl
          have hq4 := HQ6.out.1
          have f0 := HF6.out.2.1 0 _ rfl
          have f1 := HF6.out.2.1 1 _ rfl
          have f2 := HF6.out.free 0
          have f3 := HF6.out.free 1
          have hf4 := HF6.out.1
          have hq5 : ¬ q = w.heap.size + 1 := by have := HQ0.out; have := HW0.out; omega
          go_wp2
          refine bodyPost_ret (v := .agg #[.slice (some ⟨g, 0, none⟩) n cap1, .slice (some ⟨g2, 0, none⟩) m cap2]) (by simp [results, Tryz.results54, go_sem, *]) rfl ⟨⟨_, _, rfl, ?_, ?_⟩, ?_⟩
          · have h := own_far_any (own_far_any HV6.out (q := w.heap.size + 1) (o := 0) (u := .slice (some ⟨g, 0, none⟩) n cap1) (by omega)) (q := w.heap.size + 1) (o := 1) (u := .slice (some ⟨g2, 0, none⟩) m cap2) (by omega)
            have h2 := own_le h (B' := w.heap.size) (by omega)
            rw [show (closeM M i).length = n by rw [closeM, List.length_set]; exact Hn.out.symm]
            exact h2
          · have h1 := own_far_any (own_far_any HH7.out (q := w.heap.size + 1) (o := 0) (u := .slice (some ⟨g, 0, none⟩) n cap1) (by omega)) (q := w.heap.size + 1) (o := 1) (u := .slice (some ⟨g2, 0, none⟩) m cap2) (by omega)
            have h2 := own_le h1 (B' := w.heap.size) (by omega)
            rw [← show m = H.length from Hm.out]
            exact h2
          · exact (HB6.out.setCell (p := ⟨w.heap.size + 1, 0, none⟩) (Nat.le_succ _) _).setCell (p := ⟨w.heap.size + 1, 1, none⟩) (Nat.le_succ _) _
      · go_wp2_with fail
        have HB' : Hid (Below W0.heap.size W0 (V2.alloc (.cells #[.slice none 0 0, .slice none 0 0] 27))) := hide (below_alloc HB.out _)
        refine ⟨later_of HB'.out, ?_⟩
        replace F_b6 := hide (World.ownsRow.alloc F_b6.out (.cells #[.slice none 0 0, .slice none 0 0] 27))
        have N_b6_q : Hid (V2.heap.size ≠ b6) := hide (by have := L_b6.out; omega)
        replace L_b6 : Hid (b6 < (V2.alloc (.cells #[.slice none 0 0, .slice none 0 0] 27)).heap.size) := hide (by have := L_b6.out; simp; omega)
        replace F_b10 := hide (World.ownsRow.alloc F_b10.out (.cells #[.slice none 0 0, .slice none 0 0] 27))
        have N_b10_q : Hid (V2.heap.size ≠ b10) := hide (by have := L_b10.out; omega)
        replace L_b10 : Hid (b10 < (V2.alloc (.cells #[.slice none 0 0, .slice none 0 0] 27)).heap.size) := hide (by have := L_b10.out; simp; omega)
        have F_q := hide (Row.new V2 #[.slice none 0 0, .slice none 0 0] 27)
        have Q0 : Hid (W0.heap.size ≤ V2.heap.size) := hide HB.out.size
        have L_q : Hid (V2.heap.size < (V2.alloc (.cells #[.slice none 0 0, .slice none 0 0] 27)).heap.size) := hide (by simp)
        clear HB
        have HB := hide HB'.out
        clear HB'
        generalize (V2.alloc (.cells #[.slice none 0 0, .slice none 0 0] 27)) = V3 at *
        generalize V2.heap.size = q at *
        refine wpAnyS_only 3 (by kernel_rfl) (by simp; rfl) rfl rfl (fun K hK => ?_)
        refine wp_append_at (.tmp 6) (.tmp 8) 24 rfl W0.heap.size 36 i0 _ 2 16 Tryz.underlying24 Hi0.out Hz.out.1 Hz.out.2.1 Hz.out.2.2 rfl (by decide) b6 0 0 [] rfl F_b6.out ⟨bA, oA, none⟩ n c (M.flatMap mcells) rfl HLM.out (Rd.add (HR0.out.1.below HB.out)) (mcells_one M) (by unfold maxLen; omega) (by omega) HB.out.size (fun g cap1 V4 hown hgrow hg hlt => ?_)
        rw [Nat.zero_add] at hown ⊢
        have HB' := hide (HB.out.grown hgrow HB.out.size (fun k hk => by injection hk with hk; have := (F_b6.out.lt b6 rfl).1; omega))
        replace F_b10 := hide (own_apart F_b10.out hgrow (fun k hk e => by simp [Value.ownBlock] at hk; injection e with e; exact N_b10_b6.out (by omega)))
        have N_b10_g : Hid (g ≠ b10) := hide (by have := L_b10.out; have := N_b10_b6.out; omega)
        replace F_q := hide (F_q.out.grown hgrow (fun e => by injection e with e; exact N_b6_q.out (by omega)))
        have N_g_q : Hid (g ≠ q) := hide (by have := L_q.out; have := N_b6_q.out; omega)
        replace L_b10 : Hid (b10 < V4.heap.size) := hide (by have := L_b10.out; have := hgrow.size; omega)
        clear N_b10_b6
        replace L_q : Hid (q < V4.heap.size) := hide (by have := L_q.out; have := hgrow.size; omega)
        clear N_b6_q
        have F_g : Hid (V4.ownsRow W0.heap.size 36 2 (.slice (some ⟨g, 0, none⟩) n cap1) n (M.flatMap mcells)) := hide (by simpa using hown)
        have L_g : Hid (g < V4.heap.size) := hide hlt
        clear HB hown hgrow hg hlt F_b6 L_b6
        have HB := hide HB'.out
        clear HB'
        refine hK _ _ ⟨later_of HB.out, ?_⟩
        simp only [Act.put, List.setIfInBounds_toArray, List.set_cons_succ, List.set_cons_zero]
        refine wpAnyS_only 7 (by kernel_rfl) (by simp; rfl) rfl rfl (fun K hK => ?_)
        refine wp_append_nilN (.tmp 10) (.tmp 12) 25 rfl W0.heap.size 73 i1 2 Tryz.underlying25 Hi1.out (.slice (some ⟨b10, 0, none⟩) 0 0) 0 [] rfl F_b10.out d (show Value.slice none m d = .slice none 0 d by rw [HM0.out]) (hK _ _ ⟨later_of HB.out, ?_⟩)
        simp only [Act.put, List.setIfInBounds_toArray, List.set_cons_succ, List.set_cons_zero]
        obtain ⟨cap2, hc2⟩ : ∃ cap2, Value.slice (some ⟨b10, 0, none⟩) 0 0 = .slice (some ⟨b10, 0, none⟩) m cap2 := ⟨0, by rw [HM0.out]⟩
        rw [hc2]
        have F_g2 : Hid (V4.ownsRow W0.heap.size 73 2 (.slice (some ⟨b10, 0, none⟩) m cap2) m (H.flatMap mcells)) := hide (by rw [← hc2, HM0.out, HH0.out]; exact F_b10.out)
        have L_g2 := L_b10
        have N_g_g2 : Hid (b10 ≠ g) := hide (by have := N_b10_g.out; omega)
        clear N_b10_g
        have N_g2_q : Hid (b10 ≠ q) := hide (by have := N_b10_q.out; omega)
        clear N_b10_q
        clear F_b10 L_b10 hc2
        generalize V4 = V5 at *
        generalize b10 = g2 at *
        refine wpAnyS_take_all [8] 1 rfl (by kernel_rfl) (by intro c a d v w h; cases d <;> exact h) (by kernel_rfl) (by simp; rfl) rfl (later_of HB.out) ?_
        repeat (go_big_quiet_step (fail))
        refine wpQuiet_nil ?_
        obtain ⟨W3, rfl⟩ : ∃ x, x = V5 := ⟨_, rfl⟩
        have HQ4 := hide F_q.out
        have HB4 := hide HB.out
        have HQ0 := hide Q0.out
        have HV4 := hide (own_le (B' := w.heap.size + 2) F_g.out (by have := HW0.out; omega))
        have HH4 := hide (own_le (B' := w.heap.size + 2) F_g2.out (by have := HW0.out; omega))
        have HF4 := hide (HF0.out.below HB.out)
        have HNV : Hid (g ≠ q) := hide (by have := N_g_q.out; omega)
        have HNH : Hid (∀ k, (Value.slice (some ⟨g2, 0, none⟩) m cap2).ownBlock = some k → k ≠ q ∧ k ≠ g) := hide (fun k hk => by simp [Value.ownBlock] at hk; subst hk; have h1 := N_g2_q.out; have h2 := N_g_g2.out; omega)
        clear HB F_g F_g2 F_q
        have r0 := HQ4.out.2.1 0 _ rfl
        have r1 := HQ4.out.2.1 1 _ rfl
        have r2 := HQ4.out.free 0
        have r3 := HQ4.out.free 1
        have hq4 := HQ4.out.1
        have HS4 : Hid (Below W0.heap.size W0 ((W3.setCell ⟨q, 0, none⟩ (.slice (some ⟨g, 0, none⟩) n cap1)).setCell ⟨q, 1, none⟩ (.slice (some ⟨g2, 0, none⟩) m cap2))) := hide ((HB4.out.setCell HQ0.out _).setCell HQ0.out _)
        have HQ5 : Hid (Row ((W3.setCell ⟨q, 0, none⟩ (.slice (some ⟨g, 0, none⟩) n cap1)).setCell ⟨q, 1, none⟩ (.slice (some ⟨g2, 0, none⟩) m cap2)) q [.slice (some ⟨g, 0, none⟩) n cap1, .slice (some ⟨g2, 0, none⟩) m cap2]) := hide ((HQ4.out.set (k := 0) (by simp) _).set (k := 1) (by simp) _)
        refine wpAnyS_only 10 (by kernel_rfl) (by simp; rfl) rfl rfl (fun K hK => ?_)
        go_wp2_with fail
        refine ⟨later_of HS4.out, ?_⟩
        refine wpAnyH_done (by kernel_rfl) ?_ _
        have HV5 := hide (ownsRow_far (ownsRow_far HV4.out (q := q) (o := 0) (u := .slice (some ⟨g, 0, none⟩) n cap1) (fun e => HNV.out e.symm)) (q := q) (o := 1) (u := .slice (some ⟨g2, 0, none⟩) m cap2) (fun e => HNV.out e.symm))
        have HH5 := hide (own_apart (own_apart HH4.out (grown_set (p := ⟨q, 0, none⟩) (.slice (some ⟨g, 0, none⟩) n cap1) rfl) (fun k hk e => (HNH.out k hk).1 (by injection e))) (grown_set (p := ⟨q, 1, none⟩) (.slice (some ⟨g2, 0, none⟩) m cap2) rfl) (fun k hk e => (HNH.out k hk).1 (by injection e)))
        have HF5 := hide ((HF4.out.far (p := ⟨q, 0, none⟩) (by have := HQ0.out; have := HW0.out; simp; omega) (.slice (some ⟨g, 0, none⟩) n cap1)).far (p := ⟨q, 1, none⟩) (by have := HQ0.out; have := HW0.out; simp; omega) (.slice (some ⟨g2, 0, none⟩) m cap2))
        have hgq : ¬ g = q := HNV.out
        have hgw : w.heap.size < q := by have := HQ0.out; have := HW0.out; omega
        have hgb : w.heap.size + 2 ≤ g := (HV4.out.lt g rfl).1
        have hgw2 : ¬ g = w.heap.size := by omega
        have hgw3 : ¬ g = w.heap.size + 1 := by omega
        have HC4 := hide (cell_on hc0 HS4.out)
        clear hc0 hc1
        generalize (W3.setCell ⟨q, 0, none⟩ (.slice (some ⟨g, 0, none⟩) n cap1)).setCell ⟨q, 1, none⟩ (.slice (some ⟨g2, 0, none⟩) m cap2) = W4 at *
        clear r0 r1 r2 r3 hq4
        have r0 := HQ5.out.2.1 0 _ rfl
        have r1 := HQ5.out.2.1 1 _ rfl
        have hq4 := HQ5.out.1
        have f0 := HF5.out.2.1 0 _ rfl
        have f1 := HF5.out.2.1 1 _ rfl
        have f2 := HF5.out.free 0
        have f3 := HF5.out.free 1
        have hf4 := HF5.out.1
        obtain ⟨⟨p0, p1⟩, hp⟩ : ∃ h, M[i]? = some h := ⟨_, List.getElem?_eq_getElem (by rw [← Hn.out]; exact hi)⟩
        obtain ⟨g', off', hA, -, d0, d1⟩ := (own_rd HV5.out).get2 (fun _ => rfl) hp rfl
        simp only [Option.some.injEq, Addr.mk.injEq, and_true] at hA
        obtain ⟨rfl, rfl⟩ := hA
        have d2 := World.ownsRow.frozenAt HV5.out (i * 2 + 1)
        have hg4 := (HV5.out.lt g rfl).2
        rw [Nat.zero_add] at d1
        dsimp only at d1
        have e0 := World.ownsRow.frozenAt HV5.out (i * 2)
        rw [Nat.zero_add] at d0
        dsimp only at d0
        have HST := (World.ownsRow.stored (World.ownsRow.stored HV5.out (i * 2 + 0) (.int .i64 p0)).1 (i * 2 + 1) (.int .i64 0)).1
        rw [flat_set mcells 2 (fun _ => rfl) 0 (by omega) (.int .i64 p0) (p0, p1) M i _ hp rfl, flat_set mcells 2 (fun _ => rfl) 1 (by omega) (.int .i64 0) (par M i, 0) (M.set i (p0, p1)) i (p0, p1) (by rw [List.getElem?_set_self (by rw [← Hn.out]; exact hi)]) (by rw [par_some hp]; rfl), List.set_set, Nat.add_zero] at HST
        have HST := hide HST
        have hcx := HC4.out
        have HRX := hide ((HR0.out.1.below HS4.out).get2 (fun _ => rfl) hp rfl)
        obtain ⟨b9, o9, hA9, hb9, d3, d4⟩ := HRX.out
        simp only [Option.some.injEq, Addr.mk.injEq, and_true] at hA9
        obtain ⟨rfl, rfl⟩ := hA9
        dsimp only at d3 d4
        clear hp
        go_wp2_with fail
        go_region
        have HB6 := hide (((below_step HB0.out HS4.out).setCell (p := ⟨g, i * 2, none⟩) (show w.heap.size ≤ g by omega) (.int .i64 p0)).setCell (p := ⟨g, i * 2 + 1, none⟩) (show w.heap.size ≤ g by omega) (.int .i64 0)).drew
        have HH6 := hide (own_apart (own_apart HH5.out (grown_set (p := ⟨g, i * 2, none⟩) (.int .i64 p0) rfl) (fun k hk e => (HNH.out k hk).2 (by injection e))) (grown_set (p := ⟨g, i * 2 + 1, none⟩) (.int .i64 0) rfl) (fun k hk e => (HNH.out k hk).2 (by injection e)))
        have HF6 := hide ((HF5.out.far (p := ⟨g, i * 2, none⟩) (by simp; omega) (.int .i64 p0)).far (p := ⟨g, i * 2 + 1, none⟩) (by simp; omega) (.int .i64 0)).drew
        have HQ6 := hide ((HQ5.out.far (p := ⟨g, i * 2, none⟩) (by simp; omega) (.int .i64 p0)).far (p := ⟨g, i * 2 + 1, none⟩) (by simp; omega) (.int .i64 0)).drew
        have HV6 : Hid (((W4.setCell ⟨g, i * 2, none⟩ (.int .i64 p0)).setCell ⟨g, i * 2 + 1, none⟩ (.int .i64 0)).drew.ownsRow (w.heap.size + 2) 36 2 (.slice (some ⟨g, 0, none⟩) n cap1) n ((closeM M i).flatMap mcells)) := hide HST.out
        have HH7 : Hid (((W4.setCell ⟨g, i * 2, none⟩ (.int .i64 p0)).setCell ⟨g, i * 2 + 1, none⟩ (.int .i64 0)).drew.ownsRow (w.heap.size + 2) 73 2 (.slice (some ⟨g2, 0, none⟩) m cap2) m (H.flatMap mcells)) := hide HH6.out
        clear HST HH6 r0 r1 hq4 f0 f1 f2 f3 hf4 d0 d1 d2 d3 d4 e0 hg4 hcx HC4 HRX
        generalize ((W4.setCell ⟨g, i * 2, none⟩ (.int .i64 p0)).setCell ⟨g, i * 2 + 1, none⟩ (.int .i64 0)).drew = W6 at *
        have r0 := HQ6.out.2.1 0 _ rfl
        have r1 := HQ6.out.2.1 1 _ rfl
        have hq4 := HQ6.out.1
        have f0 := HF6.out.2.1 0 _ rfl
        have f1 := HF6.out.2.1 1 _ rfl
        have f2 := HF6.out.free 0
        have f3 := HF6.out.free 1
        have hf4 := HF6.out.1
        have hq5 : ¬ q = w.heap.size + 1 := by have := HQ0.out; have := HW0.out; omega
        go_wp2
        refine bodyPost_ret (v := .agg #[.slice (some ⟨g, 0, none⟩) n cap1, .slice (some ⟨g2, 0, none⟩) m cap2]) (by simp [results, Tryz.results54, go_sem, *]) rfl ⟨⟨_, _, rfl, ?_, ?_⟩, ?_⟩
        · have h := own_far_any (own_far_any HV6.out (q := w.heap.size + 1) (o := 0) (u := .slice (some ⟨g, 0, none⟩) n cap1) (by omega)) (q := w.heap.size + 1) (o := 1) (u := .slice (some ⟨g2, 0, none⟩) m cap2) (by omega)
          have h2 := own_le h (B' := w.heap.size) (by omega)
          rw [show (closeM M i).length = n by rw [closeM, List.length_set]; exact Hn.out.symm]
          exact h2
        · have h1 := own_far_any (own_far_any HH7.out (q := w.heap.size + 1) (o := 0) (u := .slice (some ⟨g, 0, none⟩) n cap1) (by omega)) (q := w.heap.size + 1) (o := 1) (u := .slice (some ⟨g2, 0, none⟩) m cap2) (by omega)
          have h2 := own_le h1 (B' := w.heap.size) (by omega)
          rw [← show m = H.length from Hm.out]
          exact h2
        · exact (HB6.out.setCell (p := ⟨w.heap.size + 1, 0, none⟩) (Nat.le_succ _) _).setCell (p := ⟨w.heap.size + 1, 1, none⟩) (Nat.le_succ _) _
    · go_wp2_with fail
      have HB' : Hid (Below W0.heap.size W0 (V1.alloc (.cells #[.slice none 0 0, .slice none 0 0] 27))) := hide (below_alloc HB.out _)
      refine ⟨later_of HB'.out, ?_⟩
      replace F_b10 := hide (World.ownsRow.alloc F_b10.out (.cells #[.slice none 0 0, .slice none 0 0] 27))
      have N_b10_q : Hid (V1.heap.size ≠ b10) := hide (by have := L_b10.out; omega)
      replace L_b10 : Hid (b10 < (V1.alloc (.cells #[.slice none 0 0, .slice none 0 0] 27)).heap.size) := hide (by have := L_b10.out; simp; omega)
      have F_q := hide (Row.new V1 #[.slice none 0 0, .slice none 0 0] 27)
      have Q0 : Hid (W0.heap.size ≤ V1.heap.size) := hide HB.out.size
      have L_q : Hid (V1.heap.size < (V1.alloc (.cells #[.slice none 0 0, .slice none 0 0] 27)).heap.size) := hide (by simp)
      clear HB
      have HB := hide HB'.out
      clear HB'
      generalize (V1.alloc (.cells #[.slice none 0 0, .slice none 0 0] 27)) = V2 at *
      generalize V1.heap.size = q at *
      refine wpAnyS_only 0 (by kernel_rfl) (by simp; rfl) rfl rfl (fun K hK => ?_)
      go_wp2_with fail
      have HB' : Hid (Below W0.heap.size W0 (V2.alloc (.cells #[] 36))) := hide (below_alloc HB.out _)
      refine ⟨later_of HB'.out, ?_⟩
      replace F_b10 := hide (World.ownsRow.alloc F_b10.out (.cells #[] 36))
      have N_b10_b6 : Hid (V2.heap.size ≠ b10) := hide (by have := L_b10.out; omega)
      replace L_b10 : Hid (b10 < (V2.alloc (.cells #[] 36)).heap.size) := hide (by have := L_b10.out; simp; omega)
      replace F_q := hide (F_q.out.alloc (.cells #[] 36))
      have N_b6_q : Hid (V2.heap.size ≠ q) := hide (by have := L_q.out; omega)
      replace L_q : Hid (q < (V2.alloc (.cells #[] 36)).heap.size) := hide (by have := L_q.out; simp; omega)
      have F_b6 : Hid ((V2.alloc (.cells #[] 36)).ownsRow W0.heap.size 36 2 (.slice (some ⟨V2.heap.size, 0, none⟩) 0 0) 0 []) := hide (World.ownsRow_made V2 #[] 0 HB.out.size (Nat.zero_le _) rfl)
      have L_b6 : Hid (V2.heap.size < (V2.alloc (.cells #[] 36)).heap.size) := hide (by simp)
      clear HB
      have HB := hide HB'.out
      clear HB'
      generalize (V2.alloc (.cells #[] 36)) = V3 at *
      generalize V2.heap.size = b6 at *
      refine wpAnyS_only 3 (by kernel_rfl) (by simp; rfl) rfl rfl (fun K hK => ?_)
      refine wp_append_at (.tmp 6) (.tmp 8) 24 rfl W0.heap.size 36 i0 _ 2 16 Tryz.underlying24 Hi0.out Hz.out.1 Hz.out.2.1 Hz.out.2.2 rfl (by decide) b6 0 0 [] rfl F_b6.out ⟨bA, oA, none⟩ n c (M.flatMap mcells) rfl HLM.out (Rd.add (HR0.out.1.below HB.out)) (mcells_one M) (by unfold maxLen; omega) (by omega) HB.out.size (fun g cap1 V4 hown hgrow hg hlt => ?_)
      rw [Nat.zero_add] at hown ⊢
      have HB' := hide (HB.out.grown hgrow HB.out.size (fun k hk => by injection hk with hk; have := (F_b6.out.lt b6 rfl).1; omega))
      replace F_b10 := hide (own_apart F_b10.out hgrow (fun k hk e => by simp [Value.ownBlock] at hk; injection e with e; exact N_b10_b6.out (by omega)))
      have N_b10_g : Hid (g ≠ b10) := hide (by have := L_b10.out; have := N_b10_b6.out; omega)
      replace F_q := hide (F_q.out.grown hgrow (fun e => by injection e with e; exact N_b6_q.out (by omega)))
      have N_g_q : Hid (g ≠ q) := hide (by have := L_q.out; have := N_b6_q.out; omega)
      replace L_b10 : Hid (b10 < V4.heap.size) := hide (by have := L_b10.out; have := hgrow.size; omega)
      clear N_b10_b6
      replace L_q : Hid (q < V4.heap.size) := hide (by have := L_q.out; have := hgrow.size; omega)
      clear N_b6_q
      have F_g : Hid (V4.ownsRow W0.heap.size 36 2 (.slice (some ⟨g, 0, none⟩) n cap1) n (M.flatMap mcells)) := hide (by simpa using hown)
      have L_g : Hid (g < V4.heap.size) := hide hlt
      clear HB hown hgrow hg hlt F_b6 L_b6
      have HB := hide HB'.out
      clear HB'
      refine hK _ _ ⟨later_of HB.out, ?_⟩
      simp only [Act.put, List.setIfInBounds_toArray, List.set_cons_succ, List.set_cons_zero]
      refine wpAnyS_only 7 (by kernel_rfl) (by simp; rfl) rfl rfl (fun K hK => ?_)
      refine wp_append_nilN (.tmp 10) (.tmp 12) 25 rfl W0.heap.size 73 i1 2 Tryz.underlying25 Hi1.out (.slice (some ⟨b10, 0, none⟩) 0 0) 0 [] rfl F_b10.out d (show Value.slice none m d = .slice none 0 d by rw [HM0.out]) (hK _ _ ⟨later_of HB.out, ?_⟩)
      simp only [Act.put, List.setIfInBounds_toArray, List.set_cons_succ, List.set_cons_zero]
      obtain ⟨cap2, hc2⟩ : ∃ cap2, Value.slice (some ⟨b10, 0, none⟩) 0 0 = .slice (some ⟨b10, 0, none⟩) m cap2 := ⟨0, by rw [HM0.out]⟩
      rw [hc2]
      have F_g2 : Hid (V4.ownsRow W0.heap.size 73 2 (.slice (some ⟨b10, 0, none⟩) m cap2) m (H.flatMap mcells)) := hide (by rw [← hc2, HM0.out, HH0.out]; exact F_b10.out)
      have L_g2 := L_b10
      have N_g_g2 : Hid (b10 ≠ g) := hide (by have := N_b10_g.out; omega)
      clear N_b10_g
      have N_g2_q : Hid (b10 ≠ q) := hide (by have := N_b10_q.out; omega)
      clear N_b10_q
      clear F_b10 L_b10 hc2
      generalize V4 = V5 at *
      generalize b10 = g2 at *
      refine wpAnyS_take_all [8] 1 rfl (by kernel_rfl) (by intro c a d v w h; cases d <;> exact h) (by kernel_rfl) (by simp; rfl) rfl (later_of HB.out) ?_
      repeat (go_big_quiet_step (fail))
      refine wpQuiet_nil ?_
      obtain ⟨W3, rfl⟩ : ∃ x, x = V5 := ⟨_, rfl⟩
      have HQ4 := hide F_q.out
      have HB4 := hide HB.out
      have HQ0 := hide Q0.out
      have HV4 := hide (own_le (B' := w.heap.size + 2) F_g.out (by have := HW0.out; omega))
      have HH4 := hide (own_le (B' := w.heap.size + 2) F_g2.out (by have := HW0.out; omega))
      have HF4 := hide (HF0.out.below HB.out)
      have HNV : Hid (g ≠ q) := hide (by have := N_g_q.out; omega)
      have HNH : Hid (∀ k, (Value.slice (some ⟨g2, 0, none⟩) m cap2).ownBlock = some k → k ≠ q ∧ k ≠ g) := hide (fun k hk => by simp [Value.ownBlock] at hk; subst hk; have h1 := N_g2_q.out; have h2 := N_g_g2.out; omega)
      clear HB F_g F_g2 F_q
      have r0 := HQ4.out.2.1 0 _ rfl
      have r1 := HQ4.out.2.1 1 _ rfl
      have r2 := HQ4.out.free 0
      have r3 := HQ4.out.free 1
      have hq4 := HQ4.out.1
      have HS4 : Hid (Below W0.heap.size W0 ((W3.setCell ⟨q, 0, none⟩ (.slice (some ⟨g, 0, none⟩) n cap1)).setCell ⟨q, 1, none⟩ (.slice (some ⟨g2, 0, none⟩) m cap2))) := hide ((HB4.out.setCell HQ0.out _).setCell HQ0.out _)
      have HQ5 : Hid (Row ((W3.setCell ⟨q, 0, none⟩ (.slice (some ⟨g, 0, none⟩) n cap1)).setCell ⟨q, 1, none⟩ (.slice (some ⟨g2, 0, none⟩) m cap2)) q [.slice (some ⟨g, 0, none⟩) n cap1, .slice (some ⟨g2, 0, none⟩) m cap2]) := hide ((HQ4.out.set (k := 0) (by simp) _).set (k := 1) (by simp) _)
      refine wpAnyS_only 10 (by kernel_rfl) (by simp; rfl) rfl rfl (fun K hK => ?_)
      go_wp2_with fail
      refine ⟨later_of HS4.out, ?_⟩
      refine wpAnyH_done (by kernel_rfl) ?_ _
      have HV5 := hide (ownsRow_far (ownsRow_far HV4.out (q := q) (o := 0) (u := .slice (some ⟨g, 0, none⟩) n cap1) (fun e => HNV.out e.symm)) (q := q) (o := 1) (u := .slice (some ⟨g2, 0, none⟩) m cap2) (fun e => HNV.out e.symm))
      have HH5 := hide (own_apart (own_apart HH4.out (grown_set (p := ⟨q, 0, none⟩) (.slice (some ⟨g, 0, none⟩) n cap1) rfl) (fun k hk e => (HNH.out k hk).1 (by injection e))) (grown_set (p := ⟨q, 1, none⟩) (.slice (some ⟨g2, 0, none⟩) m cap2) rfl) (fun k hk e => (HNH.out k hk).1 (by injection e)))
      have HF5 := hide ((HF4.out.far (p := ⟨q, 0, none⟩) (by have := HQ0.out; have := HW0.out; simp; omega) (.slice (some ⟨g, 0, none⟩) n cap1)).far (p := ⟨q, 1, none⟩) (by have := HQ0.out; have := HW0.out; simp; omega) (.slice (some ⟨g2, 0, none⟩) m cap2))
      have hgq : ¬ g = q := HNV.out
      have hgw : w.heap.size < q := by have := HQ0.out; have := HW0.out; omega
      have hgb : w.heap.size + 2 ≤ g := (HV4.out.lt g rfl).1
      have hgw2 : ¬ g = w.heap.size := by omega
      have hgw3 : ¬ g = w.heap.size + 1 := by omega
      have HC4 := hide (cell_on hc0 HS4.out)
      clear hc0 hc1
      generalize (W3.setCell ⟨q, 0, none⟩ (.slice (some ⟨g, 0, none⟩) n cap1)).setCell ⟨q, 1, none⟩ (.slice (some ⟨g2, 0, none⟩) m cap2) = W4 at *
      clear r0 r1 r2 r3 hq4
      have r0 := HQ5.out.2.1 0 _ rfl
      have r1 := HQ5.out.2.1 1 _ rfl
      have hq4 := HQ5.out.1
      have f0 := HF5.out.2.1 0 _ rfl
      have f1 := HF5.out.2.1 1 _ rfl
      have f2 := HF5.out.free 0
      have f3 := HF5.out.free 1
      have hf4 := HF5.out.1
      obtain ⟨⟨p0, p1⟩, hp⟩ : ∃ h, M[i]? = some h := ⟨_, List.getElem?_eq_getElem (by rw [← Hn.out]; exact hi)⟩
      obtain ⟨g', off', hA, -, d0, d1⟩ := (own_rd HV5.out).get2 (fun _ => rfl) hp rfl
      simp only [Option.some.injEq, Addr.mk.injEq, and_true] at hA
      obtain ⟨rfl, rfl⟩ := hA
      have d2 := World.ownsRow.frozenAt HV5.out (i * 2 + 1)
      have hg4 := (HV5.out.lt g rfl).2
      rw [Nat.zero_add] at d1
      dsimp only at d1
      have e0 := World.ownsRow.frozenAt HV5.out (i * 2)
      rw [Nat.zero_add] at d0
      dsimp only at d0
      have HST := (World.ownsRow.stored (World.ownsRow.stored HV5.out (i * 2 + 0) (.int .i64 p0)).1 (i * 2 + 1) (.int .i64 0)).1
      rw [flat_set mcells 2 (fun _ => rfl) 0 (by omega) (.int .i64 p0) (p0, p1) M i _ hp rfl, flat_set mcells 2 (fun _ => rfl) 1 (by omega) (.int .i64 0) (par M i, 0) (M.set i (p0, p1)) i (p0, p1) (by rw [List.getElem?_set_self (by rw [← Hn.out]; exact hi)]) (by rw [par_some hp]; rfl), List.set_set, Nat.add_zero] at HST
      have HST := hide HST
      have hcx := HC4.out
      have HRX := hide ((HR0.out.1.below HS4.out).get2 (fun _ => rfl) hp rfl)
      obtain ⟨b9, o9, hA9, hb9, d3, d4⟩ := HRX.out
      simp only [Option.some.injEq, Addr.mk.injEq, and_true] at hA9
      obtain ⟨rfl, rfl⟩ := hA9
      dsimp only at d3 d4
      clear hp
      go_wp2_with fail
      go_region
      have HB6 := hide (((below_step HB0.out HS4.out).setCell (p := ⟨g, i * 2, none⟩) (show w.heap.size ≤ g by omega) (.int .i64 p0)).setCell (p := ⟨g, i * 2 + 1, none⟩) (show w.heap.size ≤ g by omega) (.int .i64 0)).drew
      have HH6 := hide (own_apart (own_apart HH5.out (grown_set (p := ⟨g, i * 2, none⟩) (.int .i64 p0) rfl) (fun k hk e => (HNH.out k hk).2 (by injection e))) (grown_set (p := ⟨g, i * 2 + 1, none⟩) (.int .i64 0) rfl) (fun k hk e => (HNH.out k hk).2 (by injection e)))
      have HF6 := hide ((HF5.out.far (p := ⟨g, i * 2, none⟩) (by simp; omega) (.int .i64 p0)).far (p := ⟨g, i * 2 + 1, none⟩) (by simp; omega) (.int .i64 0)).drew
      have HQ6 := hide ((HQ5.out.far (p := ⟨g, i * 2, none⟩) (by simp; omega) (.int .i64 p0)).far (p := ⟨g, i * 2 + 1, none⟩) (by simp; omega) (.int .i64 0)).drew
      have HV6 : Hid (((W4.setCell ⟨g, i * 2, none⟩ (.int .i64 p0)).setCell ⟨g, i * 2 + 1, none⟩ (.int .i64 0)).drew.ownsRow (w.heap.size + 2) 36 2 (.slice (some ⟨g, 0, none⟩) n cap1) n ((closeM M i).flatMap mcells)) := hide HST.out
      have HH7 : Hid (((W4.setCell ⟨g, i * 2, none⟩ (.int .i64 p0)).setCell ⟨g, i * 2 + 1, none⟩ (.int .i64 0)).drew.ownsRow (w.heap.size + 2) 73 2 (.slice (some ⟨g2, 0, none⟩) m cap2) m (H.flatMap mcells)) := hide HH6.out
      clear HST HH6 r0 r1 hq4 f0 f1 f2 f3 hf4 d0 d1 d2 d3 d4 e0 hg4 hcx HC4 HRX
      generalize ((W4.setCell ⟨g, i * 2, none⟩ (.int .i64 p0)).setCell ⟨g, i * 2 + 1, none⟩ (.int .i64 0)).drew = W6 at *
      have r0 := HQ6.out.2.1 0 _ rfl
      have r1 := HQ6.out.2.1 1 _ rfl
      have hq4 := HQ6.out.1
      have f0 := HF6.out.2.1 0 _ rfl
      have f1 := HF6.out.2.1 1 _ rfl
      have f2 := HF6.out.free 0
      have f3 := HF6.out.free 1
      have hf4 := HF6.out.1
      have hq5 : ¬ q = w.heap.size + 1 := by have := HQ0.out; have := HW0.out; omega
      go_wp2
      refine bodyPost_ret (v := .agg #[.slice (some ⟨g, 0, none⟩) n cap1, .slice (some ⟨g2, 0, none⟩) m cap2]) (by simp [results, Tryz.results54, go_sem, *]) rfl ⟨⟨_, _, rfl, ?_, ?_⟩, ?_⟩
      · have h := own_far_any (own_far_any HV6.out (q := w.heap.size + 1) (o := 0) (u := .slice (some ⟨g, 0, none⟩) n cap1) (by omega)) (q := w.heap.size + 1) (o := 1) (u := .slice (some ⟨g2, 0, none⟩) m cap2) (by omega)
        have h2 := own_le h (B' := w.heap.size) (by omega)
        rw [show (closeM M i).length = n by rw [closeM, List.length_set]; exact Hn.out.symm]
        exact h2
      · have h1 := own_far_any (own_far_any HH7.out (q := w.heap.size + 1) (o := 0) (u := .slice (some ⟨g, 0, none⟩) n cap1) (by omega)) (q := w.heap.size + 1) (o := 1) (u := .slice (some ⟨g2, 0, none⟩) m cap2) (by omega)
        have h2 := own_le h1 (B' := w.heap.size) (by omega)
        rw [← show m = H.length from Hm.out]
        exact h2
      · exact (HB6.out.setCell (p := ⟨w.heap.size + 1, 0, none⟩) (Nat.le_succ _) _).setCell (p := ⟨w.heap.size + 1, 1, none⟩) (Nat.le_succ _) _
  · go_wp2_with fail
    have HB' : Hid (Below W0.heap.size W0 (V0.alloc (.cells #[.slice none 0 0, .slice none 0 0] 27))) := hide (below_alloc HB.out _)
    refine ⟨later_of HB'.out, ?_⟩
    have F_q := hide (Row.new V0 #[.slice none 0 0, .slice none 0 0] 27)
    have Q0 : Hid (W0.heap.size ≤ V0.heap.size) := hide HB.out.size
    have L_q : Hid (V0.heap.size < (V0.alloc (.cells #[.slice none 0 0, .slice none 0 0] 27)).heap.size) := hide (by simp)
    clear HB
    have HB := hide HB'.out
    clear HB'
    generalize (V0.alloc (.cells #[.slice none 0 0, .slice none 0 0] 27)) = V1 at *
    generalize V0.heap.size = q at *
    refine wpAnyS_two 0 4 (by kernel_rfl) (by simp; rfl) (by simp; rfl) rfl rfl rfl rfl (fun K hK => ?_) (fun K hK => ?_)
    · go_wp2_with fail
      have HB' : Hid (Below W0.heap.size W0 (V1.alloc (.cells #[] 36))) := hide (below_alloc HB.out _)
      refine ⟨later_of HB'.out, ?_⟩
      replace F_q := hide (F_q.out.alloc (.cells #[] 36))
      have N_b6_q : Hid (V1.heap.size ≠ q) := hide (by have := L_q.out; omega)
      replace L_q : Hid (q < (V1.alloc (.cells #[] 36)).heap.size) := hide (by have := L_q.out; simp; omega)
      have F_b6 : Hid ((V1.alloc (.cells #[] 36)).ownsRow W0.heap.size 36 2 (.slice (some ⟨V1.heap.size, 0, none⟩) 0 0) 0 []) := hide (World.ownsRow_made V1 #[] 0 HB.out.size (Nat.zero_le _) rfl)
      have L_b6 : Hid (V1.heap.size < (V1.alloc (.cells #[] 36)).heap.size) := hide (by simp)
      clear HB
      have HB := hide HB'.out
      clear HB'
      generalize (V1.alloc (.cells #[] 36)) = V2 at *
      generalize V1.heap.size = b6 at *
      refine wpAnyS_two 3 4 (by kernel_rfl) (by simp; rfl) (by simp; rfl) rfl rfl rfl rfl (fun K hK => ?_) (fun K hK => ?_)
      · refine wp_append_at (.tmp 6) (.tmp 8) 24 rfl W0.heap.size 36 i0 _ 2 16 Tryz.underlying24 Hi0.out Hz.out.1 Hz.out.2.1 Hz.out.2.2 rfl (by decide) b6 0 0 [] rfl F_b6.out ⟨bA, oA, none⟩ n c (M.flatMap mcells) rfl HLM.out (Rd.add (HR0.out.1.below HB.out)) (mcells_one M) (by unfold maxLen; omega) (by omega) HB.out.size (fun g cap1 V3 hown hgrow hg hlt => ?_)
        rw [Nat.zero_add] at hown ⊢
        have HB' := hide (HB.out.grown hgrow HB.out.size (fun k hk => by injection hk with hk; have := (F_b6.out.lt b6 rfl).1; omega))
        replace F_q := hide (F_q.out.grown hgrow (fun e => by injection e with e; exact N_b6_q.out (by omega)))
        have N_g_q : Hid (g ≠ q) := hide (by have := L_q.out; have := N_b6_q.out; omega)
        replace L_q : Hid (q < V3.heap.size) := hide (by have := L_q.out; have := hgrow.size; omega)
        clear N_b6_q
        have F_g : Hid (V3.ownsRow W0.heap.size 36 2 (.slice (some ⟨g, 0, none⟩) n cap1) n (M.flatMap mcells)) := hide (by simpa using hown)
        have L_g : Hid (g < V3.heap.size) := hide hlt
        clear HB hown hgrow hg hlt F_b6 L_b6
        have HB := hide HB'.out
        clear HB'
        refine hK _ _ ⟨later_of HB.out, ?_⟩
        simp only [Act.put, List.setIfInBounds_toArray, List.set_cons_succ, List.set_cons_zero]
        refine wpAnyS_only 4 (by kernel_rfl) (by simp; rfl) rfl rfl (fun K hK => ?_)
        go_wp2_with fail
        have HB' : Hid (Below W0.heap.size W0 (V3.alloc (.cells #[] 73))) := hide (below_alloc HB.out _)
        refine ⟨later_of HB'.out, ?_⟩
        replace F_g := hide (World.ownsRow.alloc F_g.out (.cells #[] 73))
        have N_b10_g : Hid (V3.heap.size ≠ g) := hide (by have := L_g.out; omega)
        replace L_g : Hid (g < (V3.alloc (.cells #[] 73)).heap.size) := hide (by have := L_g.out; simp; omega)
        replace F_q := hide (F_q.out.alloc (.cells #[] 73))
        have N_b10_q : Hid (V3.heap.size ≠ q) := hide (by have := L_q.out; omega)
        replace L_q : Hid (q < (V3.alloc (.cells #[] 73)).heap.size) := hide (by have := L_q.out; simp; omega)
        have F_b10 : Hid ((V3.alloc (.cells #[] 73)).ownsRow W0.heap.size 73 2 (.slice (some ⟨V3.heap.size, 0, none⟩) 0 0) 0 []) := hide (World.ownsRow_made V3 #[] 0 HB.out.size (Nat.zero_le _) rfl)
        have L_b10 : Hid (V3.heap.size < (V3.alloc (.cells #[] 73)).heap.size) := hide (by simp)
        clear HB
        have HB := hide HB'.out
        clear HB'
        generalize (V3.alloc (.cells #[] 73)) = V4 at *
        generalize V3.heap.size = b10 at *
        refine wpAnyS_only 7 (by kernel_rfl) (by simp; rfl) rfl rfl (fun K hK => ?_)
        refine wp_append_nilN (.tmp 10) (.tmp 12) 25 rfl W0.heap.size 73 i1 2 Tryz.underlying25 Hi1.out (.slice (some ⟨b10, 0, none⟩) 0 0) 0 [] rfl F_b10.out d (show Value.slice none m d = .slice none 0 d by rw [HM0.out]) (hK _ _ ⟨later_of HB.out, ?_⟩)
        simp only [Act.put, List.setIfInBounds_toArray, List.set_cons_succ, List.set_cons_zero]
        obtain ⟨cap2, hc2⟩ : ∃ cap2, Value.slice (some ⟨b10, 0, none⟩) 0 0 = .slice (some ⟨b10, 0, none⟩) m cap2 := ⟨0, by rw [HM0.out]⟩
        rw [hc2]
        have F_g2 : Hid (V4.ownsRow W0.heap.size 73 2 (.slice (some ⟨b10, 0, none⟩) m cap2) m (H.flatMap mcells)) := hide (by rw [← hc2, HM0.out, HH0.out]; exact F_b10.out)
        have L_g2 := L_b10
        have N_g_g2 : Hid (b10 ≠ g) := hide (by have := N_b10_g.out; omega)
        clear N_b10_g
        have N_g2_q : Hid (b10 ≠ q) := hide (by have := N_b10_q.out; omega)
        clear N_b10_q
        clear F_b10 L_b10 hc2
        generalize V4 = V5 at *
        generalize b10 = g2 at *
        refine wpAnyS_take_all [8] 1 rfl (by kernel_rfl) (by intro c a d v w h; cases d <;> exact h) (by kernel_rfl) (by simp; rfl) rfl (later_of HB.out) ?_
        repeat (go_big_quiet_step (fail))
        refine wpQuiet_nil ?_
        obtain ⟨W3, rfl⟩ : ∃ x, x = V5 := ⟨_, rfl⟩
        have HQ4 := hide F_q.out
        have HB4 := hide HB.out
        have HQ0 := hide Q0.out
        have HV4 := hide (own_le (B' := w.heap.size + 2) F_g.out (by have := HW0.out; omega))
        have HH4 := hide (own_le (B' := w.heap.size + 2) F_g2.out (by have := HW0.out; omega))
        have HF4 := hide (HF0.out.below HB.out)
        have HNV : Hid (g ≠ q) := hide (by have := N_g_q.out; omega)
        have HNH : Hid (∀ k, (Value.slice (some ⟨g2, 0, none⟩) m cap2).ownBlock = some k → k ≠ q ∧ k ≠ g) := hide (fun k hk => by simp [Value.ownBlock] at hk; subst hk; have h1 := N_g2_q.out; have h2 := N_g_g2.out; omega)
        clear HB F_g F_g2 F_q
        have r0 := HQ4.out.2.1 0 _ rfl
        have r1 := HQ4.out.2.1 1 _ rfl
        have r2 := HQ4.out.free 0
        have r3 := HQ4.out.free 1
        have hq4 := HQ4.out.1
        have HS4 : Hid (Below W0.heap.size W0 ((W3.setCell ⟨q, 0, none⟩ (.slice (some ⟨g, 0, none⟩) n cap1)).setCell ⟨q, 1, none⟩ (.slice (some ⟨g2, 0, none⟩) m cap2))) := hide ((HB4.out.setCell HQ0.out _).setCell HQ0.out _)
        have HQ5 : Hid (Row ((W3.setCell ⟨q, 0, none⟩ (.slice (some ⟨g, 0, none⟩) n cap1)).setCell ⟨q, 1, none⟩ (.slice (some ⟨g2, 0, none⟩) m cap2)) q [.slice (some ⟨g, 0, none⟩) n cap1, .slice (some ⟨g2, 0, none⟩) m cap2]) := hide ((HQ4.out.set (k := 0) (by simp) _).set (k := 1) (by simp) _)
        refine wpAnyS_only 10 (by kernel_rfl) (by simp; rfl) rfl rfl (fun K hK => ?_)
        go_wp2_with fail
        refine ⟨later_of HS4.out, ?_⟩
        refine wpAnyH_done (by kernel_rfl) ?_ _
        have HV5 := hide (ownsRow_far (ownsRow_far HV4.out (q := q) (o := 0) (u := .slice (some ⟨g, 0, none⟩) n cap1) (fun e => HNV.out e.symm)) (q := q) (o := 1) (u := .slice (some ⟨g2, 0, none⟩) m cap2) (fun e => HNV.out e.symm))
        have HH5 := hide (own_apart (own_apart HH4.out (grown_set (p := ⟨q, 0, none⟩) (.slice (some ⟨g, 0, none⟩) n cap1) rfl) (fun k hk e => (HNH.out k hk).1 (by injection e))) (grown_set (p := ⟨q, 1, none⟩) (.slice (some ⟨g2, 0, none⟩) m cap2) rfl) (fun k hk e => (HNH.out k hk).1 (by injection e)))
        have HF5 := hide ((HF4.out.far (p := ⟨q, 0, none⟩) (by have := HQ0.out; have := HW0.out; simp; omega) (.slice (some ⟨g, 0, none⟩) n cap1)).far (p := ⟨q, 1, none⟩) (by have := HQ0.out; have := HW0.out; simp; omega) (.slice (some ⟨g2, 0, none⟩) m cap2))
        have hgq : ¬ g = q := HNV.out
        have hgw : w.heap.size < q := by have := HQ0.out; have := HW0.out; omega
        have hgb : w.heap.size + 2 ≤ g := (HV4.out.lt g rfl).1
        have hgw2 : ¬ g = w.heap.size := by omega
        have hgw3 : ¬ g = w.heap.size + 1 := by omega
        have HC4 := hide (cell_on hc0 HS4.out)
        clear hc0 hc1
        generalize (W3.setCell ⟨q, 0, none⟩ (.slice (some ⟨g, 0, none⟩) n cap1)).setCell ⟨q, 1, none⟩ (.slice (some ⟨g2, 0, none⟩) m cap2) = W4 at *
        clear r0 r1 r2 r3 hq4
        have r0 := HQ5.out.2.1 0 _ rfl
        have r1 := HQ5.out.2.1 1 _ rfl
        have hq4 := HQ5.out.1
        have f0 := HF5.out.2.1 0 _ rfl
        have f1 := HF5.out.2.1 1 _ rfl
        have f2 := HF5.out.free 0
        have f3 := HF5.out.free 1
        have hf4 := HF5.out.1
        obtain ⟨⟨p0, p1⟩, hp⟩ : ∃ h, M[i]? = some h := ⟨_, List.getElem?_eq_getElem (by rw [← Hn.out]; exact hi)⟩
        obtain ⟨g', off', hA, -, d0, d1⟩ := (own_rd HV5.out).get2 (fun _ => rfl) hp rfl
        simp only [Option.some.injEq, Addr.mk.injEq, and_true] at hA
        obtain ⟨rfl, rfl⟩ := hA
        have d2 := World.ownsRow.frozenAt HV5.out (i * 2 + 1)
        have hg4 := (HV5.out.lt g rfl).2
        rw [Nat.zero_add] at d1
        dsimp only at d1
        have e0 := World.ownsRow.frozenAt HV5.out (i * 2)
        rw [Nat.zero_add] at d0
        dsimp only at d0
        have HST := (World.ownsRow.stored (World.ownsRow.stored HV5.out (i * 2 + 0) (.int .i64 p0)).1 (i * 2 + 1) (.int .i64 0)).1
        rw [flat_set mcells 2 (fun _ => rfl) 0 (by omega) (.int .i64 p0) (p0, p1) M i _ hp rfl, flat_set mcells 2 (fun _ => rfl) 1 (by omega) (.int .i64 0) (par M i, 0) (M.set i (p0, p1)) i (p0, p1) (by rw [List.getElem?_set_self (by rw [← Hn.out]; exact hi)]) (by rw [par_some hp]; rfl), List.set_set, Nat.add_zero] at HST
        have HST := hide HST
        have hcx := HC4.out
        have HRX := hide ((HR0.out.1.below HS4.out).get2 (fun _ => rfl) hp rfl)
        obtain ⟨b9, o9, hA9, hb9, d3, d4⟩ := HRX.out
        simp only [Option.some.injEq, Addr.mk.injEq, and_true] at hA9
        obtain ⟨rfl, rfl⟩ := hA9
        dsimp only at d3 d4
        clear hp
        go_wp2_with fail
        go_region
        have HB6 := hide (((below_step HB0.out HS4.out).setCell (p := ⟨g, i * 2, none⟩) (show w.heap.size ≤ g by omega) (.int .i64 p0)).setCell (p := ⟨g, i * 2 + 1, none⟩) (show w.heap.size ≤ g by omega) (.int .i64 0)).drew
        have HH6 := hide (own_apart (own_apart HH5.out (grown_set (p := ⟨g, i * 2, none⟩) (.int .i64 p0) rfl) (fun k hk e => (HNH.out k hk).2 (by injection e))) (grown_set (p := ⟨g, i * 2 + 1, none⟩) (.int .i64 0) rfl) (fun k hk e => (HNH.out k hk).2 (by injection e)))
        have HF6 := hide ((HF5.out.far (p := ⟨g, i * 2, none⟩) (by simp; omega) (.int .i64 p0)).far (p := ⟨g, i * 2 + 1, none⟩) (by simp; omega) (.int .i64 0)).drew
        have HQ6 := hide ((HQ5.out.far (p := ⟨g, i * 2, none⟩) (by simp; omega) (.int .i64 p0)).far (p := ⟨g, i * 2 + 1, none⟩) (by simp; omega) (.int .i64 0)).drew
        have HV6 : Hid (((W4.setCell ⟨g, i * 2, none⟩ (.int .i64 p0)).setCell ⟨g, i * 2 + 1, none⟩ (.int .i64 0)).drew.ownsRow (w.heap.size + 2) 36 2 (.slice (some ⟨g, 0, none⟩) n cap1) n ((closeM M i).flatMap mcells)) := hide HST.out
        have HH7 : Hid (((W4.setCell ⟨g, i * 2, none⟩ (.int .i64 p0)).setCell ⟨g, i * 2 + 1, none⟩ (.int .i64 0)).drew.ownsRow (w.heap.size + 2) 73 2 (.slice (some ⟨g2, 0, none⟩) m cap2) m (H.flatMap mcells)) := hide HH6.out
        clear HST HH6 r0 r1 hq4 f0 f1 f2 f3 hf4 d0 d1 d2 d3 d4 e0 hg4 hcx HC4 HRX
        generalize ((W4.setCell ⟨g, i * 2, none⟩ (.int .i64 p0)).setCell ⟨g, i * 2 + 1, none⟩ (.int .i64 0)).drew = W6 at *
        have r0 := HQ6.out.2.1 0 _ rfl
        have r1 := HQ6.out.2.1 1 _ rfl
        have hq4 := HQ6.out.1
        have f0 := HF6.out.2.1 0 _ rfl
        have f1 := HF6.out.2.1 1 _ rfl
        have f2 := HF6.out.free 0
        have f3 := HF6.out.free 1
        have hf4 := HF6.out.1
        have hq5 : ¬ q = w.heap.size + 1 := by have := HQ0.out; have := HW0.out; omega
        go_wp2
        refine bodyPost_ret (v := .agg #[.slice (some ⟨g, 0, none⟩) n cap1, .slice (some ⟨g2, 0, none⟩) m cap2]) (by simp [results, Tryz.results54, go_sem, *]) rfl ⟨⟨_, _, rfl, ?_, ?_⟩, ?_⟩
        · have h := own_far_any (own_far_any HV6.out (q := w.heap.size + 1) (o := 0) (u := .slice (some ⟨g, 0, none⟩) n cap1) (by omega)) (q := w.heap.size + 1) (o := 1) (u := .slice (some ⟨g2, 0, none⟩) m cap2) (by omega)
          have h2 := own_le h (B' := w.heap.size) (by omega)
          rw [show (closeM M i).length = n by rw [closeM, List.length_set]; exact Hn.out.symm]
          exact h2
        · have h1 := own_far_any (own_far_any HH7.out (q := w.heap.size + 1) (o := 0) (u := .slice (some ⟨g, 0, none⟩) n cap1) (by omega)) (q := w.heap.size + 1) (o := 1) (u := .slice (some ⟨g2, 0, none⟩) m cap2) (by omega)
          have h2 := own_le h1 (B' := w.heap.size) (by omega)
          rw [← show m = H.length from Hm.out]
          exact h2
        · exact (HB6.out.setCell (p := ⟨w.heap.size + 1, 0, none⟩) (Nat.le_succ _) _).setCell (p := ⟨w.heap.size + 1, 1, none⟩) (Nat.le_succ _) _
      · go_wp2_with fail
        have HB' : Hid (Below W0.heap.size W0 (V2.alloc (.cells #[] 73))) := hide (below_alloc HB.out _)
        refine ⟨later_of HB'.out, ?_⟩
        replace F_b6 := hide (World.ownsRow.alloc F_b6.out (.cells #[] 73))
        have N_b10_b6 : Hid (V2.heap.size ≠ b6) := hide (by have := L_b6.out; omega)
        replace L_b6 : Hid (b6 < (V2.alloc (.cells #[] 73)).heap.size) := hide (by have := L_b6.out; simp; omega)
        replace F_q := hide (F_q.out.alloc (.cells #[] 73))
        have N_b10_q : Hid (V2.heap.size ≠ q) := hide (by have := L_q.out; omega)
        replace L_q : Hid (q < (V2.alloc (.cells #[] 73)).heap.size) := hide (by have := L_q.out; simp; omega)
        have F_b10 : Hid ((V2.alloc (.cells #[] 73)).ownsRow W0.heap.size 73 2 (.slice (some ⟨V2.heap.size, 0, none⟩) 0 0) 0 []) := hide (World.ownsRow_made V2 #[] 0 HB.out.size (Nat.zero_le _) rfl)
        have L_b10 : Hid (V2.heap.size < (V2.alloc (.cells #[] 73)).heap.size) := hide (by simp)
        clear HB
        have HB := hide HB'.out
        clear HB'
        generalize (V2.alloc (.cells #[] 73)) = V3 at *
        generalize V2.heap.size = b10 at *
        refine wpAnyS_only 3 (by kernel_rfl) (by simp; rfl) rfl rfl (fun K hK => ?_)
        refine wp_append_at (.tmp 6) (.tmp 8) 24 rfl W0.heap.size 36 i0 _ 2 16 Tryz.underlying24 Hi0.out Hz.out.1 Hz.out.2.1 Hz.out.2.2 rfl (by decide) b6 0 0 [] rfl F_b6.out ⟨bA, oA, none⟩ n c (M.flatMap mcells) rfl HLM.out (Rd.add (HR0.out.1.below HB.out)) (mcells_one M) (by unfold maxLen; omega) (by omega) HB.out.size (fun g cap1 V4 hown hgrow hg hlt => ?_)
        rw [Nat.zero_add] at hown ⊢
        have HB' := hide (HB.out.grown hgrow HB.out.size (fun k hk => by injection hk with hk; have := (F_b6.out.lt b6 rfl).1; omega))
        replace F_b10 := hide (own_apart F_b10.out hgrow (fun k hk e => by simp [Value.ownBlock] at hk; injection e with e; exact N_b10_b6.out (by omega)))
        have N_b10_g : Hid (g ≠ b10) := hide (by have := L_b10.out; have := N_b10_b6.out; omega)
        replace F_q := hide (F_q.out.grown hgrow (fun e => by injection e with e; exact N_b6_q.out (by omega)))
        have N_g_q : Hid (g ≠ q) := hide (by have := L_q.out; have := N_b6_q.out; omega)
        replace L_b10 : Hid (b10 < V4.heap.size) := hide (by have := L_b10.out; have := hgrow.size; omega)
        clear N_b10_b6
        replace L_q : Hid (q < V4.heap.size) := hide (by have := L_q.out; have := hgrow.size; omega)
        clear N_b6_q
        have F_g : Hid (V4.ownsRow W0.heap.size 36 2 (.slice (some ⟨g, 0, none⟩) n cap1) n (M.flatMap mcells)) := hide (by simpa using hown)
        have L_g : Hid (g < V4.heap.size) := hide hlt
        clear HB hown hgrow hg hlt F_b6 L_b6
        have HB := hide HB'.out
        clear HB'
        refine hK _ _ ⟨later_of HB.out, ?_⟩
        simp only [Act.put, List.setIfInBounds_toArray, List.set_cons_succ, List.set_cons_zero]
        refine wpAnyS_only 7 (by kernel_rfl) (by simp; rfl) rfl rfl (fun K hK => ?_)
        refine wp_append_nilN (.tmp 10) (.tmp 12) 25 rfl W0.heap.size 73 i1 2 Tryz.underlying25 Hi1.out (.slice (some ⟨b10, 0, none⟩) 0 0) 0 [] rfl F_b10.out d (show Value.slice none m d = .slice none 0 d by rw [HM0.out]) (hK _ _ ⟨later_of HB.out, ?_⟩)
        simp only [Act.put, List.setIfInBounds_toArray, List.set_cons_succ, List.set_cons_zero]
        obtain ⟨cap2, hc2⟩ : ∃ cap2, Value.slice (some ⟨b10, 0, none⟩) 0 0 = .slice (some ⟨b10, 0, none⟩) m cap2 := ⟨0, by rw [HM0.out]⟩
        rw [hc2]
        have F_g2 : Hid (V4.ownsRow W0.heap.size 73 2 (.slice (some ⟨b10, 0, none⟩) m cap2) m (H.flatMap mcells)) := hide (by rw [← hc2, HM0.out, HH0.out]; exact F_b10.out)
        have L_g2 := L_b10
        have N_g_g2 : Hid (b10 ≠ g) := hide (by have := N_b10_g.out; omega)
        clear N_b10_g
        have N_g2_q : Hid (b10 ≠ q) := hide (by have := N_b10_q.out; omega)
        clear N_b10_q
        clear F_b10 L_b10 hc2
        generalize V4 = V5 at *
        generalize b10 = g2 at *
        refine wpAnyS_take_all [8] 1 rfl (by kernel_rfl) (by intro c a d v w h; cases d <;> exact h) (by kernel_rfl) (by simp; rfl) rfl (later_of HB.out) ?_
        repeat (go_big_quiet_step (fail))
        refine wpQuiet_nil ?_
        obtain ⟨W3, rfl⟩ : ∃ x, x = V5 := ⟨_, rfl⟩
        have HQ4 := hide F_q.out
        have HB4 := hide HB.out
        have HQ0 := hide Q0.out
        have HV4 := hide (own_le (B' := w.heap.size + 2) F_g.out (by have := HW0.out; omega))
        have HH4 := hide (own_le (B' := w.heap.size + 2) F_g2.out (by have := HW0.out; omega))
        have HF4 := hide (HF0.out.below HB.out)
        have HNV : Hid (g ≠ q) := hide (by have := N_g_q.out; omega)
        have HNH : Hid (∀ k, (Value.slice (some ⟨g2, 0, none⟩) m cap2).ownBlock = some k → k ≠ q ∧ k ≠ g) := hide (fun k hk => by simp [Value.ownBlock] at hk; subst hk; have h1 := N_g2_q.out; have h2 := N_g_g2.out; omega)
        clear HB F_g F_g2 F_q
        have r0 := HQ4.out.2.1 0 _ rfl
        have r1 := HQ4.out.2.1 1 _ rfl
        have r2 := HQ4.out.free 0
        have r3 := HQ4.out.free 1
        have hq4 := HQ4.out.1
        have HS4 : Hid (Below W0.heap.size W0 ((W3.setCell ⟨q, 0, none⟩ (.slice (some ⟨g, 0, none⟩) n cap1)).setCell ⟨q, 1, none⟩ (.slice (some ⟨g2, 0, none⟩) m cap2))) := hide ((HB4.out.setCell HQ0.out _).setCell HQ0.out _)
        have HQ5 : Hid (Row ((W3.setCell ⟨q, 0, none⟩ (.slice (some ⟨g, 0, none⟩) n cap1)).setCell ⟨q, 1, none⟩ (.slice (some ⟨g2, 0, none⟩) m cap2)) q [.slice (some ⟨g, 0, none⟩) n cap1, .slice (some ⟨g2, 0, none⟩) m cap2]) := hide ((HQ4.out.set (k := 0) (by simp) _).set (k := 1) (by simp) _)
        refine wpAnyS_only 10 (by kernel_rfl) (by simp; rfl) rfl rfl (fun K hK => ?_)
        go_wp2_with fail
        refine ⟨later_of HS4.out, ?_⟩
        refine wpAnyH_done (by kernel_rfl) ?_ _
        have HV5 := hide (ownsRow_far (ownsRow_far HV4.out (q := q) (o := 0) (u := .slice (some ⟨g, 0, none⟩) n cap1) (fun e => HNV.out e.symm)) (q := q) (o := 1) (u := .slice (some ⟨g2, 0, none⟩) m cap2) (fun e => HNV.out e.symm))
        have HH5 := hide (own_apart (own_apart HH4.out (grown_set (p := ⟨q, 0, none⟩) (.slice (some ⟨g, 0, none⟩) n cap1) rfl) (fun k hk e => (HNH.out k hk).1 (by injection e))) (grown_set (p := ⟨q, 1, none⟩) (.slice (some ⟨g2, 0, none⟩) m cap2) rfl) (fun k hk e => (HNH.out k hk).1 (by injection e)))
        have HF5 := hide ((HF4.out.far (p := ⟨q, 0, none⟩) (by have := HQ0.out; have := HW0.out; simp; omega) (.slice (some ⟨g, 0, none⟩) n cap1)).far (p := ⟨q, 1, none⟩) (by have := HQ0.out; have := HW0.out; simp; omega) (.slice (some ⟨g2, 0, none⟩) m cap2))
        have hgq : ¬ g = q := HNV.out
        have hgw : w.heap.size < q := by have := HQ0.out; have := HW0.out; omega
        have hgb : w.heap.size + 2 ≤ g := (HV4.out.lt g rfl).1
        have hgw2 : ¬ g = w.heap.size := by omega
        have hgw3 : ¬ g = w.heap.size + 1 := by omega
        have HC4 := hide (cell_on hc0 HS4.out)
        clear hc0 hc1
        generalize (W3.setCell ⟨q, 0, none⟩ (.slice (some ⟨g, 0, none⟩) n cap1)).setCell ⟨q, 1, none⟩ (.slice (some ⟨g2, 0, none⟩) m cap2) = W4 at *
        clear r0 r1 r2 r3 hq4
        have r0 := HQ5.out.2.1 0 _ rfl
        have r1 := HQ5.out.2.1 1 _ rfl
        have hq4 := HQ5.out.1
        have f0 := HF5.out.2.1 0 _ rfl
        have f1 := HF5.out.2.1 1 _ rfl
        have f2 := HF5.out.free 0
        have f3 := HF5.out.free 1
        have hf4 := HF5.out.1
        obtain ⟨⟨p0, p1⟩, hp⟩ : ∃ h, M[i]? = some h := ⟨_, List.getElem?_eq_getElem (by rw [← Hn.out]; exact hi)⟩
        obtain ⟨g', off', hA, -, d0, d1⟩ := (own_rd HV5.out).get2 (fun _ => rfl) hp rfl
        simp only [Option.some.injEq, Addr.mk.injEq, and_true] at hA
        obtain ⟨rfl, rfl⟩ := hA
        have d2 := World.ownsRow.frozenAt HV5.out (i * 2 + 1)
        have hg4 := (HV5.out.lt g rfl).2
        rw [Nat.zero_add] at d1
        dsimp only at d1
        have e0 := World.ownsRow.frozenAt HV5.out (i * 2)
        rw [Nat.zero_add] at d0
        dsimp only at d0
        have HST := (World.ownsRow.stored (World.ownsRow.stored HV5.out (i * 2 + 0) (.int .i64 p0)).1 (i * 2 + 1) (.int .i64 0)).1
        rw [flat_set mcells 2 (fun _ => rfl) 0 (by omega) (.int .i64 p0) (p0, p1) M i _ hp rfl, flat_set mcells 2 (fun _ => rfl) 1 (by omega) (.int .i64 0) (par M i, 0) (M.set i (p0, p1)) i (p0, p1) (by rw [List.getElem?_set_self (by rw [← Hn.out]; exact hi)]) (by rw [par_some hp]; rfl), List.set_set, Nat.add_zero] at HST
        have HST := hide HST
        have hcx := HC4.out
        have HRX := hide ((HR0.out.1.below HS4.out).get2 (fun _ => rfl) hp rfl)
        obtain ⟨b9, o9, hA9, hb9, d3, d4⟩ := HRX.out
        simp only [Option.some.injEq, Addr.mk.injEq, and_true] at hA9
        obtain ⟨rfl, rfl⟩ := hA9
        dsimp only at d3 d4
        clear hp
        go_wp2_with fail
        go_region
        have HB6 := hide (((below_step HB0.out HS4.out).setCell (p := ⟨g, i * 2, none⟩) (show w.heap.size ≤ g by omega) (.int .i64 p0)).setCell (p := ⟨g, i * 2 + 1, none⟩) (show w.heap.size ≤ g by omega) (.int .i64 0)).drew
        have HH6 := hide (own_apart (own_apart HH5.out (grown_set (p := ⟨g, i * 2, none⟩) (.int .i64 p0) rfl) (fun k hk e => (HNH.out k hk).2 (by injection e))) (grown_set (p := ⟨g, i * 2 + 1, none⟩) (.int .i64 0) rfl) (fun k hk e => (HNH.out k hk).2 (by injection e)))
        have HF6 := hide ((HF5.out.far (p := ⟨g, i * 2, none⟩) (by simp; omega) (.int .i64 p0)).far (p := ⟨g, i * 2 + 1, none⟩) (by simp; omega) (.int .i64 0)).drew
        have HQ6 := hide ((HQ5.out.far (p := ⟨g, i * 2, none⟩) (by simp; omega) (.int .i64 p0)).far (p := ⟨g, i * 2 + 1, none⟩) (by simp; omega) (.int .i64 0)).drew
        have HV6 : Hid (((W4.setCell ⟨g, i * 2, none⟩ (.int .i64 p0)).setCell ⟨g, i * 2 + 1, none⟩ (.int .i64 0)).drew.ownsRow (w.heap.size + 2) 36 2 (.slice (some ⟨g, 0, none⟩) n cap1) n ((closeM M i).flatMap mcells)) := hide HST.out
        have HH7 : Hid (((W4.setCell ⟨g, i * 2, none⟩ (.int .i64 p0)).setCell ⟨g, i * 2 + 1, none⟩ (.int .i64 0)).drew.ownsRow (w.heap.size + 2) 73 2 (.slice (some ⟨g2, 0, none⟩) m cap2) m (H.flatMap mcells)) := hide HH6.out
        clear HST HH6 r0 r1 hq4 f0 f1 f2 f3 hf4 d0 d1 d2 d3 d4 e0 hg4 hcx HC4 HRX
        generalize ((W4.setCell ⟨g, i * 2, none⟩ (.int .i64 p0)).setCell ⟨g, i * 2 + 1, none⟩ (.int .i64 0)).drew = W6 at *
        have r0 := HQ6.out.2.1 0 _ rfl
        have r1 := HQ6.out.2.1 1 _ rfl
        have hq4 := HQ6.out.1
        have f0 := HF6.out.2.1 0 _ rfl
        have f1 := HF6.out.2.1 1 _ rfl
        have f2 := HF6.out.free 0
        have f3 := HF6.out.free 1
        have hf4 := HF6.out.1
        have hq5 : ¬ q = w.heap.size + 1 := by have := HQ0.out; have := HW0.out; omega
        go_wp2
        refine bodyPost_ret (v := .agg #[.slice (some ⟨g, 0, none⟩) n cap1, .slice (some ⟨g2, 0, none⟩) m cap2]) (by simp [results, Tryz.results54, go_sem, *]) rfl ⟨⟨_, _, rfl, ?_, ?_⟩, ?_⟩
        · have h := own_far_any (own_far_any HV6.out (q := w.heap.size + 1) (o := 0) (u := .slice (some ⟨g, 0, none⟩) n cap1) (by omega)) (q := w.heap.size + 1) (o := 1) (u := .slice (some ⟨g2, 0, none⟩) m cap2) (by omega)
          have h2 := own_le h (B' := w.heap.size) (by omega)
          rw [show (closeM M i).length = n by rw [closeM, List.length_set]; exact Hn.out.symm]
          exact h2
        · have h1 := own_far_any (own_far_any HH7.out (q := w.heap.size + 1) (o := 0) (u := .slice (some ⟨g, 0, none⟩) n cap1) (by omega)) (q := w.heap.size + 1) (o := 1) (u := .slice (some ⟨g2, 0, none⟩) m cap2) (by omega)
          have h2 := own_le h1 (B' := w.heap.size) (by omega)
          rw [← show m = H.length from Hm.out]
          exact h2
        · exact (HB6.out.setCell (p := ⟨w.heap.size + 1, 0, none⟩) (Nat.le_succ _) _).setCell (p := ⟨w.heap.size + 1, 1, none⟩) (Nat.le_succ _) _
    · go_wp2_with fail
      have HB' : Hid (Below W0.heap.size W0 (V1.alloc (.cells #[] 73))) := hide (below_alloc HB.out _)
      refine ⟨later_of HB'.out, ?_⟩
      replace F_q := hide (F_q.out.alloc (.cells #[] 73))
      have N_b10_q : Hid (V1.heap.size ≠ q) := hide (by have := L_q.out; omega)
      replace L_q : Hid (q < (V1.alloc (.cells #[] 73)).heap.size) := hide (by have := L_q.out; simp; omega)
      have F_b10 : Hid ((V1.alloc (.cells #[] 73)).ownsRow W0.heap.size 73 2 (.slice (some ⟨V1.heap.size, 0, none⟩) 0 0) 0 []) := hide (World.ownsRow_made V1 #[] 0 HB.out.size (Nat.zero_le _) rfl)
      have L_b10 : Hid (V1.heap.size < (V1.alloc (.cells #[] 73)).heap.size) := hide (by simp)
      clear HB
      have HB := hide HB'.out
      clear HB'
      generalize (V1.alloc (.cells #[] 73)) = V2 at *
      generalize V1.heap.size = b10 at *
      refine wpAnyS_only 0 (by kernel_rfl) (by simp; rfl) rfl rfl (fun K hK => ?_)
      go_wp2_with fail
      have HB' : Hid (Below W0.heap.size W0 (V2.alloc (.cells #[] 36))) := hide (below_alloc HB.out _)
      refine ⟨later_of HB'.out, ?_⟩
      replace F_b10 := hide (World.ownsRow.alloc F_b10.out (.cells #[] 36))
      have N_b10_b6 : Hid (V2.heap.size ≠ b10) := hide (by have := L_b10.out; omega)
      replace L_b10 : Hid (b10 < (V2.alloc (.cells #[] 36)).heap.size) := hide (by have := L_b10.out; simp; omega)
      replace F_q := hide (F_q.out.alloc (.cells #[] 36))
      have N_b6_q : Hid (V2.heap.size ≠ q) := hide (by have := L_q.out; omega)
      replace L_q : Hid (q < (V2.alloc (.cells #[] 36)).heap.size) := hide (by have := L_q.out; simp; omega)
      have F_b6 : Hid ((V2.alloc (.cells #[] 36)).ownsRow W0.heap.size 36 2 (.slice (some ⟨V2.heap.size, 0, none⟩) 0 0) 0 []) := hide (World.ownsRow_made V2 #[] 0 HB.out.size (Nat.zero_le _) rfl)
      have L_b6 : Hid (V2.heap.size < (V2.alloc (.cells #[] 36)).heap.size) := hide (by simp)
      clear HB
      have HB := hide HB'.out
      clear HB'
      generalize (V2.alloc (.cells #[] 36)) = V3 at *
      generalize V2.heap.size = b6 at *
      refine wpAnyS_only 3 (by kernel_rfl) (by simp; rfl) rfl rfl (fun K hK => ?_)
      refine wp_append_at (.tmp 6) (.tmp 8) 24 rfl W0.heap.size 36 i0 _ 2 16 Tryz.underlying24 Hi0.out Hz.out.1 Hz.out.2.1 Hz.out.2.2 rfl (by decide) b6 0 0 [] rfl F_b6.out ⟨bA, oA, none⟩ n c (M.flatMap mcells) rfl HLM.out (Rd.add (HR0.out.1.below HB.out)) (mcells_one M) (by unfold maxLen; omega) (by omega) HB.out.size (fun g cap1 V4 hown hgrow hg hlt => ?_)
      rw [Nat.zero_add] at hown ⊢
      have HB' := hide (HB.out.grown hgrow HB.out.size (fun k hk => by injection hk with hk; have := (F_b6.out.lt b6 rfl).1; omega))
      replace F_b10 := hide (own_apart F_b10.out hgrow (fun k hk e => by simp [Value.ownBlock] at hk; injection e with e; exact N_b10_b6.out (by omega)))
      have N_b10_g : Hid (g ≠ b10) := hide (by have := L_b10.out; have := N_b10_b6.out; omega)
      replace F_q := hide (F_q.out.grown hgrow (fun e => by injection e with e; exact N_b6_q.out (by omega)))
      have N_g_q : Hid (g ≠ q) := hide (by have := L_q.out; have := N_b6_q.out; omega)
      replace L_b10 : Hid (b10 < V4.heap.size) := hide (by have := L_b10.out; have := hgrow.size; omega)
      clear N_b10_b6
      replace L_q : Hid (q < V4.heap.size) := hide (by have := L_q.out; have := hgrow.size; omega)
      clear N_b6_q
      have F_g : Hid (V4.ownsRow W0.heap.size 36 2 (.slice (some ⟨g, 0, none⟩) n cap1) n (M.flatMap mcells)) := hide (by simpa using hown)
      have L_g : Hid (g < V4.heap.size) := hide hlt
      clear HB hown hgrow hg hlt F_b6 L_b6
      have HB := hide HB'.out
      clear HB'
      refine hK _ _ ⟨later_of HB.out, ?_⟩
      simp only [Act.put, List.setIfInBounds_toArray, List.set_cons_succ, List.set_cons_zero]
      refine wpAnyS_only 7 (by kernel_rfl) (by simp; rfl) rfl rfl (fun K hK => ?_)
      refine wp_append_nilN (.tmp 10) (.tmp 12) 25 rfl W0.heap.size 73 i1 2 Tryz.underlying25 Hi1.out (.slice (some ⟨b10, 0, none⟩) 0 0) 0 [] rfl F_b10.out d (show Value.slice none m d = .slice none 0 d by rw [HM0.out]) (hK _ _ ⟨later_of HB.out, ?_⟩)
      simp only [Act.put, List.setIfInBounds_toArray, List.set_cons_succ, List.set_cons_zero]
      obtain ⟨cap2, hc2⟩ : ∃ cap2, Value.slice (some ⟨b10, 0, none⟩) 0 0 = .slice (some ⟨b10, 0, none⟩) m cap2 := ⟨0, by rw [HM0.out]⟩
      rw [hc2]
      have F_g2 : Hid (V4.ownsRow W0.heap.size 73 2 (.slice (some ⟨b10, 0, none⟩) m cap2) m (H.flatMap mcells)) := hide (by rw [← hc2, HM0.out, HH0.out]; exact F_b10.out)
      have L_g2 := L_b10
      have N_g_g2 : Hid (b10 ≠ g) := hide (by have := N_b10_g.out; omega)
      clear N_b10_g
      have N_g2_q : Hid (b10 ≠ q) := hide (by have := N_b10_q.out; omega)
      clear N_b10_q
      clear F_b10 L_b10 hc2
      generalize V4 = V5 at *
      generalize b10 = g2 at *
      refine wpAnyS_take_all [8] 1 rfl (by kernel_rfl) (by intro c a d v w h; cases d <;> exact h) (by kernel_rfl) (by simp; rfl) rfl (later_of HB.out) ?_
      repeat (go_big_quiet_step (fail))
      refine wpQuiet_nil ?_
      obtain ⟨W3, rfl⟩ : ∃ x, x = V5 := ⟨_, rfl⟩
      have HQ4 := hide F_q.out
      have HB4 := hide HB.out
      have HQ0 := hide Q0.out
      have HV4 := hide (own_le (B' := w.heap.size + 2) F_g.out (by have := HW0.out; omega))
      have HH4 := hide (own_le (B' := w.heap.size + 2) F_g2.out (by have := HW0.out; omega))
      have HF4 := hide (HF0.out.below HB.out)
      have HNV : Hid (g ≠ q) := hide (by have := N_g_q.out; omega)
      have HNH : Hid (∀ k, (Value.slice (some ⟨g2, 0, none⟩) m cap2).ownBlock = some k → k ≠ q ∧ k ≠ g) := hide (fun k hk => by simp [Value.ownBlock] at hk; subst hk; have h1 := N_g2_q.out; have h2 := N_g_g2.out; omega)
      clear HB F_g F_g2 F_q
      have r0 := HQ4.out.2.1 0 _ rfl
      have r1 := HQ4.out.2.1 1 _ rfl
      have r2 := HQ4.out.free 0
      have r3 := HQ4.out.free 1
      have hq4 := HQ4.out.1
      have HS4 : Hid (Below W0.heap.size W0 ((W3.setCell ⟨q, 0, none⟩ (.slice (some ⟨g, 0, none⟩) n cap1)).setCell ⟨q, 1, none⟩ (.slice (some ⟨g2, 0, none⟩) m cap2))) := hide ((HB4.out.setCell HQ0.out _).setCell HQ0.out _)
      have HQ5 : Hid (Row ((W3.setCell ⟨q, 0, none⟩ (.slice (some ⟨g, 0, none⟩) n cap1)).setCell ⟨q, 1, none⟩ (.slice (some ⟨g2, 0, none⟩) m cap2)) q [.slice (some ⟨g, 0, none⟩) n cap1, .slice (some ⟨g2, 0, none⟩) m cap2]) := hide ((HQ4.out.set (k := 0) (by simp) _).set (k := 1) (by simp) _)
      refine wpAnyS_only 10 (by kernel_rfl) (by simp; rfl) rfl rfl (fun K hK => ?_)
      go_wp2_with fail
      refine ⟨later_of HS4.out, ?_⟩
      refine wpAnyH_done (by kernel_rfl) ?_ _
      have HV5 := hide (ownsRow_far (ownsRow_far HV4.out (q := q) (o := 0) (u := .slice (some ⟨g, 0, none⟩) n cap1) (fun e => HNV.out e.symm)) (q := q) (o := 1) (u := .slice (some ⟨g2, 0, none⟩) m cap2) (fun e => HNV.out e.symm))
      have HH5 := hide (own_apart (own_apart HH4.out (grown_set (p := ⟨q, 0, none⟩) (.slice (some ⟨g, 0, none⟩) n cap1) rfl) (fun k hk e => (HNH.out k hk).1 (by injection e))) (grown_set (p := ⟨q, 1, none⟩) (.slice (some ⟨g2, 0, none⟩) m cap2) rfl) (fun k hk e => (HNH.out k hk).1 (by injection e)))
      have HF5 := hide ((HF4.out.far (p := ⟨q, 0, none⟩) (by have := HQ0.out; have := HW0.out; simp; omega) (.slice (some ⟨g, 0, none⟩) n cap1)).far (p := ⟨q, 1, none⟩) (by have := HQ0.out; have := HW0.out; simp; omega) (.slice (some ⟨g2, 0, none⟩) m cap2))
      have hgq : ¬ g = q := HNV.out
      have hgw : w.heap.size < q := by have := HQ0.out; have := HW0.out; omega
      have hgb : w.heap.size + 2 ≤ g := (HV4.out.lt g rfl).1
      have hgw2 : ¬ g = w.heap.size := by omega
      have hgw3 : ¬ g = w.heap.size + 1 := by omega
      have HC4 := hide (cell_on hc0 HS4.out)
      clear hc0 hc1
      generalize (W3.setCell ⟨q, 0, none⟩ (.slice (some ⟨g, 0, none⟩) n cap1)).setCell ⟨q, 1, none⟩ (.slice (some ⟨g2, 0, none⟩) m cap2) = W4 at *
      clear r0 r1 r2 r3 hq4
      have r0 := HQ5.out.2.1 0 _ rfl
      have r1 := HQ5.out.2.1 1 _ rfl
      have hq4 := HQ5.out.1
      have f0 := HF5.out.2.1 0 _ rfl
      have f1 := HF5.out.2.1 1 _ rfl
      have f2 := HF5.out.free 0
      have f3 := HF5.out.free 1
      have hf4 := HF5.out.1
      obtain ⟨⟨p0, p1⟩, hp⟩ : ∃ h, M[i]? = some h := ⟨_, List.getElem?_eq_getElem (by rw [← Hn.out]; exact hi)⟩
      obtain ⟨g', off', hA, -, d0, d1⟩ := (own_rd HV5.out).get2 (fun _ => rfl) hp rfl
      simp only [Option.some.injEq, Addr.mk.injEq, and_true] at hA
      obtain ⟨rfl, rfl⟩ := hA
      have d2 := World.ownsRow.frozenAt HV5.out (i * 2 + 1)
      have hg4 := (HV5.out.lt g rfl).2
      rw [Nat.zero_add] at d1
      dsimp only at d1
      have e0 := World.ownsRow.frozenAt HV5.out (i * 2)
      rw [Nat.zero_add] at d0
      dsimp only at d0
      have HST := (World.ownsRow.stored (World.ownsRow.stored HV5.out (i * 2 + 0) (.int .i64 p0)).1 (i * 2 + 1) (.int .i64 0)).1
      rw [flat_set mcells 2 (fun _ => rfl) 0 (by omega) (.int .i64 p0) (p0, p1) M i _ hp rfl, flat_set mcells 2 (fun _ => rfl) 1 (by omega) (.int .i64 0) (par M i, 0) (M.set i (p0, p1)) i (p0, p1) (by rw [List.getElem?_set_self (by rw [← Hn.out]; exact hi)]) (by rw [par_some hp]; rfl), List.set_set, Nat.add_zero] at HST
      have HST := hide HST
      have hcx := HC4.out
      have HRX := hide ((HR0.out.1.below HS4.out).get2 (fun _ => rfl) hp rfl)
      obtain ⟨b9, o9, hA9, hb9, d3, d4⟩ := HRX.out
      simp only [Option.some.injEq, Addr.mk.injEq, and_true] at hA9
      obtain ⟨rfl, rfl⟩ := hA9
      dsimp only at d3 d4
      clear hp
      go_wp2_with fail
      go_region
      have HB6 := hide (((below_step HB0.out HS4.out).setCell (p := ⟨g, i * 2, none⟩) (show w.heap.size ≤ g by omega) (.int .i64 p0)).setCell (p := ⟨g, i * 2 + 1, none⟩) (show w.heap.size ≤ g by omega) (.int .i64 0)).drew
      have HH6 := hide (own_apart (own_apart HH5.out (grown_set (p := ⟨g, i * 2, none⟩) (.int .i64 p0) rfl) (fun k hk e => (HNH.out k hk).2 (by injection e))) (grown_set (p := ⟨g, i * 2 + 1, none⟩) (.int .i64 0) rfl) (fun k hk e => (HNH.out k hk).2 (by injection e)))
      have HF6 := hide ((HF5.out.far (p := ⟨g, i * 2, none⟩) (by simp; omega) (.int .i64 p0)).far (p := ⟨g, i * 2 + 1, none⟩) (by simp; omega) (.int .i64 0)).drew
      have HQ6 := hide ((HQ5.out.far (p := ⟨g, i * 2, none⟩) (by simp; omega) (.int .i64 p0)).far (p := ⟨g, i * 2 + 1, none⟩) (by simp; omega) (.int .i64 0)).drew
      have HV6 : Hid (((W4.setCell ⟨g, i * 2, none⟩ (.int .i64 p0)).setCell ⟨g, i * 2 + 1, none⟩ (.int .i64 0)).drew.ownsRow (w.heap.size + 2) 36 2 (.slice (some ⟨g, 0, none⟩) n cap1) n ((closeM M i).flatMap mcells)) := hide HST.out
      have HH7 : Hid (((W4.setCell ⟨g, i * 2, none⟩ (.int .i64 p0)).setCell ⟨g, i * 2 + 1, none⟩ (.int .i64 0)).drew.ownsRow (w.heap.size + 2) 73 2 (.slice (some ⟨g2, 0, none⟩) m cap2) m (H.flatMap mcells)) := hide HH6.out
      clear HST HH6 r0 r1 hq4 f0 f1 f2 f3 hf4 d0 d1 d2 d3 d4 e0 hg4 hcx HC4 HRX
      generalize ((W4.setCell ⟨g, i * 2, none⟩ (.int .i64 p0)).setCell ⟨g, i * 2 + 1, none⟩ (.int .i64 0)).drew = W6 at *
      have r0 := HQ6.out.2.1 0 _ rfl
      have r1 := HQ6.out.2.1 1 _ rfl
      have hq4 := HQ6.out.1
      have f0 := HF6.out.2.1 0 _ rfl
      have f1 := HF6.out.2.1 1 _ rfl
      have f2 := HF6.out.free 0
      have f3 := HF6.out.free 1
      have hf4 := HF6.out.1
      have hq5 : ¬ q = w.heap.size + 1 := by have := HQ0.out; have := HW0.out; omega
      go_wp2
      refine bodyPost_ret (v := .agg #[.slice (some ⟨g, 0, none⟩) n cap1, .slice (some ⟨g2, 0, none⟩) m cap2]) (by simp [results, Tryz.results54, go_sem, *]) rfl ⟨⟨_, _, rfl, ?_, ?_⟩, ?_⟩
      · have h := own_far_any (own_far_any HV6.out (q := w.heap.size + 1) (o := 0) (u := .slice (some ⟨g, 0, none⟩) n cap1) (by omega)) (q := w.heap.size + 1) (o := 1) (u := .slice (some ⟨g2, 0, none⟩) m cap2) (by omega)
        have h2 := own_le h (B' := w.heap.size) (by omega)
        rw [show (closeM M i).length = n by rw [closeM, List.length_set]; exact Hn.out.symm]
        exact h2
      · have h1 := own_far_any (own_far_any HH7.out (q := w.heap.size + 1) (o := 0) (u := .slice (some ⟨g, 0, none⟩) n cap1) (by omega)) (q := w.heap.size + 1) (o := 1) (u := .slice (some ⟨g2, 0, none⟩) m cap2) (by omega)
        have h2 := own_le h1 (B' := w.heap.size) (by omega)
        rw [← show m = H.length from Hm.out]
        exact h2
      · exact (HB6.out.setCell (p := ⟨w.heap.size + 1, 0, none⟩) (Nat.le_succ _) _).setCell (p := ⟨w.heap.size + 1, 1, none⟩) (Nat.le_succ _) _

theorem hyWithout_all (A B : Option Addr) (n c m d i : Nat) (M H : List (Int × Int)) (w : World) (hn : n = M.length) (hm : m = H.length) (hn10 : n ≤ 10) (hm10 : m ≤ 10) (hi : i < n) (hr : NetRd w A B M H) (hA : (A = none ∧ n = 0) ∨ ∃ b o, A = some ⟨b, o, none⟩) (hB : (B = none ∧ m = 0) ∨ ∃ b o, B = some ⟨b, o, none⟩) :
    Calls Tryz.prog 54 #[.agg #[.slice A n c, .slice B m d], .int .i64 (i : Int)] w (CutNPost M H i w) := by
  rcases hA with ⟨-, h0⟩ | ⟨bA, oA, rfl⟩
  · omega
  · rcases hB with ⟨rfl, h0⟩ | ⟨bB, oB, rfl⟩
    · exact hyWithoutN_any bA oA n c m d i M H w hn hm hn10 hm10 hi h0 hr
    · exact hyWithout_any bA oA bB oB n c m d i M H w hn hm hn10 hm10 hi hr

set_option maxRecDepth 100000 in
set_option maxHeartbeats 4000000 in
theorem specWithoutMain_all (A B : Option Addr) (n c m d : Nat) (i : Int) (M H : List (Int × Int)) (w : World) (hn : n = M.length) (hm : m = H.length) (hnm : n ≤ maxLen) (hmm : m ≤ maxLen) (hr : NetRd w A B M H) (hA : (A = none ∧ n = 0) ∨ ∃ b o, A = some ⟨b, o, none⟩) (hB : (B = none ∧ m = 0) ∨ ∃ b o, B = some ⟨b, o, none⟩) :
    Calls Tryz.prog 23 #[.agg #[.slice A n c, .slice B m d], .int .i64 i] w (WoPost M H i w) := by
  have HAB := hide (And.intro hA hB)
  clear hA hB
  have Hn := hide hn
  have Hm := hide hm
  have Hr := hide hr
  have HF0 := hide ((Row.new w #[.slice A n c, .slice B m d] 27).alloc (.cells #[.slice none 0 0, .slice none 0 0] 27))
  have hg0 := Row.new (w.alloc (.cells #[.slice A n c, .slice B m d] 27)) #[.slice none 0 0, .slice none 0 0] 27
  rw [show (w.alloc (.cells #[.slice A n c, .slice B m d] 27)).heap.size = w.heap.size + 1 by simp] at hg0
  have HG0 := hide hg0
  have Q := hide (hyGood_any A B n c m d M H _ hn hm hnm hmm ((NetRd.alloc hr (.cells #[.slice A n c, .slice B m d] 27)).alloc (.cells #[.slice none 0 0, .slice none 0 0] 27)))
  clear hn hm hr hg0
  go_enter Tryz.func23, Tryz.ntmps23
  go_wp2_with fail
  refine Q.out.mono ?_
  rintro e w1 ⟨rfl, hq⟩
  have HF1 := hide (HF0.out.below hq)
  have HG1 := hide (HG0.out.below hq)
  have HW1 : Hid (Below w.heap.size w w1) := hide (below_step (below_alloc (below_alloc (Below.refl _ _) _) _) hq)
  clear hq Q HF0 HG0
  have a0 := HF1.out.2.1 0 _ rfl
  have a1 := HF1.out.2.1 1 _ rfl
  have e0 := HG1.out.2.1 0 _ rfl
  have e1 := HG1.out.2.1 1 _ rfl
  have f0 := HG1.out.free 0
  have f1 := HG1.out.free 1
  have z0 := HF1.out.1
  cases hN : netB M H with
  | false =>
    have HN : Hid (woOk M H i = false) := hide (by rw [woOk, hN]; rfl)
    clear hN
    go_wp2
    exact bodyPost_ret (v := .tuple #[.agg #[.slice none 0 0, .slice none 0 0], .bool false]) (by simp [results, Tryz.results23, go_sem, *]) rfl (WoPost.no HN.out ((HW1.out.setCell (by simp) _).setCell (by simp) _))
  | true =>
    have hk := netB_ok hN
    have h1 := hk.m1
    have h2 := hk.m10
    have h3 := hk.h10
    have hn10 : n ≤ 10 := by have := Hn.out; omega
    have hm10 : m ≤ 10 := by have := Hm.out; omega
    have e6 : IntKind.i64.wrap ((n : Int) - 1) = (n : Int) - 1 := IntWalk.i64_in _ (by omega)
    have HE : Hid (woOk M H i = inB i 0 ((n : Int) - 1)) := hide (by rw [woOk, hN, ← show n = M.length from Hn.out]; rfl)
    have q1 := fun W => l1In_any i 0 ((n : Int) - 1) W
    clear hN hk h1 h2 h3
    cases hi : inB i 0 ((n : Int) - 1) with
    | false =>
      have HN : Hid (woOk M H i = false) := hide (by rw [HE.out, hi])
      rw [hi] at q1
      clear hi
      go_wp2_with (go_at_call 53; ((with_reducible refine (q1 _).mono ?_); rintro e w' ⟨rfl, rfl⟩))
      exact bodyPost_ret (v := .tuple #[.agg #[.slice none 0 0, .slice none 0 0], .bool false]) (by simp [results, Tryz.results23, go_sem, *]) rfl (WoPost.no HN.out ((HW1.out.setCell (by simp) _).setCell (by simp) _))
    | true =>
      have HY : Hid (woOk M H i = true) := hide (by rw [HE.out, hi])
      rw [hi] at q1
      obtain ⟨i1, i2⟩ := inB_iff.1 hi
      obtain ⟨k, rfl⟩ := Int.eq_ofNat_of_zero_le i1
      have hkn : k < n := by omega
      clear hi i1 i2
      go_wp2_with (go_at_call 53; ((with_reducible refine (q1 _).mono ?_); rintro e w' ⟨rfl, rfl⟩))
      refine (hyWithout_all A B n c m d k M H w1 Hn.out Hm.out hn10 hm10 hkn (NetRd.below Hr.out HW1.out) HAB.out.1 HAB.out.2).mono ?_
      rintro e w2 ⟨⟨v, v', rfl, ho⟩, hq⟩
      have HW2 : Hid (Below w.heap.size w w2) := hide (below_step HW1.out hq)
      have HG2 := hide (HG1.out.below hq)
      obtain ⟨A2, k2, rfl, -⟩ := own_open ho.1
      obtain ⟨A3, k3, rfl, -⟩ := own_open ho.2
      have HZ := hide HG1.out.1
      have HO := hide ho
      clear hq ho a0 a1 e0 e1 f0 f1
      have e0 := HG2.out.2.1 0 _ rfl
      have e1 := HG2.out.2.1 1 _ rfl
      have f0 := HG2.out.free 0
      have f1 := HG2.out.free 1
      have hlm := closeM_length M k
      go_wp2
      exact bodyPost_ret (v := .tuple #[.agg #[.slice A2 (closeM M k).length k2, .slice A3 H.length k3], .bool true]) (by simp [results, Tryz.results23, go_sem, *]) rfl (WoPost.yes HY.out ⟨own_le (own_far_any (own_far_any HO.out.1 HZ.out) HZ.out) (HW1.out.size), own_le (own_far_any (own_far_any HO.out.2 HZ.out) HZ.out) (HW1.out.size)⟩ ((HW2.out.setCell (by simp) _).setCell (by simp) _))
end Go.Proofs.YtfcpgpmhjadanaaGreatDoor

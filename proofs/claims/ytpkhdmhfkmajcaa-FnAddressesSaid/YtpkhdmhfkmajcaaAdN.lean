/- A stretch added to a list that may be nil: the reference's way. -/
import Derived.Test.YtpkhdmhfkmajcaaAsA
namespace Go.Proofs.Ytpkhdmhfkmajcaa
open Go.RowKit
set_option linter.unusedVariables false

/-- 'append' of nothing to a row of the call's own. -/
theorem wp_append_nil {P : Program} {Q : Exit → Act → World → Prop} {o : Oper} {a : Act} {w : World} {K : Act → World → Prop} (s x : Operand) (t : TypeId) (ho : o.op = Op.call { callee := Callee.builtin Builtin.append, args := #[s, x], argTypes := #[t, t] })
  (base : Nat) (e : TypeId) (i : TypeInfo) (size : Nat) (ht : P.underlying t = some (.slice e)) (hi : P.info? e = some i)
  (v : Value) (n : Nat) (xs : List Value) (hs : a.eval s = v) (hown : w.ownsRow base e size v n xs) (c : Nat) (hx : a.eval x = .slice none 0 c) (h : K (a.put o.dst v) w) : Oper.wp P o a w K Q := by
 have hrun : (Builtin.append_ #[t, t] o.type #[v, .slice none 0 c]).run P w = .ok v w := by
  rcases hown.2 with ⟨rfl, rfl⟩ | ⟨g, cap, cur, rfl, _, _, hnc, _⟩
  ·
   simp [Builtin.append_, run_underlying ht, sizeOf, typeInfo, hi, Builtin.lenOf, Builtin.firstCells]
  ·
   simp [Builtin.append_, run_underlying ht, sizeOf, typeInfo, hi, Builtin.lenOf, Builtin.firstCells, hnc, storeCells]
 unfold Oper.wp execOp
 simp only [ho, resolve, invoke, builtin, Sem.run_bind, Sem.run_pure, Result.andThen_ok, List.map_toArray, List.map_cons, List.map_nil, hs, hx, hrun]
 exact h


set_option maxRecDepth 100000 in
set_option maxHeartbeats 8000000 in
theorem adPut_nil (s0 : ByteArray) (s1 s2 s3 s4 : Int) (w : World) :
    Calls Try.prog 35 #[.slice none 0 0, .agg #[.string s0, .int .i64 s1, .int .i64 s2, .int .i64 s3, .int .i64 s4]] w fun e w' => (∃ v, e = .returned v ∧ w'.ownsRow w.heap.size 25 5 v 1 (scells (s0, s1, s2, s3, s4))) ∧ Below w.heap.size w w' := by
  go_enter Try.func35, Try.ntmps35
  go_wp2_with fail
  have HBX := hide (Row.new w #[.string s0, .int .i64 s1, .int .i64 s2, .int .i64 s3, .int .i64 s4] 25)
  have HB0 := hide (below_alloc (Below.refl w.heap.size w) (.cells #[.string s0, .int .i64 s1, .int .i64 s2, .int .i64 s3, .int .i64 s4] 25))
  generalize w.alloc (.cells #[.string s0, .int .i64 s1, .int .i64 s2, .int .i64 s3, .int .i64 s4] 25) = W0 at *
  go_loopw [5] (fun t wr => t = .int .i64 0 ∧ Hid (Below W0.heap.size W0 wr)) (fun t _ => 0)
  case atStart => exact ⟨rfl, hide (Below.refl _ _)⟩
  case round =>
    obtain ⟨rfl, HB⟩ := hrel
    go_wp2_with fail
    refine wp_region_later (by kernel_rfl) (by kernel_rfl) ?_
    repeat (go_big_quiet_step (fail))
    refine wpQuiet_nil ?_
    refine later_intro fun w3 hb3 => ?_
    have HB3 := hide (below_step HB.out hb3)
    clear hb3
    obtain ⟨i0, hi0, hz0, hz1, hz2⟩ := info_parts infoStretch
    have Hi := hide hi0
    have Hz := hide (And.intro hz0 (And.intro hz1 hz2))
    clear hi0 hz0 hz1 hz2
    have HBw := hide (below_step HB0.out HB3.out)
    have r0 := (HBX.out.below HB3.out).2.1 0 _ rfl
    have r1 := (HBX.out.below HB3.out).2.1 1 _ rfl
    have r2 := (HBX.out.below HB3.out).2.1 2 _ rfl
    have r3 := (HBX.out.below HB3.out).2.1 3 _ rfl
    have r4 := (HBX.out.below HB3.out).2.1 4 _ rfl
    have rz := (HBX.out.below HB3.out).1
    go_wp2_with fail
    refine wpAnyS_start (fun w' => ∃ n : Later w3, w' = n.w) (n := 13) (by kernel_rfl) rfl rfl ?_
    refine wpAnyS_take_all [1, 2, 3, 5, 8, 9, 10] 6 rfl (by kernel_rfl) (by intro c a d v w h; cases d <;> exact h) (by kernel_rfl) (by simp; rfl) rfl (later_drew _) ?_
    repeat (go_big_quiet_step (fail))
    refine wpQuiet_nil ?_
    have HL : Hid (Below w3.heap.size w3 w3.drew) := hide (Below.refl _ _).drew
    have HC : Hid (Below w.heap.size w w3.drew) := hide HBw.out.drew
    clear r0 r1 r2 r3 r4 rz
    generalize w3.drew = V0 at *
    refine wpAnyS_two 0 6 (by kernel_rfl) (by simp; rfl) (by simp; rfl) rfl rfl rfl rfl (fun K hK => ?_) (fun K hK => ?_)
    · skip
      go_wp2_with fail
      have HL' : Hid (Below w3.heap.size w3 (V0.alloc (.cells #[] 25))) := hide (below_alloc HL.out _)
      have HC' : Hid (Below w.heap.size w (V0.alloc (.cells #[] 25))) := hide (below_alloc HC.out _)
      refine ⟨later_of HL'.out, ?_⟩
      have F_b0 : Hid ((V0.alloc (.cells #[] 25)).ownsRow w3.heap.size 25 5 (.slice (some ⟨V0.heap.size, 0, none⟩) 0 0) 0 []) := hide (World.ownsRow_made V0 #[] 0 HL.out.size (Nat.zero_le _) rfl)
      have L_b0 : Hid (V0.heap.size < (V0.alloc (.cells #[] 25)).heap.size) := hide (by simp)
      clear HL HC
      have HL := hide HL'.out
      have HC := hide HC'.out
      clear HL' HC'
      generalize (V0.alloc (.cells #[] 25)) = V1 at *
      generalize V0.heap.size = b0 at *
      refine wpAnyS_two 4 6 (by kernel_rfl) (by simp; rfl) (by simp; rfl) rfl rfl rfl rfl (fun K hK => ?_) (fun K hK => ?_)
      · skip
        refine wp_append_nil (.tmp 42) (.tmp 45) 23 rfl w3.heap.size 25 i0 5 Try.underlying23 Hi.out (.slice (some ⟨b0, 0, none⟩) 0 0) 0 [] rfl F_b0.out 0 rfl (hK _ _ ⟨later_of HL.out, ?_⟩)
        simp only [Act.put, List.setIfInBounds_toArray, List.set_cons_succ, List.set_cons_zero]
        refine wpAnyS_only 6 (by kernel_rfl) (by simp; rfl) rfl rfl (fun K hK => ?_)
        go_wp2_with fail
        have HL' : Hid (Below w3.heap.size w3 (V1.alloc (.cells #[.string s0, .int .i64 s1, .int .i64 s2, .int .i64 s3, .int .i64 s4] 25))) := hide (below_alloc HL.out _)
        have HC' : Hid (Below w.heap.size w (V1.alloc (.cells #[.string s0, .int .i64 s1, .int .i64 s2, .int .i64 s3, .int .i64 s4] 25))) := hide (below_alloc HC.out _)
        refine ⟨later_of HL'.out, ?_⟩
        replace F_b0 := hide (World.ownsRow.alloc F_b0.out (.cells #[.string s0, .int .i64 s1, .int .i64 s2, .int .i64 s3, .int .i64 s4] 25))
        have N_bs_b0 : Hid (V1.heap.size ≠ b0) := hide (by have := L_b0.out; omega)
        have F_bs := hide (Row.new V1 #[.string s0, .int .i64 s1, .int .i64 s2, .int .i64 s3, .int .i64 s4] 25)
        have L_bs : Hid (V1.heap.size < (V1.alloc (.cells #[.string s0, .int .i64 s1, .int .i64 s2, .int .i64 s3, .int .i64 s4] 25)).heap.size) := hide (by simp)
        clear HL HC
        have HL := hide HL'.out
        have HC := hide HC'.out
        clear HL' HC'
        generalize (V1.alloc (.cells #[.string s0, .int .i64 s1, .int .i64 s2, .int .i64 s3, .int .i64 s4] 25)) = V2 at *
        generalize V1.heap.size = bs at *
        refine wpAnyS_only 7 (by kernel_rfl) (by simp; rfl) rfl rfl (fun K hK => ?_)
        refine wp_append_at (.tmp 46) (.tmp 48) 23 rfl w3.heap.size 25 i0 _ 5 48 Try.underlying23 Hi.out Hz.out.1 Hz.out.2.1 Hz.out.2.2 rfl (by decide) b0 0 0 [] rfl F_b0.out ⟨bs, 0, none⟩ 1 1 (scells (s0, s1, s2, s3, s4)) rfl rfl (fun j u hu => by rw [Addr.add_lit, Nat.zero_add]; exact F_bs.out.2.1 j u hu) (fun u hu => scells_one [(s0, s1, s2, s3, s4)] u (by simpa using hu)) (by unfold maxLen; omega) (by omega) HL.out.size (fun g2 cap2 W4 hown hgrow hg hlt => ?_)
        have HL4 := hide (HL.out.grown hgrow HL.out.size (fun k hk => by injection hk with hk; have := (F_b0.out.lt b0 rfl).1; omega))
        have HC4 := hide (HC.out.grown hgrow HC.out.size (fun k hk => by injection hk with hk; have := (F_b0.out.lt b0 rfl).1; have := HBw.out.size; omega))
        have F_g2 : Hid (W4.ownsRow w3.heap.size 25 5 (.slice (some ⟨g2, 0, none⟩) 1 cap2) 1 (scells (s0, s1, s2, s3, s4))) := hide (by simpa using hown)
        clear hown hgrow hg hlt
        refine hK _ _ ⟨later_of HL4.out, ?_⟩
        simp only [Act.put, List.setIfInBounds_toArray, List.set_cons_succ, List.set_cons_zero]
        refine wpAnyS_only 11 (by kernel_rfl) (by simp; rfl) rfl rfl (fun K hK => ?_)
        refine wp_append_nil (.tmp 49) (.tmp 52) 23 rfl w3.heap.size 25 i0 5 Try.underlying23 Hi.out (.slice (some ⟨g2, 0, none⟩) 1 cap2) 1 (scells (s0, s1, s2, s3, s4)) rfl F_g2.out 0 rfl (hK _ _ ⟨later_of HL4.out, ?_⟩)
        simp only [Act.put, List.setIfInBounds_toArray, List.set_cons_succ, List.set_cons_zero]
        refine wpAnyS_only 12 (by kernel_rfl) (by simp; rfl) rfl rfl (fun K hK => ?_)
        go_wp2_with fail
        refine ⟨later_of HL4.out, ?_⟩
        refine wpAnyH_done (by kernel_rfl) ?_ _
        go_wp2
        go_ret
        exact ⟨⟨_, rfl, own_le (B' := w.heap.size) F_g2.out HBw.out.size⟩, HC4.out⟩
      · skip
        go_wp2_with fail
        have HL' : Hid (Below w3.heap.size w3 (V1.alloc (.cells #[.string s0, .int .i64 s1, .int .i64 s2, .int .i64 s3, .int .i64 s4] 25))) := hide (below_alloc HL.out _)
        have HC' : Hid (Below w.heap.size w (V1.alloc (.cells #[.string s0, .int .i64 s1, .int .i64 s2, .int .i64 s3, .int .i64 s4] 25))) := hide (below_alloc HC.out _)
        refine ⟨later_of HL'.out, ?_⟩
        replace F_b0 := hide (World.ownsRow.alloc F_b0.out (.cells #[.string s0, .int .i64 s1, .int .i64 s2, .int .i64 s3, .int .i64 s4] 25))
        have N_bs_b0 : Hid (V1.heap.size ≠ b0) := hide (by have := L_b0.out; omega)
        have F_bs := hide (Row.new V1 #[.string s0, .int .i64 s1, .int .i64 s2, .int .i64 s3, .int .i64 s4] 25)
        have L_bs : Hid (V1.heap.size < (V1.alloc (.cells #[.string s0, .int .i64 s1, .int .i64 s2, .int .i64 s3, .int .i64 s4] 25)).heap.size) := hide (by simp)
        clear HL HC
        have HL := hide HL'.out
        have HC := hide HC'.out
        clear HL' HC'
        generalize (V1.alloc (.cells #[.string s0, .int .i64 s1, .int .i64 s2, .int .i64 s3, .int .i64 s4] 25)) = V2 at *
        generalize V1.heap.size = bs at *
        refine wpAnyS_only 4 (by kernel_rfl) (by simp; rfl) rfl rfl (fun K hK => ?_)
        refine wp_append_nil (.tmp 42) (.tmp 45) 23 rfl w3.heap.size 25 i0 5 Try.underlying23 Hi.out (.slice (some ⟨b0, 0, none⟩) 0 0) 0 [] rfl F_b0.out 0 rfl (hK _ _ ⟨later_of HL.out, ?_⟩)
        simp only [Act.put, List.setIfInBounds_toArray, List.set_cons_succ, List.set_cons_zero]
        refine wpAnyS_only 7 (by kernel_rfl) (by simp; rfl) rfl rfl (fun K hK => ?_)
        refine wp_append_at (.tmp 46) (.tmp 48) 23 rfl w3.heap.size 25 i0 _ 5 48 Try.underlying23 Hi.out Hz.out.1 Hz.out.2.1 Hz.out.2.2 rfl (by decide) b0 0 0 [] rfl F_b0.out ⟨bs, 0, none⟩ 1 1 (scells (s0, s1, s2, s3, s4)) rfl rfl (fun j u hu => by rw [Addr.add_lit, Nat.zero_add]; exact F_bs.out.2.1 j u hu) (fun u hu => scells_one [(s0, s1, s2, s3, s4)] u (by simpa using hu)) (by unfold maxLen; omega) (by omega) HL.out.size (fun g2 cap2 W4 hown hgrow hg hlt => ?_)
        have HL4 := hide (HL.out.grown hgrow HL.out.size (fun k hk => by injection hk with hk; have := (F_b0.out.lt b0 rfl).1; omega))
        have HC4 := hide (HC.out.grown hgrow HC.out.size (fun k hk => by injection hk with hk; have := (F_b0.out.lt b0 rfl).1; have := HBw.out.size; omega))
        have F_g2 : Hid (W4.ownsRow w3.heap.size 25 5 (.slice (some ⟨g2, 0, none⟩) 1 cap2) 1 (scells (s0, s1, s2, s3, s4))) := hide (by simpa using hown)
        clear hown hgrow hg hlt
        refine hK _ _ ⟨later_of HL4.out, ?_⟩
        simp only [Act.put, List.setIfInBounds_toArray, List.set_cons_succ, List.set_cons_zero]
        refine wpAnyS_only 11 (by kernel_rfl) (by simp; rfl) rfl rfl (fun K hK => ?_)
        refine wp_append_nil (.tmp 49) (.tmp 52) 23 rfl w3.heap.size 25 i0 5 Try.underlying23 Hi.out (.slice (some ⟨g2, 0, none⟩) 1 cap2) 1 (scells (s0, s1, s2, s3, s4)) rfl F_g2.out 0 rfl (hK _ _ ⟨later_of HL4.out, ?_⟩)
        simp only [Act.put, List.setIfInBounds_toArray, List.set_cons_succ, List.set_cons_zero]
        refine wpAnyS_only 12 (by kernel_rfl) (by simp; rfl) rfl rfl (fun K hK => ?_)
        go_wp2_with fail
        refine ⟨later_of HL4.out, ?_⟩
        refine wpAnyH_done (by kernel_rfl) ?_ _
        go_wp2
        go_ret
        exact ⟨⟨_, rfl, own_le (B' := w.heap.size) F_g2.out HBw.out.size⟩, HC4.out⟩
    · skip
      go_wp2_with fail
      have HL' : Hid (Below w3.heap.size w3 (V0.alloc (.cells #[.string s0, .int .i64 s1, .int .i64 s2, .int .i64 s3, .int .i64 s4] 25))) := hide (below_alloc HL.out _)
      have HC' : Hid (Below w.heap.size w (V0.alloc (.cells #[.string s0, .int .i64 s1, .int .i64 s2, .int .i64 s3, .int .i64 s4] 25))) := hide (below_alloc HC.out _)
      refine ⟨later_of HL'.out, ?_⟩
      have F_bs := hide (Row.new V0 #[.string s0, .int .i64 s1, .int .i64 s2, .int .i64 s3, .int .i64 s4] 25)
      have L_bs : Hid (V0.heap.size < (V0.alloc (.cells #[.string s0, .int .i64 s1, .int .i64 s2, .int .i64 s3, .int .i64 s4] 25)).heap.size) := hide (by simp)
      clear HL HC
      have HL := hide HL'.out
      have HC := hide HC'.out
      clear HL' HC'
      generalize (V0.alloc (.cells #[.string s0, .int .i64 s1, .int .i64 s2, .int .i64 s3, .int .i64 s4] 25)) = V1 at *
      generalize V0.heap.size = bs at *
      refine wpAnyS_only 0 (by kernel_rfl) (by simp; rfl) rfl rfl (fun K hK => ?_)
      go_wp2_with fail
      have HL' : Hid (Below w3.heap.size w3 (V1.alloc (.cells #[] 25))) := hide (below_alloc HL.out _)
      have HC' : Hid (Below w.heap.size w (V1.alloc (.cells #[] 25))) := hide (below_alloc HC.out _)
      refine ⟨later_of HL'.out, ?_⟩
      replace F_bs := hide (F_bs.out.alloc (.cells #[] 25))
      have N_bs_b0 : Hid (bs ≠ V1.heap.size) := hide (by have := L_bs.out; omega)
      have F_b0 : Hid ((V1.alloc (.cells #[] 25)).ownsRow w3.heap.size 25 5 (.slice (some ⟨V1.heap.size, 0, none⟩) 0 0) 0 []) := hide (World.ownsRow_made V1 #[] 0 HL.out.size (Nat.zero_le _) rfl)
      have L_b0 : Hid (V1.heap.size < (V1.alloc (.cells #[] 25)).heap.size) := hide (by simp)
      clear HL HC
      have HL := hide HL'.out
      have HC := hide HC'.out
      clear HL' HC'
      generalize (V1.alloc (.cells #[] 25)) = V2 at *
      generalize V1.heap.size = b0 at *
      refine wpAnyS_only 4 (by kernel_rfl) (by simp; rfl) rfl rfl (fun K hK => ?_)
      refine wp_append_nil (.tmp 42) (.tmp 45) 23 rfl w3.heap.size 25 i0 5 Try.underlying23 Hi.out (.slice (some ⟨b0, 0, none⟩) 0 0) 0 [] rfl F_b0.out 0 rfl (hK _ _ ⟨later_of HL.out, ?_⟩)
      simp only [Act.put, List.setIfInBounds_toArray, List.set_cons_succ, List.set_cons_zero]
      refine wpAnyS_only 7 (by kernel_rfl) (by simp; rfl) rfl rfl (fun K hK => ?_)
      refine wp_append_at (.tmp 46) (.tmp 48) 23 rfl w3.heap.size 25 i0 _ 5 48 Try.underlying23 Hi.out Hz.out.1 Hz.out.2.1 Hz.out.2.2 rfl (by decide) b0 0 0 [] rfl F_b0.out ⟨bs, 0, none⟩ 1 1 (scells (s0, s1, s2, s3, s4)) rfl rfl (fun j u hu => by rw [Addr.add_lit, Nat.zero_add]; exact F_bs.out.2.1 j u hu) (fun u hu => scells_one [(s0, s1, s2, s3, s4)] u (by simpa using hu)) (by unfold maxLen; omega) (by omega) HL.out.size (fun g2 cap2 W4 hown hgrow hg hlt => ?_)
      have HL4 := hide (HL.out.grown hgrow HL.out.size (fun k hk => by injection hk with hk; have := (F_b0.out.lt b0 rfl).1; omega))
      have HC4 := hide (HC.out.grown hgrow HC.out.size (fun k hk => by injection hk with hk; have := (F_b0.out.lt b0 rfl).1; have := HBw.out.size; omega))
      have F_g2 : Hid (W4.ownsRow w3.heap.size 25 5 (.slice (some ⟨g2, 0, none⟩) 1 cap2) 1 (scells (s0, s1, s2, s3, s4))) := hide (by simpa using hown)
      clear hown hgrow hg hlt
      refine hK _ _ ⟨later_of HL4.out, ?_⟩
      simp only [Act.put, List.setIfInBounds_toArray, List.set_cons_succ, List.set_cons_zero]
      refine wpAnyS_only 11 (by kernel_rfl) (by simp; rfl) rfl rfl (fun K hK => ?_)
      refine wp_append_nil (.tmp 49) (.tmp 52) 23 rfl w3.heap.size 25 i0 5 Try.underlying23 Hi.out (.slice (some ⟨g2, 0, none⟩) 1 cap2) 1 (scells (s0, s1, s2, s3, s4)) rfl F_g2.out 0 rfl (hK _ _ ⟨later_of HL4.out, ?_⟩)
      simp only [Act.put, List.setIfInBounds_toArray, List.set_cons_succ, List.set_cons_zero]
      refine wpAnyS_only 12 (by kernel_rfl) (by simp; rfl) rfl rfl (fun K hK => ?_)
      go_wp2_with fail
      refine ⟨later_of HL4.out, ?_⟩
      refine wpAnyH_done (by kernel_rfl) ?_ _
      go_wp2
      go_ret
      exact ⟨⟨_, rfl, own_le (B' := w.heap.size) F_g2.out HBw.out.size⟩, HC4.out⟩

theorem adPut_all (A : Option Addr) (n c : Nat) (l : List (ByteArray × Int × Int × Int × Int)) (s0 : ByteArray) (s1 s2 s3 s4 : Int) (w : World) (hn : n = l.length) (hm : n ≤ 1000) (hnc : n ≤ c) (hc : c ≤ maxLen) (hr : Rd w A (l.flatMap scells)) (hA : (A = none ∧ n = 0 ∧ c = 0) ∨ ∃ b off, A = some ⟨b, off, none⟩) :
    Calls Try.prog 35 #[.slice A n c, .agg #[.string s0, .int .i64 s1, .int .i64 s2, .int .i64 s3, .int .i64 s4]] w fun e w' => (∃ v, e = .returned v ∧ w'.ownsRow w.heap.size 25 5 v (n + 1) ((putS l (s0, s1, s2, s3, s4)).flatMap scells)) ∧ Below w.heap.size w w' := by
  rcases hA with ⟨rfl, rfl, rfl⟩ | ⟨b, off, rfl⟩
  · have hl : l = [] := List.eq_nil_of_length_eq_zero hn.symm
    subst hl
    refine (adPut_nil s0 s1 s2 s3 s4 w).mono ?_
    rintro e w' ⟨⟨v, rfl, ho⟩, hb⟩
    exact ⟨⟨v, rfl, by simpa [putS] using ho⟩, hb⟩
  · exact adPut_any b off n c l s0 s1 s2 s3 s4 w hn hm hnc hc hr
set_option maxRecDepth 100000 in
set_option maxHeartbeats 8000000 in
theorem specAddStretch_all (A : Option Addr) (n c : Nat) (l : List (ByteArray × Int × Int × Int × Int)) (s0 : ByteArray) (s1 s2 s3 s4 : Int) (w : World) (hn : n = l.length) (hnc : n ≤ c) (hc : c ≤ maxLen) (hm : n ≤ 1048576) (hs : ∀ x ∈ l, x.1.size ≤ maxLen) (hr : Rd w A (l.flatMap scells)) (hz : s0.size ≤ maxLen) (hA : (A = none ∧ n = 0 ∧ c = 0) ∨ ∃ b off, A = some ⟨b, off, none⟩) :
    Calls Try.prog 6 #[.slice A n c, .agg #[.string s0, .int .i64 s1, .int .i64 s2, .int .i64 s3, .int .i64 s4]] w (StPost (asO l (s0, s1, s2, s3, s4)) w) := by
  have HSB := hide (Row.new w #[.string s0, .int .i64 s1, .int .i64 s2, .int .i64 s3, .int .i64 s4] 25)
  have HB0 := hide (below_alloc (Below.refl w.heap.size w) (.cells #[.string s0, .int .i64 s1, .int .i64 s2, .int .i64 s3, .int .i64 s4] 25))
  have Q := hide (adGood_any A n c l (w.alloc (.cells #[.string s0, .int .i64 s1, .int .i64 s2, .int .i64 s3, .int .i64 s4] 25)) hn hm hs (hr.alloc _))
  have Q2 := hide (fun W => adOne_any s0 s1 s2 s3 s4 W hz)
  have HSZ := hide (And.intro hs hz)
  have Hn := hide hn
  have Hr := hide hr
  unfold maxLen at hc
  clear hn hr hs hz
  cases h1 : strsB l with
  | false =>
    have HE := hide (asO_bad (l := l) (s := (s0, s1, s2, s3, s4)) (by rw [h1]; rfl))
    rw [h1] at Q
    clear h1
    go_enter Try.func6, Try.ntmps6
    go_wp2_with fail
    refine Q.out.mono ?_
    rintro e w1 ⟨rfl, hq⟩
    have HB1 := hide (below_step HB0.out hq)
    go_wp2
    go_ret2
    exact StPost.no HE.out HB1.out
  | true =>
    rw [h1] at Q
    have hn30 : n ≤ 30 := by have := strsB_len h1; have := Hn.out; omega
    have HLS := hide h1
    cases h2 : strP (s0, s1, s2, s3, s4) with
    | false =>
      have HE := hide (asO_bad (l := l) (s := (s0, s1, s2, s3, s4)) (by rw [h1, h2]; rfl))
      have q2 := Q2.out
      simp only [strP] at h2
      rw [h2] at q2
      have HQ2 := hide q2
      clear h1 h2 q2
      go_enter Try.func6, Try.ntmps6
      go_wp2_with fail
      refine Q.out.mono ?_
      rintro e w1 ⟨rfl, hq⟩
      have HB1 := hide (below_step HB0.out hq)
      have r0 := (HSB.out.below hq).2.1 0 _ rfl
      have r1 := (HSB.out.below hq).2.1 1 _ rfl
      have r2 := (HSB.out.below hq).2.1 2 _ rfl
      have r3 := (HSB.out.below hq).2.1 3 _ rfl
      have r4 := (HSB.out.below hq).2.1 4 _ rfl
      clear hq
      go_wp2_with fail
      refine (HQ2.out _).mono ?_
      rintro e w2 ⟨rfl, hq⟩
      have HB2 := hide (below_step HB1.out hq)
      clear hq
      go_wp2
      go_ret2
      exact StPost.no HE.out HB2.out
    | true =>
      have HE := hide (asO_ok (l := l) (s := (s0, s1, s2, s3, s4)) (by rw [h1, h2]; rfl))
      have q2 := Q2.out
      simp only [strP] at h2
      rw [h2] at q2
      have HQ2 := hide q2
      clear h1 h2 q2
      go_enter Try.func6, Try.ntmps6
      go_wp2_with fail
      refine Q.out.mono ?_
      rintro e w1 ⟨rfl, hq⟩
      have HB1 := hide (below_step HB0.out hq)
      have HSB1 := hide (HSB.out.below hq)
      have r0 := HSB1.out.2.1 0 _ rfl
      have r1 := HSB1.out.2.1 1 _ rfl
      have r2 := HSB1.out.2.1 2 _ rfl
      have r3 := HSB1.out.2.1 3 _ rfl
      have r4 := HSB1.out.2.1 4 _ rfl
      clear hq
      go_wp2_with fail
      refine (HQ2.out _).mono ?_
      rintro e w2 ⟨rfl, hq⟩
      have HB2 := hide (below_step HB1.out hq)
      have HSB2 := hide (HSB1.out.below hq)
      clear hq r0 r1 r2 r3 r4
      have r0 := HSB2.out.2.1 0 _ rfl
      have r1 := HSB2.out.2.1 1 _ rfl
      have r2 := HSB2.out.2.1 2 _ rfl
      have r3 := HSB2.out.2.1 3 _ rfl
      have r4 := HSB2.out.2.1 4 _ rfl
      go_wp2_with fail
      refine (adPut_all A n c l s0 s1 s2 s3 s4 w2 Hn.out (by omega) hnc (by unfold maxLen; omega) (Hr.out.below HB2.out) hA).mono ?_
      rintro e w6 ⟨⟨v', rfl, ho⟩, hq⟩
      have HO9 := hide (own_le (B' := w.heap.size) ho HB2.out.size)
      have HC9 := hide (below_step HB2.out hq)
      clear ho hq
      obtain ⟨A9, c9, rfl, -⟩ := own_open HO9.out
      have HML := hide (show n + 1 = (putS l (s0, s1, s2, s3, s4)).length by rw [putS_len]; have := Hn.out; omega)
      generalize n + 1 = m9 at *
      have QE := hide (adGood_any A9 m9 c9 (putS l (s0, s1, s2, s3, s4)) w6 HML.out (by have h1 := HML.out; rw [putS_len] at h1; have := Hn.out; omega) (putS_road HSZ.out.1 HSZ.out.2) (own_rd HO9.out))
      generalize putS l (s0, s1, s2, s3, s4) = r at *
      cases h9 : strsB r with
      | false =>
        rw [h9] at QE HE
        clear h9
        go_wp2_with fail
        refine QE.out.mono ?_
        rintro e w11 ⟨rfl, hq⟩
        have HB11 := hide (below_step HC9.out hq)
        clear hq
        go_wp2
        go_ret2
        exact StPost.no HE.out HB11.out
      | true =>
        rw [h9] at QE HE
        clear h9
        go_wp2_with fail
        refine QE.out.mono ?_
        rintro e w11 ⟨rfl, hq⟩
        have HB11 := hide (below_step HC9.out hq)
        have HO11 := hide (own_below HO9.out hq)
        clear hq
        go_wp2
        go_ret2
        exact StPost.yes HE.out HML.out HO11.out HB11.out
end Go.Proofs.Ytpkhdmhfkmajcaa

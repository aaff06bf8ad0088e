/- A stretch put in its place: the reference's way. -/
import Derived.Test.YtpkhdmhfkmajcaaRhL
import Derived.Test.YtpkhdmhfkmajcaaRowsX
import Derived.Test.YtpkhdmhfkmajcaaConvStretch
namespace Go.Proofs.Ytpkhdmhfkmajcaa
open Go.RowKit
set_option linter.unusedVariables false

theorem takeWhile_at {p : StrT → Bool} : ∀ {l : List StrT} {k : Nat}, k ≤ l.length → (∀ (i : Nat) (x : StrT), i < k → l[i]? = some x → p x = true) → (∀ x, l[k]? = some x → p x = false) → l.takeWhile p = l.take k ∧ l.dropWhile p = l.drop k
  | [], k, h, _, _ => by simp
  | x :: l, 0, _, _, h => by
    have := h x rfl
    simp [this]
  | x :: l, k + 1, hk, h1, h2 => by
    have h0 := h1 0 x (by omega) rfl
    have ih := takeWhile_at (l := l) (k := k) (by simpa using hk) (fun i y hi hy => h1 (i + 1) y (by omega) (by simpa using hy)) (fun y hy => h2 y (by simpa using hy))
    simp [h0, ih.1, ih.2]
theorem scells_one (l : List StrT) : ∀ u ∈ l.flatMap scells, u.oneCell' = true := by
  intro u hu
  obtain ⟨t, _, ht⟩ := List.mem_flatMap.1 hu
  simp [scells] at ht
  rcases ht with rfl | rfl | rfl | rfl | rfl <;> rfl

set_option maxRecDepth 100000 in
set_option maxHeartbeats 8000000 in
theorem adPut_any (b off n c : Nat) (l : List (ByteArray × Int × Int × Int × Int)) (s0 : ByteArray) (s1 s2 s3 s4 : Int) (w : World) (hn : n = l.length) (hm : n ≤ 1000) (hnc : n ≤ c) (hc : c ≤ maxLen) (hr : Rd w (some ⟨b, off, none⟩) (l.flatMap scells)) :
    Calls Try.prog 35 #[.slice (some ⟨b, off, none⟩) n c, .agg #[.string s0, .int .i64 s1, .int .i64 s2, .int .i64 s3, .int .i64 s4]] w fun e w' => (∃ v, e = .returned v ∧ w'.ownsRow w.heap.size 25 5 v (n + 1) ((putS l (s0, s1, s2, s3, s4)).flatMap scells)) ∧ Below w.heap.size w w' := by
  have Hn := hide hn
  have Hr := hide hr
  unfold maxLen at hc
  clear hn hr
  go_enter Try.func35, Try.ntmps35
  go_wp2_with fail
  have HBX := hide (Row.new w #[.string s0, .int .i64 s1, .int .i64 s2, .int .i64 s3, .int .i64 s4] 25)
  have HB0 := hide (below_alloc (Below.refl w.heap.size w) (.cells #[.string s0, .int .i64 s1, .int .i64 s2, .int .i64 s3, .int .i64 s4] 25))
  have hzz : (w.alloc (.cells #[.string s0, .int .i64 s1, .int .i64 s2, .int .i64 s3, .int .i64 s4] 25)).heap.size = w.heap.size + 1 := by simp
  have HZ := hide hzz
  clear hzz
  generalize w.alloc (.cells #[.string s0, .int .i64 s1, .int .i64 s2, .int .i64 s3, .int .i64 s4] 25) = W0 at *
  go_loopw [5] (fun t wr => ∃ k : Nat, k ≤ n ∧ t = .int .i64 k ∧ Hid (∀ (i : Nat) (x : StrT), i < k → l[i]? = some x → befB (s0, s1, s2, s3, s4) x = true) ∧ Hid (Below W0.heap.size W0 wr)) (fun t _ => n - (intOf t).toNat)
  case atStart => exact ⟨0, by omega, rfl, hide (fun i x hi => absurd hi (by omega)), hide (Below.refl _ _)⟩
  case round =>
    obtain ⟨k, hk, rfl, HA, HB⟩ := hrel
    have HBW := hide (below_step HB0.out HB.out)
    have r0 := (HBX.out.below HB.out).2.1 0 _ rfl
    have r1 := (HBX.out.below HB.out).2.1 1 _ rfl
    have rz := (HBX.out.below HB.out).1
    by_cases hlt : k < n
    · obtain ⟨⟨x0, x1, x2, x3, x4⟩, hx⟩ : ∃ x, l[k]? = some x := ⟨_, List.getElem?_eq_getElem (by rw [← Hn.out]; exact hlt)⟩
      obtain ⟨b', off', hA, hbs, c0, c1, -, -, -⟩ := (Hr.out.below HBW.out).get5 (fun _ => rfl) hx rfl
      simp only [Option.some.injEq, Addr.mk.injEq, and_true] at hA
      obtain ⟨rfl, rfl⟩ := hA
      dsimp only at c0 c1
      have HX := hide hx
      have HNX := hide (show befB (s0, s1, s2, s3, s4) (x0, x1, x2, x3, x4) = true → ∀ (i : Nat) (x : StrT), i < k + 1 → l[i]? = some x → befB (s0, s1, s2, s3, s4) x = true from fun hv i x hi hx2 => by
        by_cases hi2 : i < k
        · exact HA.out i x hi2 hx2
        · rw [show i = k by omega, HX.out] at hx2
          injection hx2 with hx2
          rw [← hx2]; exact hv)
      have HV0 := hide (show befB (s0, s1, s2, s3, s4) (x0, x1, x2, x3, x4) = (Op.bytesLess x0.toList s0.toList || (x0.toList == s0.toList && decide (x1 < s1))) from rfl)
      clear hx
      cases h1 : Op.bytesLess x0.toList s0.toList with
      | true =>
        have HV := hide (show befB (s0, s1, s2, s3, s4) (x0, x1, x2, x3, x4) = true by rw [HV0.out, h1]; rfl)
        go_wp2_with fail
        refine wp_region_later (by kernel_rfl) (by kernel_rfl) ?_
        repeat (go_big_quiet_step (fail))
        refine wpQuiet_nil ?_
        refine later_intro fun w3 hb3 => ?_
        have HB3 := hide (below_step HB.out hb3)
        clear hb3 c0 c1 r0 r1 rz hbs
        go_wp2
        go_roundw
        case rel => exact ⟨k + 1, by omega, by go_num, hide (HNX.out HV.out), HB3⟩
        case measure => simp [intOf]; omega
      | false =>
        cases h2 : (x0.toList == s0.toList) with
        | true =>
          by_cases h3 : x1 < s1
          · have HV := hide (show befB (s0, s1, s2, s3, s4) (x0, x1, x2, x3, x4) = true by rw [HV0.out, h1, h2, decide_eq_true h3]; rfl)
            go_wp2_with fail
            refine wp_region_later (by kernel_rfl) (by kernel_rfl) ?_
            repeat (go_big_quiet_step (fail))
            refine wpQuiet_nil ?_
            refine later_intro fun w3 hb3 => ?_
            have HB3 := hide (below_step HB.out hb3)
            clear hb3 c0 c1 r0 r1 rz hbs
            go_wp2
            go_roundw
            case rel => exact ⟨k + 1, by omega, by go_num, hide (HNX.out HV.out), HB3⟩
            case measure => simp [intOf]; omega
          · have HV := hide (show befB (s0, s1, s2, s3, s4) (x0, x1, x2, x3, x4) = false by rw [HV0.out, h1, h2, decide_eq_false h3]; rfl)
            have HPS := hide (takeWhile_at (l := l) (k := k) (by have := Hn.out; omega) HA.out (fun x hx => by rw [HX.out] at hx; injection hx with hx; rw [← hx]; exact HV.out))
            go_wp2_with fail
            refine wp_region_later (by kernel_rfl) (by kernel_rfl) ?_
            repeat (go_big_quiet_step (fail))
            refine wpQuiet_nil ?_
            refine later_intro fun w3 hb3 => ?_
            have HB3 := hide (below_step HB.out hb3)
            clear hb3 c0 c1 r0 r1 rz hbs
            obtain ⟨i0, hi0, hz0, hz1, hz2⟩ := info_parts infoStretch
            have Hi := hide hi0
            have Hz := hide (And.intro hz0 (And.intro hz1 hz2))
            clear hi0 hz0 hz1 hz2
            have HTL := hide (show ((l.take k).flatMap scells).length = k * 5 from take_flat_length scells 5 (fun _ => rfl) (by have := Hn.out; omega))
            have HDL := hide (show ((l.drop k).flatMap scells).length = (n - k) * 5 by rw [flat_length scells 5 (fun _ => rfl), List.length_drop]; have := Hn.out; omega)
            have HTR := hide (show ∀ W, Below w.heap.size w W → ∀ j u, ((l.take k).flatMap scells)[j]? = some u → W.cell? ((⟨b, off, none⟩ : Addr).add j) = some u from fun W hb => by
              have h := (Hr.out.below hb).part 0 (k * 5)
              rw [List.drop_zero, flat_take scells 5 (fun _ => rfl)] at h
              simpa using h.add)
            have HBw := hide (below_step HB0.out HB3.out)
            have r0 := (HBX.out.below HB3.out).2.1 0 _ rfl
            have r1 := (HBX.out.below HB3.out).2.1 1 _ rfl
            have r2 := (HBX.out.below HB3.out).2.1 2 _ rfl
            have r3 := (HBX.out.below HB3.out).2.1 3 _ rfl
            have r4 := (HBX.out.below HB3.out).2.1 4 _ rfl
            have rz := (HBX.out.below HB3.out).1
            go_wp2_with fail
            refine wpAnyS_start (fun w' => ∃ n : Later w3, w' = n.w) (n := 13) (by kernel_rfl) rfl rfl ?_
            refine wpAnyS_take_all [1, 2, 3, 5, 8, 9, 10] 6 rfl (by kernel_rfl) (by intro c a d v w h; cases d <;> exact h) (by kernel_rfl) (by simp; rfl) rfl (later_drew _) ?_
            repeat (go_big_quiet_step (fail))
            refine wpQuiet_nil ?_
            have HL : Hid (Below w3.heap.size w3 w3.drew) := hide (Below.refl _ _).drew
            have HC : Hid (Below w.heap.size w w3.drew) := hide HBw.out.drew
            clear r0 r1 r2 r3 r4 rz
            generalize w3.drew = V0 at *
            have HDR := hide (show ∀ W, Below w.heap.size w W → ∀ j u, ((l.drop k).flatMap scells)[j]? = some u → W.cell? ((⟨b, off + k * 5, none⟩ : Addr).add j) = some u from fun W hb => by
              have h := (Hr.out.below hb).part (k * 5) ((l.flatMap scells).length)
              rw [flat_drop scells 5 (fun _ => rfl), List.take_of_length_le (by rw [flat_length scells 5 (fun _ => rfl), flat_length scells 5 (fun _ => rfl), List.length_drop]; omega)] at h
              exact h.add)
            refine wpAnyS_two 0 6 (by kernel_rfl) (by simp; rfl) (by simp; rfl) rfl rfl rfl rfl (fun K hK => ?_) (fun K hK => ?_)
            · go_wp2_with fail
              have HL' : Hid (Below w3.heap.size w3 (V0.alloc (.cells #[] 25))) := hide (below_alloc HL.out _)
              have HC' : Hid (Below w.heap.size w (V0.alloc (.cells #[] 25))) := hide (below_alloc HC.out _)
              refine ⟨later_of HL'.out, ?_⟩
              have F_b0 : Hid ((V0.alloc (.cells #[] 25)).ownsRow w3.heap.size 25 5 (.slice (some ⟨V0.heap.size, 0, none⟩) 0 0) 0 []) := hide (World.ownsRow_made V0 #[] 0 HL.out.size (Nat.zero_le _) rfl)
              have L_b0 : Hid (V0.heap.size < (V0.alloc (.cells #[] 25)).heap.size) := hide (by simp)
              clear HL HC
              have HL := hide HL'.out
              have HC := hide HC'.out
              clear HL' HC'
              generalize (V0.alloc (.cells #[] 25)) = V1 at *
              generalize V0.heap.size = b0 at *
              refine wpAnyS_two 4 6 (by kernel_rfl) (by simp; rfl) (by simp; rfl) rfl rfl rfl rfl (fun K hK => ?_) (fun K hK => ?_)
              · refine wp_append_at (.tmp 42) (.tmp 45) 23 rfl w3.heap.size 25 i0 _ 5 48 Try.underlying23 Hi.out Hz.out.1 Hz.out.2.1 Hz.out.2.2 rfl (by decide) b0 0 0 [] rfl F_b0.out ⟨b, off, none⟩ k c ((l.take k).flatMap scells) rfl HTL.out (HTR.out V1 HC.out) (scells_one _) (by unfold maxLen; omega) (by omega) HL.out.size (fun g1 cap1 V2 hown hgrow hg hlt => ?_)
                rw [Nat.zero_add] at hown ⊢
                have HL' := hide (HL.out.grown hgrow HL.out.size (fun k hk => by injection hk with hk; have := (F_b0.out.lt b0 rfl).1; omega))
                have HC' := hide (HC.out.grown hgrow HC.out.size (fun k hk => by injection hk with hk; have := (F_b0.out.lt b0 rfl).1; have := HBw.out.size; omega))
                have F_g1 : Hid (V2.ownsRow w3.heap.size 25 5 (.slice (some ⟨g1, 0, none⟩) k cap1) k ((l.take k).flatMap scells)) := hide (by simpa using hown)
                have L_g1 : Hid (g1 < V2.heap.size) := hide hlt
                clear HL HC hown hgrow hg hlt F_b0 L_b0
                have HL := hide HL'.out
                have HC := hide HC'.out
                clear HL' HC'
                refine hK _ _ ⟨later_of HL.out, ?_⟩
                simp only [Act.put, List.setIfInBounds_toArray, List.set_cons_succ, List.set_cons_zero]
                refine wpAnyS_only 6 (by kernel_rfl) (by simp; rfl) rfl rfl (fun K hK => ?_)
                go_wp2_with fail
                have HL' : Hid (Below w3.heap.size w3 (V2.alloc (.cells #[.string s0, .int .i64 s1, .int .i64 s2, .int .i64 s3, .int .i64 s4] 25))) := hide (below_alloc HL.out _)
                have HC' : Hid (Below w.heap.size w (V2.alloc (.cells #[.string s0, .int .i64 s1, .int .i64 s2, .int .i64 s3, .int .i64 s4] 25))) := hide (below_alloc HC.out _)
                refine ⟨later_of HL'.out, ?_⟩
                replace F_g1 := hide (World.ownsRow.alloc F_g1.out (.cells #[.string s0, .int .i64 s1, .int .i64 s2, .int .i64 s3, .int .i64 s4] 25))
                have N_bs_g1 : Hid (V2.heap.size ≠ g1) := hide (by have := L_g1.out; omega)
                replace L_g1 : Hid (g1 < (V2.alloc (.cells #[.string s0, .int .i64 s1, .int .i64 s2, .int .i64 s3, .int .i64 s4] 25)).heap.size) := hide (by have := L_g1.out; simp; omega)
                have F_bs := hide (Row.new V2 #[.string s0, .int .i64 s1, .int .i64 s2, .int .i64 s3, .int .i64 s4] 25)
                have L_bs : Hid (V2.heap.size < (V2.alloc (.cells #[.string s0, .int .i64 s1, .int .i64 s2, .int .i64 s3, .int .i64 s4] 25)).heap.size) := hide (by simp)
                clear HL HC
                have HL := hide HL'.out
                have HC := hide HC'.out
                clear HL' HC'
                generalize (V2.alloc (.cells #[.string s0, .int .i64 s1, .int .i64 s2, .int .i64 s3, .int .i64 s4] 25)) = V3 at *
                generalize V2.heap.size = bs at *
                refine wpAnyS_only 7 (by kernel_rfl) (by simp; rfl) rfl rfl (fun K hK => ?_)
                refine wp_append_at (.tmp 46) (.tmp 48) 23 rfl w3.heap.size 25 i0 _ 5 48 Try.underlying23 Hi.out Hz.out.1 Hz.out.2.1 Hz.out.2.2 rfl (by decide) g1 k cap1 ((l.take k).flatMap scells) rfl F_g1.out ⟨bs, 0, none⟩ 1 1 (scells (s0, s1, s2, s3, s4)) rfl rfl (fun j u hu => by rw [Addr.add_lit, Nat.zero_add]; exact F_bs.out.2.1 j u hu) (fun u hu => scells_one [(s0, s1, s2, s3, s4)] u (by simpa using hu)) (by unfold maxLen; omega) (by omega) HL.out.size (fun g2 cap2 W4 hown hgrow hg hlt => ?_)
                have HL4 := hide (HL.out.grown hgrow HL.out.size (fun k hk => by injection hk with hk; have := (F_g1.out.lt g1 rfl).1; omega))
                have HC4 := hide (HC.out.grown hgrow HC.out.size (fun k hk => by injection hk with hk; have := (F_g1.out.lt g1 rfl).1; have := HBw.out.size; omega))
                have F_g2 := hide hown
                clear hown hgrow hg hlt
                refine hK _ _ ⟨later_of HL4.out, ?_⟩
                simp only [Act.put, List.setIfInBounds_toArray, List.set_cons_succ, List.set_cons_zero]
                refine wpAnyS_only 11 (by kernel_rfl) (by simp; rfl) rfl rfl (fun K hK => ?_)
                refine wp_append_at (.tmp 49) (.tmp 52) 23 rfl w3.heap.size 25 i0 _ 5 48 Try.underlying23 Hi.out Hz.out.1 Hz.out.2.1 Hz.out.2.2 rfl (by decide) g2 (k + 1) cap2 _ rfl F_g2.out ⟨b, off + k * 5, none⟩ (n - k) (c - k) ((l.drop k).flatMap scells) rfl HDL.out (HDR.out W4 HC4.out) (scells_one _) (by unfold maxLen; omega) (by omega) HL4.out.size (fun g3 cap3 W5 hown hgrow hg hlt => ?_)
                have HL5 := hide (HL4.out.grown hgrow HL4.out.size (fun k hk => by injection hk with hk; have := (F_g2.out.lt g2 rfl).1; omega))
                have HC5 := hide (HC4.out.grown hgrow HC4.out.size (fun k hk => by injection hk with hk; have := (F_g2.out.lt g2 rfl).1; have := HBw.out.size; omega))
                have F_g3 := hide hown
                clear hown hgrow hg hlt
                refine hK _ _ ⟨later_of HL5.out, ?_⟩
                simp only [Act.put, List.setIfInBounds_toArray, List.set_cons_succ, List.set_cons_zero]
                refine wpAnyS_only 12 (by kernel_rfl) (by simp; rfl) rfl rfl (fun K hK => ?_)
                go_wp2_with fail
                refine ⟨later_of HL5.out, ?_⟩
                refine wpAnyH_done (by kernel_rfl) ?_ _
                go_wp2
                go_ret
                refine ⟨⟨_, rfl, ?_⟩, HC5.out⟩
                have h := own_le (B' := w.heap.size) F_g3.out HBw.out.size
                rw [show k + 1 + (n - k) = n + 1 by omega] at h
                rw [putS, HPS.out.1, HPS.out.2, List.flatMap_append, List.flatMap_append]
                rw [show k + 1 + (n - k) = n + 1 by omega]
                simpa using h
              · go_wp2_with fail
                have HL' : Hid (Below w3.heap.size w3 (V1.alloc (.cells #[.string s0, .int .i64 s1, .int .i64 s2, .int .i64 s3, .int .i64 s4] 25))) := hide (below_alloc HL.out _)
                have HC' : Hid (Below w.heap.size w (V1.alloc (.cells #[.string s0, .int .i64 s1, .int .i64 s2, .int .i64 s3, .int .i64 s4] 25))) := hide (below_alloc HC.out _)
                refine ⟨later_of HL'.out, ?_⟩
                replace F_b0 := hide (World.ownsRow.alloc F_b0.out (.cells #[.string s0, .int .i64 s1, .int .i64 s2, .int .i64 s3, .int .i64 s4] 25))
                have N_bs_b0 : Hid (V1.heap.size ≠ b0) := hide (by have := L_b0.out; omega)
                replace L_b0 : Hid (b0 < (V1.alloc (.cells #[.string s0, .int .i64 s1, .int .i64 s2, .int .i64 s3, .int .i64 s4] 25)).heap.size) := hide (by have := L_b0.out; simp; omega)
                have F_bs := hide (Row.new V1 #[.string s0, .int .i64 s1, .int .i64 s2, .int .i64 s3, .int .i64 s4] 25)
                have L_bs : Hid (V1.heap.size < (V1.alloc (.cells #[.string s0, .int .i64 s1, .int .i64 s2, .int .i64 s3, .int .i64 s4] 25)).heap.size) := hide (by simp)
                clear HL HC
                have HL := hide HL'.out
                have HC := hide HC'.out
                clear HL' HC'
                generalize (V1.alloc (.cells #[.string s0, .int .i64 s1, .int .i64 s2, .int .i64 s3, .int .i64 s4] 25)) = V2 at *
                generalize V1.heap.size = bs at *
                refine wpAnyS_only 4 (by kernel_rfl) (by simp; rfl) rfl rfl (fun K hK => ?_)
                refine wp_append_at (.tmp 42) (.tmp 45) 23 rfl w3.heap.size 25 i0 _ 5 48 Try.underlying23 Hi.out Hz.out.1 Hz.out.2.1 Hz.out.2.2 rfl (by decide) b0 0 0 [] rfl F_b0.out ⟨b, off, none⟩ k c ((l.take k).flatMap scells) rfl HTL.out (HTR.out V2 HC.out) (scells_one _) (by unfold maxLen; omega) (by omega) HL.out.size (fun g1 cap1 V3 hown hgrow hg hlt => ?_)
                rw [Nat.zero_add] at hown ⊢
                have HL' := hide (HL.out.grown hgrow HL.out.size (fun k hk => by injection hk with hk; have := (F_b0.out.lt b0 rfl).1; omega))
                have HC' := hide (HC.out.grown hgrow HC.out.size (fun k hk => by injection hk with hk; have := (F_b0.out.lt b0 rfl).1; have := HBw.out.size; omega))
                replace F_bs := hide (F_bs.out.grown hgrow (fun e => by injection e with e; have := N_bs_b0.out; omega))
                have N_g1_bs : Hid (g1 ≠ bs) := hide (by have := L_bs.out; have := N_bs_b0.out; omega)
                replace L_bs : Hid (bs < V3.heap.size) := hide (by have := L_bs.out; have := hgrow.size; omega)
                clear N_bs_b0
                have F_g1 : Hid (V3.ownsRow w3.heap.size 25 5 (.slice (some ⟨g1, 0, none⟩) k cap1) k ((l.take k).flatMap scells)) := hide (by simpa using hown)
                have L_g1 : Hid (g1 < V3.heap.size) := hide hlt
                clear HL HC hown hgrow hg hlt F_b0 L_b0
                have HL := hide HL'.out
                have HC := hide HC'.out
                clear HL' HC'
                refine hK _ _ ⟨later_of HL.out, ?_⟩
                simp only [Act.put, List.setIfInBounds_toArray, List.set_cons_succ, List.set_cons_zero]
                refine wpAnyS_only 7 (by kernel_rfl) (by simp; rfl) rfl rfl (fun K hK => ?_)
                refine wp_append_at (.tmp 46) (.tmp 48) 23 rfl w3.heap.size 25 i0 _ 5 48 Try.underlying23 Hi.out Hz.out.1 Hz.out.2.1 Hz.out.2.2 rfl (by decide) g1 k cap1 ((l.take k).flatMap scells) rfl F_g1.out ⟨bs, 0, none⟩ 1 1 (scells (s0, s1, s2, s3, s4)) rfl rfl (fun j u hu => by rw [Addr.add_lit, Nat.zero_add]; exact F_bs.out.2.1 j u hu) (fun u hu => scells_one [(s0, s1, s2, s3, s4)] u (by simpa using hu)) (by unfold maxLen; omega) (by omega) HL.out.size (fun g2 cap2 W4 hown hgrow hg hlt => ?_)
                have HL4 := hide (HL.out.grown hgrow HL.out.size (fun k hk => by injection hk with hk; have := (F_g1.out.lt g1 rfl).1; omega))
                have HC4 := hide (HC.out.grown hgrow HC.out.size (fun k hk => by injection hk with hk; have := (F_g1.out.lt g1 rfl).1; have := HBw.out.size; omega))
                have F_g2 := hide hown
                clear hown hgrow hg hlt
                refine hK _ _ ⟨later_of HL4.out, ?_⟩
                simp only [Act.put, List.setIfInBounds_toArray, List.set_cons_succ, List.set_cons_zero]
                refine wpAnyS_only 11 (by kernel_rfl) (by simp; rfl) rfl rfl (fun K hK => ?_)
                refine wp_append_at (.tmp 49) (.tmp 52) 23 rfl w3.heap.size 25 i0 _ 5 48 Try.underlying23 Hi.out Hz.out.1 Hz.out.2.1 Hz.out.2.2 rfl (by decide) g2 (k + 1) cap2 _ rfl F_g2.out ⟨b, off + k * 5, none⟩ (n - k) (c - k) ((l.drop k).flatMap scells) rfl HDL.out (HDR.out W4 HC4.out) (scells_one _) (by unfold maxLen; omega) (by omega) HL4.out.size (fun g3 cap3 W5 hown hgrow hg hlt => ?_)
                have HL5 := hide (HL4.out.grown hgrow HL4.out.size (fun k hk => by injection hk with hk; have := (F_g2.out.lt g2 rfl).1; omega))
                have HC5 := hide (HC4.out.grown hgrow HC4.out.size (fun k hk => by injection hk with hk; have := (F_g2.out.lt g2 rfl).1; have := HBw.out.size; omega))
                have F_g3 := hide hown
                clear hown hgrow hg hlt
                refine hK _ _ ⟨later_of HL5.out, ?_⟩
                simp only [Act.put, List.setIfInBounds_toArray, List.set_cons_succ, List.set_cons_zero]
                refine wpAnyS_only 12 (by kernel_rfl) (by simp; rfl) rfl rfl (fun K hK => ?_)
                go_wp2_with fail
                refine ⟨later_of HL5.out, ?_⟩
                refine wpAnyH_done (by kernel_rfl) ?_ _
                go_wp2
                go_ret
                refine ⟨⟨_, rfl, ?_⟩, HC5.out⟩
                have h := own_le (B' := w.heap.size) F_g3.out HBw.out.size
                rw [show k + 1 + (n - k) = n + 1 by omega] at h
                rw [putS, HPS.out.1, HPS.out.2, List.flatMap_append, List.flatMap_append]
                rw [show k + 1 + (n - k) = n + 1 by omega]
                simpa using h
            · go_wp2_with fail
              have HL' : Hid (Below w3.heap.size w3 (V0.alloc (.cells #[.string s0, .int .i64 s1, .int .i64 s2, .int .i64 s3, .int .i64 s4] 25))) := hide (below_alloc HL.out _)
              have HC' : Hid (Below w.heap.size w (V0.alloc (.cells #[.string s0, .int .i64 s1, .int .i64 s2, .int .i64 s3, .int .i64 s4] 25))) := hide (below_alloc HC.out _)
              refine ⟨later_of HL'.out, ?_⟩
              have F_bs := hide (Row.new V0 #[.string s0, .int .i64 s1, .int .i64 s2, .int .i64 s3, .int .i64 s4] 25)
              have L_bs : Hid (V0.heap.size < (V0.alloc (.cells #[.string s0, .int .i64 s1, .int .i64 s2, .int .i64 s3, .int .i64 s4] 25)).heap.size) := hide (by simp)
              clear HL HC
              have HL := hide HL'.out
              have HC := hide HC'.out
              clear HL' HC'
              generalize (V0.alloc (.cells #[.string s0, .int .i64 s1, .int .i64 s2, .int .i64 s3, .int .i64 s4] 25)) = V1 at *
              generalize V0.heap.size = bs at *
              refine wpAnyS_only 0 (by kernel_rfl) (by simp; rfl) rfl rfl (fun K hK => ?_)
              go_wp2_with fail
              have HL' : Hid (Below w3.heap.size w3 (V1.alloc (.cells #[] 25))) := hide (below_alloc HL.out _)
              have HC' : Hid (Below w.heap.size w (V1.alloc (.cells #[] 25))) := hide (below_alloc HC.out _)
              refine ⟨later_of HL'.out, ?_⟩
              replace F_bs := hide (F_bs.out.alloc (.cells #[] 25))
              have N_b0_bs : Hid (V1.heap.size ≠ bs) := hide (by have := L_bs.out; omega)
              replace L_bs : Hid (bs < (V1.alloc (.cells #[] 25)).heap.size) := hide (by have := L_bs.out; simp; omega)
              have F_b0 : Hid ((V1.alloc (.cells #[] 25)).ownsRow w3.heap.size 25 5 (.slice (some ⟨V1.heap.size, 0, none⟩) 0 0) 0 []) := hide (World.ownsRow_made V1 #[] 0 HL.out.size (Nat.zero_le _) rfl)
              have L_b0 : Hid (V1.heap.size < (V1.alloc (.cells #[] 25)).heap.size) := hide (by simp)
              clear HL HC
              have HL := hide HL'.out
              have HC := hide HC'.out
              clear HL' HC'
              generalize (V1.alloc (.cells #[] 25)) = V2 at *
              generalize V1.heap.size = b0 at *
              refine wpAnyS_only 4 (by kernel_rfl) (by simp; rfl) rfl rfl (fun K hK => ?_)
              refine wp_append_at (.tmp 42) (.tmp 45) 23 rfl w3.heap.size 25 i0 _ 5 48 Try.underlying23 Hi.out Hz.out.1 Hz.out.2.1 Hz.out.2.2 rfl (by decide) b0 0 0 [] rfl F_b0.out ⟨b, off, none⟩ k c ((l.take k).flatMap scells) rfl HTL.out (HTR.out V2 HC.out) (scells_one _) (by unfold maxLen; omega) (by omega) HL.out.size (fun g1 cap1 V3 hown hgrow hg hlt => ?_)
              rw [Nat.zero_add] at hown ⊢
              have HL' := hide (HL.out.grown hgrow HL.out.size (fun k hk => by injection hk with hk; have := (F_b0.out.lt b0 rfl).1; omega))
              have HC' := hide (HC.out.grown hgrow HC.out.size (fun k hk => by injection hk with hk; have := (F_b0.out.lt b0 rfl).1; have := HBw.out.size; omega))
              replace F_bs := hide (F_bs.out.grown hgrow (fun e => by injection e with e; have := N_b0_bs.out; omega))
              have N_g1_bs : Hid (g1 ≠ bs) := hide (by have := L_bs.out; have := N_b0_bs.out; omega)
              replace L_bs : Hid (bs < V3.heap.size) := hide (by have := L_bs.out; have := hgrow.size; omega)
              clear N_b0_bs
              have F_g1 : Hid (V3.ownsRow w3.heap.size 25 5 (.slice (some ⟨g1, 0, none⟩) k cap1) k ((l.take k).flatMap scells)) := hide (by simpa using hown)
              have L_g1 : Hid (g1 < V3.heap.size) := hide hlt
              clear HL HC hown hgrow hg hlt F_b0 L_b0
              have HL := hide HL'.out
              have HC := hide HC'.out
              clear HL' HC'
              refine hK _ _ ⟨later_of HL.out, ?_⟩
              simp only [Act.put, List.setIfInBounds_toArray, List.set_cons_succ, List.set_cons_zero]
              refine wpAnyS_only 7 (by kernel_rfl) (by simp; rfl) rfl rfl (fun K hK => ?_)
              refine wp_append_at (.tmp 46) (.tmp 48) 23 rfl w3.heap.size 25 i0 _ 5 48 Try.underlying23 Hi.out Hz.out.1 Hz.out.2.1 Hz.out.2.2 rfl (by decide) g1 k cap1 ((l.take k).flatMap scells) rfl F_g1.out ⟨bs, 0, none⟩ 1 1 (scells (s0, s1, s2, s3, s4)) rfl rfl (fun j u hu => by rw [Addr.add_lit, Nat.zero_add]; exact F_bs.out.2.1 j u hu) (fun u hu => scells_one [(s0, s1, s2, s3, s4)] u (by simpa using hu)) (by unfold maxLen; omega) (by omega) HL.out.size (fun g2 cap2 W4 hown hgrow hg hlt => ?_)
              have HL4 := hide (HL.out.grown hgrow HL.out.size (fun k hk => by injection hk with hk; have := (F_g1.out.lt g1 rfl).1; omega))
              have HC4 := hide (HC.out.grown hgrow HC.out.size (fun k hk => by injection hk with hk; have := (F_g1.out.lt g1 rfl).1; have := HBw.out.size; omega))
              have F_g2 := hide hown
              clear hown hgrow hg hlt
              refine hK _ _ ⟨later_of HL4.out, ?_⟩
              simp only [Act.put, List.setIfInBounds_toArray, List.set_cons_succ, List.set_cons_zero]
              refine wpAnyS_only 11 (by kernel_rfl) (by simp; rfl) rfl rfl (fun K hK => ?_)
              refine wp_append_at (.tmp 49) (.tmp 52) 23 rfl w3.heap.size 25 i0 _ 5 48 Try.underlying23 Hi.out Hz.out.1 Hz.out.2.1 Hz.out.2.2 rfl (by decide) g2 (k + 1) cap2 _ rfl F_g2.out ⟨b, off + k * 5, none⟩ (n - k) (c - k) ((l.drop k).flatMap scells) rfl HDL.out (HDR.out W4 HC4.out) (scells_one _) (by unfold maxLen; omega) (by omega) HL4.out.size (fun g3 cap3 W5 hown hgrow hg hlt => ?_)
              have HL5 := hide (HL4.out.grown hgrow HL4.out.size (fun k hk => by injection hk with hk; have := (F_g2.out.lt g2 rfl).1; omega))
              have HC5 := hide (HC4.out.grown hgrow HC4.out.size (fun k hk => by injection hk with hk; have := (F_g2.out.lt g2 rfl).1; have := HBw.out.size; omega))
              have F_g3 := hide hown
              clear hown hgrow hg hlt
              refine hK _ _ ⟨later_of HL5.out, ?_⟩
              simp only [Act.put, List.setIfInBounds_toArray, List.set_cons_succ, List.set_cons_zero]
              refine wpAnyS_only 12 (by kernel_rfl) (by simp; rfl) rfl rfl (fun K hK => ?_)
              go_wp2_with fail
              refine ⟨later_of HL5.out, ?_⟩
              refine wpAnyH_done (by kernel_rfl) ?_ _
              go_wp2
              go_ret
              refine ⟨⟨_, rfl, ?_⟩, HC5.out⟩
              have h := own_le (B' := w.heap.size) F_g3.out HBw.out.size
              rw [show k + 1 + (n - k) = n + 1 by omega] at h
              rw [putS, HPS.out.1, HPS.out.2, List.flatMap_append, List.flatMap_append]
              rw [show k + 1 + (n - k) = n + 1 by omega]
              simpa using h
        | false =>
          have HV := hide (show befB (s0, s1, s2, s3, s4) (x0, x1, x2, x3, x4) = false by rw [HV0.out, h1, h2]; rfl)
          have HPS := hide (takeWhile_at (l := l) (k := k) (by have := Hn.out; omega) HA.out (fun x hx => by rw [HX.out] at hx; injection hx with hx; rw [← hx]; exact HV.out))
          go_wp2_with fail
          refine wp_region_later (by kernel_rfl) (by kernel_rfl) ?_
          repeat (go_big_quiet_step (fail))
          refine wpQuiet_nil ?_
          refine later_intro fun w3 hb3 => ?_
          have HB3 := hide (below_step HB.out hb3)
          clear hb3 c0 c1 r0 r1 rz hbs
          obtain ⟨i0, hi0, hz0, hz1, hz2⟩ := info_parts infoStretch
          have Hi := hide hi0
          have Hz := hide (And.intro hz0 (And.intro hz1 hz2))
          clear hi0 hz0 hz1 hz2
          have HTL := hide (show ((l.take k).flatMap scells).length = k * 5 from take_flat_length scells 5 (fun _ => rfl) (by have := Hn.out; omega))
          have HDL := hide (show ((l.drop k).flatMap scells).length = (n - k) * 5 by rw [flat_length scells 5 (fun _ => rfl), List.length_drop]; have := Hn.out; omega)
          have HTR := hide (show ∀ W, Below w.heap.size w W → ∀ j u, ((l.take k).flatMap scells)[j]? = some u → W.cell? ((⟨b, off, none⟩ : Addr).add j) = some u from fun W hb => by
            have h := (Hr.out.below hb).part 0 (k * 5)
            rw [List.drop_zero, flat_take scells 5 (fun _ => rfl)] at h
            simpa using h.add)
          have HBw := hide (below_step HB0.out HB3.out)
          have r0 := (HBX.out.below HB3.out).2.1 0 _ rfl
          have r1 := (HBX.out.below HB3.out).2.1 1 _ rfl
          have r2 := (HBX.out.below HB3.out).2.1 2 _ rfl
          have r3 := (HBX.out.below HB3.out).2.1 3 _ rfl
          have r4 := (HBX.out.below HB3.out).2.1 4 _ rfl
          have rz := (HBX.out.below HB3.out).1
          go_wp2_with fail
          refine wpAnyS_start (fun w' => ∃ n : Later w3, w' = n.w) (n := 13) (by kernel_rfl) rfl rfl ?_
          refine wpAnyS_take_all [1, 2, 3, 5, 8, 9, 10] 6 rfl (by kernel_rfl) (by intro c a d v w h; cases d <;> exact h) (by kernel_rfl) (by simp; rfl) rfl (later_drew _) ?_
          repeat (go_big_quiet_step (fail))
          refine wpQuiet_nil ?_
          have HL : Hid (Below w3.heap.size w3 w3.drew) := hide (Below.refl _ _).drew
          have HC : Hid (Below w.heap.size w w3.drew) := hide HBw.out.drew
          clear r0 r1 r2 r3 r4 rz
          generalize w3.drew = V0 at *
          have HDR := hide (show ∀ W, Below w.heap.size w W → ∀ j u, ((l.drop k).flatMap scells)[j]? = some u → W.cell? ((⟨b, off + k * 5, none⟩ : Addr).add j) = some u from fun W hb => by
            have h := (Hr.out.below hb).part (k * 5) ((l.flatMap scells).length)
            rw [flat_drop scells 5 (fun _ => rfl), List.take_of_length_le (by rw [flat_length scells 5 (fun _ => rfl), flat_length scells 5 (fun _ => rfl), List.length_drop]; omega)] at h
            exact h.add)
          refine wpAnyS_two 0 6 (by kernel_rfl) (by simp; rfl) (by simp; rfl) rfl rfl rfl rfl (fun K hK => ?_) (fun K hK => ?_)
          · go_wp2_with fail
            have HL' : Hid (Below w3.heap.size w3 (V0.alloc (.cells #[] 25))) := hide (below_alloc HL.out _)
            have HC' : Hid (Below w.heap.size w (V0.alloc (.cells #[] 25))) := hide (below_alloc HC.out _)
            refine ⟨later_of HL'.out, ?_⟩
            have F_b0 : Hid ((V0.alloc (.cells #[] 25)).ownsRow w3.heap.size 25 5 (.slice (some ⟨V0.heap.size, 0, none⟩) 0 0) 0 []) := hide (World.ownsRow_made V0 #[] 0 HL.out.size (Nat.zero_le _) rfl)
            have L_b0 : Hid (V0.heap.size < (V0.alloc (.cells #[] 25)).heap.size) := hide (by simp)
            clear HL HC
            have HL := hide HL'.out
            have HC := hide HC'.out
            clear HL' HC'
            generalize (V0.alloc (.cells #[] 25)) = V1 at *
            generalize V0.heap.size = b0 at *
            refine wpAnyS_two 4 6 (by kernel_rfl) (by simp; rfl) (by simp; rfl) rfl rfl rfl rfl (fun K hK => ?_) (fun K hK => ?_)
            · refine wp_append_at (.tmp 42) (.tmp 45) 23 rfl w3.heap.size 25 i0 _ 5 48 Try.underlying23 Hi.out Hz.out.1 Hz.out.2.1 Hz.out.2.2 rfl (by decide) b0 0 0 [] rfl F_b0.out ⟨b, off, none⟩ k c ((l.take k).flatMap scells) rfl HTL.out (HTR.out V1 HC.out) (scells_one _) (by unfold maxLen; omega) (by omega) HL.out.size (fun g1 cap1 V2 hown hgrow hg hlt => ?_)
              rw [Nat.zero_add] at hown ⊢
              have HL' := hide (HL.out.grown hgrow HL.out.size (fun k hk => by injection hk with hk; have := (F_b0.out.lt b0 rfl).1; omega))
              have HC' := hide (HC.out.grown hgrow HC.out.size (fun k hk => by injection hk with hk; have := (F_b0.out.lt b0 rfl).1; have := HBw.out.size; omega))
              have F_g1 : Hid (V2.ownsRow w3.heap.size 25 5 (.slice (some ⟨g1, 0, none⟩) k cap1) k ((l.take k).flatMap scells)) := hide (by simpa using hown)
              have L_g1 : Hid (g1 < V2.heap.size) := hide hlt
              clear HL HC hown hgrow hg hlt F_b0 L_b0
              have HL := hide HL'.out
              have HC := hide HC'.out
              clear HL' HC'
              refine hK _ _ ⟨later_of HL.out, ?_⟩
              simp only [Act.put, List.setIfInBounds_toArray, List.set_cons_succ, List.set_cons_zero]
              refine wpAnyS_only 6 (by kernel_rfl) (by simp; rfl) rfl rfl (fun K hK => ?_)
              go_wp2_with fail
              have HL' : Hid (Below w3.heap.size w3 (V2.alloc (.cells #[.string s0, .int .i64 s1, .int .i64 s2, .int .i64 s3, .int .i64 s4] 25))) := hide (below_alloc HL.out _)
              have HC' : Hid (Below w.heap.size w (V2.alloc (.cells #[.string s0, .int .i64 s1, .int .i64 s2, .int .i64 s3, .int .i64 s4] 25))) := hide (below_alloc HC.out _)
              refine ⟨later_of HL'.out, ?_⟩
              replace F_g1 := hide (World.ownsRow.alloc F_g1.out (.cells #[.string s0, .int .i64 s1, .int .i64 s2, .int .i64 s3, .int .i64 s4] 25))
              have N_bs_g1 : Hid (V2.heap.size ≠ g1) := hide (by have := L_g1.out; omega)
              replace L_g1 : Hid (g1 < (V2.alloc (.cells #[.string s0, .int .i64 s1, .int .i64 s2, .int .i64 s3, .int .i64 s4] 25)).heap.size) := hide (by have := L_g1.out; simp; omega)
              have F_bs := hide (Row.new V2 #[.string s0, .int .i64 s1, .int .i64 s2, .int .i64 s3, .int .i64 s4] 25)
              have L_bs : Hid (V2.heap.size < (V2.alloc (.cells #[.string s0, .int .i64 s1, .int .i64 s2, .int .i64 s3, .int .i64 s4] 25)).heap.size) := hide (by simp)
              clear HL HC
              have HL := hide HL'.out
              have HC := hide HC'.out
              clear HL' HC'
              generalize (V2.alloc (.cells #[.string s0, .int .i64 s1, .int .i64 s2, .int .i64 s3, .int .i64 s4] 25)) = V3 at *
              generalize V2.heap.size = bs at *
              refine wpAnyS_only 7 (by kernel_rfl) (by simp; rfl) rfl rfl (fun K hK => ?_)
              refine wp_append_at (.tmp 46) (.tmp 48) 23 rfl w3.heap.size 25 i0 _ 5 48 Try.underlying23 Hi.out Hz.out.1 Hz.out.2.1 Hz.out.2.2 rfl (by decide) g1 k cap1 ((l.take k).flatMap scells) rfl F_g1.out ⟨bs, 0, none⟩ 1 1 (scells (s0, s1, s2, s3, s4)) rfl rfl (fun j u hu => by rw [Addr.add_lit, Nat.zero_add]; exact F_bs.out.2.1 j u hu) (fun u hu => scells_one [(s0, s1, s2, s3, s4)] u (by simpa using hu)) (by unfold maxLen; omega) (by omega) HL.out.size (fun g2 cap2 W4 hown hgrow hg hlt => ?_)
              have HL4 := hide (HL.out.grown hgrow HL.out.size (fun k hk => by injection hk with hk; have := (F_g1.out.lt g1 rfl).1; omega))
              have HC4 := hide (HC.out.grown hgrow HC.out.size (fun k hk => by injection hk with hk; have := (F_g1.out.lt g1 rfl).1; have := HBw.out.size; omega))
              have F_g2 := hide hown
              clear hown hgrow hg hlt
              refine hK _ _ ⟨later_of HL4.out, ?_⟩
              simp only [Act.put, List.setIfInBounds_toArray, List.set_cons_succ, List.set_cons_zero]
              refine wpAnyS_only 11 (by kernel_rfl) (by simp; rfl) rfl rfl (fun K hK => ?_)
              refine wp_append_at (.tmp 49) (.tmp 52) 23 rfl w3.heap.size 25 i0 _ 5 48 Try.underlying23 Hi.out Hz.out.1 Hz.out.2.1 Hz.out.2.2 rfl (by decide) g2 (k + 1) cap2 _ rfl F_g2.out ⟨b, off + k * 5, none⟩ (n - k) (c - k) ((l.drop k).flatMap scells) rfl HDL.out (HDR.out W4 HC4.out) (scells_one _) (by unfold maxLen; omega) (by omega) HL4.out.size (fun g3 cap3 W5 hown hgrow hg hlt => ?_)
              have HL5 := hide (HL4.out.grown hgrow HL4.out.size (fun k hk => by injection hk with hk; have := (F_g2.out.lt g2 rfl).1; omega))
              have HC5 := hide (HC4.out.grown hgrow HC4.out.size (fun k hk => by injection hk with hk; have := (F_g2.out.lt g2 rfl).1; have := HBw.out.size; omega))
              have F_g3 := hide hown
              clear hown hgrow hg hlt
              refine hK _ _ ⟨later_of HL5.out, ?_⟩
              simp only [Act.put, List.setIfInBounds_toArray, List.set_cons_succ, List.set_cons_zero]
              refine wpAnyS_only 12 (by kernel_rfl) (by simp; rfl) rfl rfl (fun K hK => ?_)
              go_wp2_with fail
              refine ⟨later_of HL5.out, ?_⟩
              refine wpAnyH_done (by kernel_rfl) ?_ _
              go_wp2
              go_ret
              refine ⟨⟨_, rfl, ?_⟩, HC5.out⟩
              have h := own_le (B' := w.heap.size) F_g3.out HBw.out.size
              rw [show k + 1 + (n - k) = n + 1 by omega] at h
              rw [putS, HPS.out.1, HPS.out.2, List.flatMap_append, List.flatMap_append]
              rw [show k + 1 + (n - k) = n + 1 by omega]
              simpa using h
            · go_wp2_with fail
              have HL' : Hid (Below w3.heap.size w3 (V1.alloc (.cells #[.string s0, .int .i64 s1, .int .i64 s2, .int .i64 s3, .int .i64 s4] 25))) := hide (below_alloc HL.out _)
              have HC' : Hid (Below w.heap.size w (V1.alloc (.cells #[.string s0, .int .i64 s1, .int .i64 s2, .int .i64 s3, .int .i64 s4] 25))) := hide (below_alloc HC.out _)
              refine ⟨later_of HL'.out, ?_⟩
              replace F_b0 := hide (World.ownsRow.alloc F_b0.out (.cells #[.string s0, .int .i64 s1, .int .i64 s2, .int .i64 s3, .int .i64 s4] 25))
              have N_bs_b0 : Hid (V1.heap.size ≠ b0) := hide (by have := L_b0.out; omega)
              replace L_b0 : Hid (b0 < (V1.alloc (.cells #[.string s0, .int .i64 s1, .int .i64 s2, .int .i64 s3, .int .i64 s4] 25)).heap.size) := hide (by have := L_b0.out; simp; omega)
              have F_bs := hide (Row.new V1 #[.string s0, .int .i64 s1, .int .i64 s2, .int .i64 s3, .int .i64 s4] 25)
              have L_bs : Hid (V1.heap.size < (V1.alloc (.cells #[.string s0, .int .i64 s1, .int .i64 s2, .int .i64 s3, .int .i64 s4] 25)).heap.size) := hide (by simp)
              clear HL HC
              have HL := hide HL'.out
              have HC := hide HC'.out
              clear HL' HC'
              generalize (V1.alloc (.cells #[.string s0, .int .i64 s1, .int .i64 s2, .int .i64 s3, .int .i64 s4] 25)) = V2 at *
              generalize V1.heap.size = bs at *
              refine wpAnyS_only 4 (by kernel_rfl) (by simp; rfl) rfl rfl (fun K hK => ?_)
              refine wp_append_at (.tmp 42) (.tmp 45) 23 rfl w3.heap.size 25 i0 _ 5 48 Try.underlying23 Hi.out Hz.out.1 Hz.out.2.1 Hz.out.2.2 rfl (by decide) b0 0 0 [] rfl F_b0.out ⟨b, off, none⟩ k c ((l.take k).flatMap scells) rfl HTL.out (HTR.out V2 HC.out) (scells_one _) (by unfold maxLen; omega) (by omega) HL.out.size (fun g1 cap1 V3 hown hgrow hg hlt => ?_)
              rw [Nat.zero_add] at hown ⊢
              have HL' := hide (HL.out.grown hgrow HL.out.size (fun k hk => by injection hk with hk; have := (F_b0.out.lt b0 rfl).1; omega))
              have HC' := hide (HC.out.grown hgrow HC.out.size (fun k hk => by injection hk with hk; have := (F_b0.out.lt b0 rfl).1; have := HBw.out.size; omega))
              replace F_bs := hide (F_bs.out.grown hgrow (fun e => by injection e with e; have := N_bs_b0.out; omega))
              have N_g1_bs : Hid (g1 ≠ bs) := hide (by have := L_bs.out; have := N_bs_b0.out; omega)
              replace L_bs : Hid (bs < V3.heap.size) := hide (by have := L_bs.out; have := hgrow.size; omega)
              clear N_bs_b0
              have F_g1 : Hid (V3.ownsRow w3.heap.size 25 5 (.slice (some ⟨g1, 0, none⟩) k cap1) k ((l.take k).flatMap scells)) := hide (by simpa using hown)
              have L_g1 : Hid (g1 < V3.heap.size) := hide hlt
              clear HL HC hown hgrow hg hlt F_b0 L_b0
              have HL := hide HL'.out
              have HC := hide HC'.out
              clear HL' HC'
              refine hK _ _ ⟨later_of HL.out, ?_⟩
              simp only [Act.put, List.setIfInBounds_toArray, List.set_cons_succ, List.set_cons_zero]
              refine wpAnyS_only 7 (by kernel_rfl) (by simp; rfl) rfl rfl (fun K hK => ?_)
              refine wp_append_at (.tmp 46) (.tmp 48) 23 rfl w3.heap.size 25 i0 _ 5 48 Try.underlying23 Hi.out Hz.out.1 Hz.out.2.1 Hz.out.2.2 rfl (by decide) g1 k cap1 ((l.take k).flatMap scells) rfl F_g1.out ⟨bs, 0, none⟩ 1 1 (scells (s0, s1, s2, s3, s4)) rfl rfl (fun j u hu => by rw [Addr.add_lit, Nat.zero_add]; exact F_bs.out.2.1 j u hu) (fun u hu => scells_one [(s0, s1, s2, s3, s4)] u (by simpa using hu)) (by unfold maxLen; omega) (by omega) HL.out.size (fun g2 cap2 W4 hown hgrow hg hlt => ?_)
              have HL4 := hide (HL.out.grown hgrow HL.out.size (fun k hk => by injection hk with hk; have := (F_g1.out.lt g1 rfl).1; omega))
              have HC4 := hide (HC.out.grown hgrow HC.out.size (fun k hk => by injection hk with hk; have := (F_g1.out.lt g1 rfl).1; have := HBw.out.size; omega))
              have F_g2 := hide hown
              clear hown hgrow hg hlt
              refine hK _ _ ⟨later_of HL4.out, ?_⟩
              simp only [Act.put, List.setIfInBounds_toArray, List.set_cons_succ, List.set_cons_zero]
              refine wpAnyS_only 11 (by kernel_rfl) (by simp; rfl) rfl rfl (fun K hK => ?_)
              refine wp_append_at (.tmp 49) (.tmp 52) 23 rfl w3.heap.size 25 i0 _ 5 48 Try.underlying23 Hi.out Hz.out.1 Hz.out.2.1 Hz.out.2.2 rfl (by decide) g2 (k + 1) cap2 _ rfl F_g2.out ⟨b, off + k * 5, none⟩ (n - k) (c - k) ((l.drop k).flatMap scells) rfl HDL.out (HDR.out W4 HC4.out) (scells_one _) (by unfold maxLen; omega) (by omega) HL4.out.size (fun g3 cap3 W5 hown hgrow hg hlt => ?_)
              have HL5 := hide (HL4.out.grown hgrow HL4.out.size (fun k hk => by injection hk with hk; have := (F_g2.out.lt g2 rfl).1; omega))
              have HC5 := hide (HC4.out.grown hgrow HC4.out.size (fun k hk => by injection hk with hk; have := (F_g2.out.lt g2 rfl).1; have := HBw.out.size; omega))
              have F_g3 := hide hown
              clear hown hgrow hg hlt
              refine hK _ _ ⟨later_of HL5.out, ?_⟩
              simp only [Act.put, List.setIfInBounds_toArray, List.set_cons_succ, List.set_cons_zero]
              refine wpAnyS_only 12 (by kernel_rfl) (by simp; rfl) rfl rfl (fun K hK => ?_)
              go_wp2_with fail
              refine ⟨later_of HL5.out, ?_⟩
              refine wpAnyH_done (by kernel_rfl) ?_ _
              go_wp2
              go_ret
              refine ⟨⟨_, rfl, ?_⟩, HC5.out⟩
              have h := own_le (B' := w.heap.size) F_g3.out HBw.out.size
              rw [show k + 1 + (n - k) = n + 1 by omega] at h
              rw [putS, HPS.out.1, HPS.out.2, List.flatMap_append, List.flatMap_append]
              rw [show k + 1 + (n - k) = n + 1 by omega]
              simpa using h
          · go_wp2_with fail
            have HL' : Hid (Below w3.heap.size w3 (V0.alloc (.cells #[.string s0, .int .i64 s1, .int .i64 s2, .int .i64 s3, .int .i64 s4] 25))) := hide (below_alloc HL.out _)
            have HC' : Hid (Below w.heap.size w (V0.alloc (.cells #[.string s0, .int .i64 s1, .int .i64 s2, .int .i64 s3, .int .i64 s4] 25))) := hide (below_alloc HC.out _)
            refine ⟨later_of HL'.out, ?_⟩
            have F_bs := hide (Row.new V0 #[.string s0, .int .i64 s1, .int .i64 s2, .int .i64 s3, .int .i64 s4] 25)
            have L_bs : Hid (V0.heap.size < (V0.alloc (.cells #[.string s0, .int .i64 s1, .int .i64 s2, .int .i64 s3, .int .i64 s4] 25)).heap.size) := hide (by simp)
            clear HL HC
            have HL := hide HL'.out
            have HC := hide HC'.out
            clear HL' HC'
            generalize (V0.alloc (.cells #[.string s0, .int .i64 s1, .int .i64 s2, .int .i64 s3, .int .i64 s4] 25)) = V1 at *
            generalize V0.heap.size = bs at *
            refine wpAnyS_only 0 (by kernel_rfl) (by simp; rfl) rfl rfl (fun K hK => ?_)
            go_wp2_with fail
            have HL' : Hid (Below w3.heap.size w3 (V1.alloc (.cells #[] 25))) := hide (below_alloc HL.out _)
            have HC' : Hid (Below w.heap.size w (V1.alloc (.cells #[] 25))) := hide (below_alloc HC.out _)
            refine ⟨later_of HL'.out, ?_⟩
            replace F_bs := hide (F_bs.out.alloc (.cells #[] 25))
            have N_b0_bs : Hid (V1.heap.size ≠ bs) := hide (by have := L_bs.out; omega)
            replace L_bs : Hid (bs < (V1.alloc (.cells #[] 25)).heap.size) := hide (by have := L_bs.out; simp; omega)
            have F_b0 : Hid ((V1.alloc (.cells #[] 25)).ownsRow w3.heap.size 25 5 (.slice (some ⟨V1.heap.size, 0, none⟩) 0 0) 0 []) := hide (World.ownsRow_made V1 #[] 0 HL.out.size (Nat.zero_le _) rfl)
            have L_b0 : Hid (V1.heap.size < (V1.alloc (.cells #[] 25)).heap.size) := hide (by simp)
            clear HL HC
            have HL := hide HL'.out
            have HC := hide HC'.out
            clear HL' HC'
            generalize (V1.alloc (.cells #[] 25)) = V2 at *
            generalize V1.heap.size = b0 at *
            refine wpAnyS_only 4 (by kernel_rfl) (by simp; rfl) rfl rfl (fun K hK => ?_)
            refine wp_append_at (.tmp 42) (.tmp 45) 23 rfl w3.heap.size 25 i0 _ 5 48 Try.underlying23 Hi.out Hz.out.1 Hz.out.2.1 Hz.out.2.2 rfl (by decide) b0 0 0 [] rfl F_b0.out ⟨b, off, none⟩ k c ((l.take k).flatMap scells) rfl HTL.out (HTR.out V2 HC.out) (scells_one _) (by unfold maxLen; omega) (by omega) HL.out.size (fun g1 cap1 V3 hown hgrow hg hlt => ?_)
            rw [Nat.zero_add] at hown ⊢
            have HL' := hide (HL.out.grown hgrow HL.out.size (fun k hk => by injection hk with hk; have := (F_b0.out.lt b0 rfl).1; omega))
            have HC' := hide (HC.out.grown hgrow HC.out.size (fun k hk => by injection hk with hk; have := (F_b0.out.lt b0 rfl).1; have := HBw.out.size; omega))
            replace F_bs := hide (F_bs.out.grown hgrow (fun e => by injection e with e; have := N_b0_bs.out; omega))
            have N_g1_bs : Hid (g1 ≠ bs) := hide (by have := L_bs.out; have := N_b0_bs.out; omega)
            replace L_bs : Hid (bs < V3.heap.size) := hide (by have := L_bs.out; have := hgrow.size; omega)
            clear N_b0_bs
            have F_g1 : Hid (V3.ownsRow w3.heap.size 25 5 (.slice (some ⟨g1, 0, none⟩) k cap1) k ((l.take k).flatMap scells)) := hide (by simpa using hown)
            have L_g1 : Hid (g1 < V3.heap.size) := hide hlt
            clear HL HC hown hgrow hg hlt F_b0 L_b0
            have HL := hide HL'.out
            have HC := hide HC'.out
            clear HL' HC'
            refine hK _ _ ⟨later_of HL.out, ?_⟩
            simp only [Act.put, List.setIfInBounds_toArray, List.set_cons_succ, List.set_cons_zero]
            refine wpAnyS_only 7 (by kernel_rfl) (by simp; rfl) rfl rfl (fun K hK => ?_)
            refine wp_append_at (.tmp 46) (.tmp 48) 23 rfl w3.heap.size 25 i0 _ 5 48 Try.underlying23 Hi.out Hz.out.1 Hz.out.2.1 Hz.out.2.2 rfl (by decide) g1 k cap1 ((l.take k).flatMap scells) rfl F_g1.out ⟨bs, 0, none⟩ 1 1 (scells (s0, s1, s2, s3, s4)) rfl rfl (fun j u hu => by rw [Addr.add_lit, Nat.zero_add]; exact F_bs.out.2.1 j u hu) (fun u hu => scells_one [(s0, s1, s2, s3, s4)] u (by simpa using hu)) (by unfold maxLen; omega) (by omega) HL.out.size (fun g2 cap2 W4 hown hgrow hg hlt => ?_)
            have HL4 := hide (HL.out.grown hgrow HL.out.size (fun k hk => by injection hk with hk; have := (F_g1.out.lt g1 rfl).1; omega))
            have HC4 := hide (HC.out.grown hgrow HC.out.size (fun k hk => by injection hk with hk; have := (F_g1.out.lt g1 rfl).1; have := HBw.out.size; omega))
            have F_g2 := hide hown
            clear hown hgrow hg hlt
            refine hK _ _ ⟨later_of HL4.out, ?_⟩
            simp only [Act.put, List.setIfInBounds_toArray, List.set_cons_succ, List.set_cons_zero]
            refine wpAnyS_only 11 (by kernel_rfl) (by simp; rfl) rfl rfl (fun K hK => ?_)
            refine wp_append_at (.tmp 49) (.tmp 52) 23 rfl w3.heap.size 25 i0 _ 5 48 Try.underlying23 Hi.out Hz.out.1 Hz.out.2.1 Hz.out.2.2 rfl (by decide) g2 (k + 1) cap2 _ rfl F_g2.out ⟨b, off + k * 5, none⟩ (n - k) (c - k) ((l.drop k).flatMap scells) rfl HDL.out (HDR.out W4 HC4.out) (scells_one _) (by unfold maxLen; omega) (by omega) HL4.out.size (fun g3 cap3 W5 hown hgrow hg hlt => ?_)
            have HL5 := hide (HL4.out.grown hgrow HL4.out.size (fun k hk => by injection hk with hk; have := (F_g2.out.lt g2 rfl).1; omega))
            have HC5 := hide (HC4.out.grown hgrow HC4.out.size (fun k hk => by injection hk with hk; have := (F_g2.out.lt g2 rfl).1; have := HBw.out.size; omega))
            have F_g3 := hide hown
            clear hown hgrow hg hlt
            refine hK _ _ ⟨later_of HL5.out, ?_⟩
            simp only [Act.put, List.setIfInBounds_toArray, List.set_cons_succ, List.set_cons_zero]
            refine wpAnyS_only 12 (by kernel_rfl) (by simp; rfl) rfl rfl (fun K hK => ?_)
            go_wp2_with fail
            refine ⟨later_of HL5.out, ?_⟩
            refine wpAnyH_done (by kernel_rfl) ?_ _
            go_wp2
            go_ret
            refine ⟨⟨_, rfl, ?_⟩, HC5.out⟩
            have h := own_le (B' := w.heap.size) F_g3.out HBw.out.size
            rw [show k + 1 + (n - k) = n + 1 by omega] at h
            rw [putS, HPS.out.1, HPS.out.2, List.flatMap_append, List.flatMap_append]
            rw [show k + 1 + (n - k) = n + 1 by omega]
            simpa using h
    · have hkn : k = n := by omega
      have hk2 : ¬ ((k : Int) < (n : Int)) := by omega
      have HKN := hide hkn
      have HPS := hide (takeWhile_at (l := l) (k := k) (by have := Hn.out; omega) HA.out (fun x hx => by rw [List.getElem?_eq_none (by have := Hn.out; omega)] at hx; cases hx))
      clear hkn
      go_wp2_with fail
      refine wp_region_later (by kernel_rfl) (by kernel_rfl) ?_
      repeat (go_big_quiet_step (fail))
      refine wpQuiet_nil ?_
      refine later_intro fun w3 hb3 => ?_
      have HB3 := hide (below_step HB.out hb3)
      clear hb3 r0 r1 rz
      obtain ⟨i0, hi0, hz0, hz1, hz2⟩ := info_parts infoStretch
      have Hi := hide hi0
      have Hz := hide (And.intro hz0 (And.intro hz1 hz2))
      clear hi0 hz0 hz1 hz2
      have HTL := hide (show ((l.take k).flatMap scells).length = k * 5 from take_flat_length scells 5 (fun _ => rfl) (by have := Hn.out; omega))
      have HDL := hide (show ((l.drop k).flatMap scells).length = (n - k) * 5 by rw [flat_length scells 5 (fun _ => rfl), List.length_drop]; have := Hn.out; omega)
      have HTR := hide (show ∀ W, Below w.heap.size w W → ∀ j u, ((l.take k).flatMap scells)[j]? = some u → W.cell? ((⟨b, off, none⟩ : Addr).add j) = some u from fun W hb => by
        have h := (Hr.out.below hb).part 0 (k * 5)
        rw [List.drop_zero, flat_take scells 5 (fun _ => rfl)] at h
        simpa using h.add)
      have HBw := hide (below_step HB0.out HB3.out)
      have r0 := (HBX.out.below HB3.out).2.1 0 _ rfl
      have r1 := (HBX.out.below HB3.out).2.1 1 _ rfl
      have r2 := (HBX.out.below HB3.out).2.1 2 _ rfl
      have r3 := (HBX.out.below HB3.out).2.1 3 _ rfl
      have r4 := (HBX.out.below HB3.out).2.1 4 _ rfl
      have rz := (HBX.out.below HB3.out).1
      go_wp2_with fail
      refine wpAnyS_start (fun w' => ∃ n : Later w3, w' = n.w) (n := 13) (by kernel_rfl) rfl rfl ?_
      refine wpAnyS_take_all [1, 2, 3, 5, 8, 9, 10] 6 rfl (by kernel_rfl) (by intro c a d v w h; cases d <;> exact h) (by kernel_rfl) (by simp; rfl) rfl (later_drew _) ?_
      repeat (go_big_quiet_step (fail))
      refine wpQuiet_nil ?_
      have HL : Hid (Below w3.heap.size w3 w3.drew) := hide (Below.refl _ _).drew
      have HC : Hid (Below w.heap.size w w3.drew) := hide HBw.out.drew
      clear r0 r1 r2 r3 r4 rz
      generalize w3.drew = V0 at *
      obtain ⟨ad, had, hadd⟩ : ∃ ad, (if c = k then some (⟨b, off, none⟩ : Addr) else some ⟨b, off + k * 5, none⟩) = some ad ∧ ∀ W, Below w.heap.size w W → ∀ j u, ((l.drop k).flatMap scells)[j]? = some u → W.cell? (ad.add j) = some u := by
        by_cases hck : c = k
        · refine ⟨_, if_pos hck, fun W hb j u hu => ?_⟩
          have : l.drop k = [] := List.drop_eq_nil_of_le (by have := Hn.out; omega)
          rw [this] at hu
          simp at hu
        · refine ⟨_, if_neg hck, fun W hb => ?_⟩
          have h := (Hr.out.below hb).part (k * 5) ((l.flatMap scells).length)
          rw [flat_drop scells 5 (fun _ => rfl), List.take_of_length_le (by rw [flat_length scells 5 (fun _ => rfl), flat_length scells 5 (fun _ => rfl), List.length_drop]; omega)] at h
          exact h.add
      rw [had]
      have HDR := hide hadd
      clear had hadd
      refine wpAnyS_two 0 6 (by kernel_rfl) (by simp; rfl) (by simp; rfl) rfl rfl rfl rfl (fun K hK => ?_) (fun K hK => ?_)
      · go_wp2_with fail
        have HL' : Hid (Below w3.heap.size w3 (V0.alloc (.cells #[] 25))) := hide (below_alloc HL.out _)
        have HC' : Hid (Below w.heap.size w (V0.alloc (.cells #[] 25))) := hide (below_alloc HC.out _)
        refine ⟨later_of HL'.out, ?_⟩
        have F_b0 : Hid ((V0.alloc (.cells #[] 25)).ownsRow w3.heap.size 25 5 (.slice (some ⟨V0.heap.size, 0, none⟩) 0 0) 0 []) := hide (World.ownsRow_made V0 #[] 0 HL.out.size (Nat.zero_le _) rfl)
        have L_b0 : Hid (V0.heap.size < (V0.alloc (.cells #[] 25)).heap.size) := hide (by simp)
        clear HL HC
        have HL := hide HL'.out
        have HC := hide HC'.out
        clear HL' HC'
        generalize (V0.alloc (.cells #[] 25)) = V1 at *
        generalize V0.heap.size = b0 at *
        refine wpAnyS_two 4 6 (by kernel_rfl) (by simp; rfl) (by simp; rfl) rfl rfl rfl rfl (fun K hK => ?_) (fun K hK => ?_)
        · refine wp_append_at (.tmp 42) (.tmp 45) 23 rfl w3.heap.size 25 i0 _ 5 48 Try.underlying23 Hi.out Hz.out.1 Hz.out.2.1 Hz.out.2.2 rfl (by decide) b0 0 0 [] rfl F_b0.out ⟨b, off, none⟩ k c ((l.take k).flatMap scells) rfl HTL.out (HTR.out V1 HC.out) (scells_one _) (by unfold maxLen; omega) (by omega) HL.out.size (fun g1 cap1 V2 hown hgrow hg hlt => ?_)
          rw [Nat.zero_add] at hown ⊢
          have HL' := hide (HL.out.grown hgrow HL.out.size (fun k hk => by injection hk with hk; have := (F_b0.out.lt b0 rfl).1; omega))
          have HC' := hide (HC.out.grown hgrow HC.out.size (fun k hk => by injection hk with hk; have := (F_b0.out.lt b0 rfl).1; have := HBw.out.size; omega))
          have F_g1 : Hid (V2.ownsRow w3.heap.size 25 5 (.slice (some ⟨g1, 0, none⟩) k cap1) k ((l.take k).flatMap scells)) := hide (by simpa using hown)
          have L_g1 : Hid (g1 < V2.heap.size) := hide hlt
          clear HL HC hown hgrow hg hlt F_b0 L_b0
          have HL := hide HL'.out
          have HC := hide HC'.out
          clear HL' HC'
          refine hK _ _ ⟨later_of HL.out, ?_⟩
          simp only [Act.put, List.setIfInBounds_toArray, List.set_cons_succ, List.set_cons_zero]
          refine wpAnyS_only 6 (by kernel_rfl) (by simp; rfl) rfl rfl (fun K hK => ?_)
          go_wp2_with fail
          have HL' : Hid (Below w3.heap.size w3 (V2.alloc (.cells #[.string s0, .int .i64 s1, .int .i64 s2, .int .i64 s3, .int .i64 s4] 25))) := hide (below_alloc HL.out _)
          have HC' : Hid (Below w.heap.size w (V2.alloc (.cells #[.string s0, .int .i64 s1, .int .i64 s2, .int .i64 s3, .int .i64 s4] 25))) := hide (below_alloc HC.out _)
          refine ⟨later_of HL'.out, ?_⟩
          replace F_g1 := hide (World.ownsRow.alloc F_g1.out (.cells #[.string s0, .int .i64 s1, .int .i64 s2, .int .i64 s3, .int .i64 s4] 25))
          have N_bs_g1 : Hid (V2.heap.size ≠ g1) := hide (by have := L_g1.out; omega)
          replace L_g1 : Hid (g1 < (V2.alloc (.cells #[.string s0, .int .i64 s1, .int .i64 s2, .int .i64 s3, .int .i64 s4] 25)).heap.size) := hide (by have := L_g1.out; simp; omega)
          have F_bs := hide (Row.new V2 #[.string s0, .int .i64 s1, .int .i64 s2, .int .i64 s3, .int .i64 s4] 25)
          have L_bs : Hid (V2.heap.size < (V2.alloc (.cells #[.string s0, .int .i64 s1, .int .i64 s2, .int .i64 s3, .int .i64 s4] 25)).heap.size) := hide (by simp)
          clear HL HC
          have HL := hide HL'.out
          have HC := hide HC'.out
          clear HL' HC'
          generalize (V2.alloc (.cells #[.string s0, .int .i64 s1, .int .i64 s2, .int .i64 s3, .int .i64 s4] 25)) = V3 at *
          generalize V2.heap.size = bs at *
          refine wpAnyS_only 7 (by kernel_rfl) (by simp; rfl) rfl rfl (fun K hK => ?_)
          refine wp_append_at (.tmp 46) (.tmp 48) 23 rfl w3.heap.size 25 i0 _ 5 48 Try.underlying23 Hi.out Hz.out.1 Hz.out.2.1 Hz.out.2.2 rfl (by decide) g1 k cap1 ((l.take k).flatMap scells) rfl F_g1.out ⟨bs, 0, none⟩ 1 1 (scells (s0, s1, s2, s3, s4)) rfl rfl (fun j u hu => by rw [Addr.add_lit, Nat.zero_add]; exact F_bs.out.2.1 j u hu) (fun u hu => scells_one [(s0, s1, s2, s3, s4)] u (by simpa using hu)) (by unfold maxLen; omega) (by omega) HL.out.size (fun g2 cap2 W4 hown hgrow hg hlt => ?_)
          have HL4 := hide (HL.out.grown hgrow HL.out.size (fun k hk => by injection hk with hk; have := (F_g1.out.lt g1 rfl).1; omega))
          have HC4 := hide (HC.out.grown hgrow HC.out.size (fun k hk => by injection hk with hk; have := (F_g1.out.lt g1 rfl).1; have := HBw.out.size; omega))
          have F_g2 := hide hown
          clear hown hgrow hg hlt
          refine hK _ _ ⟨later_of HL4.out, ?_⟩
          simp only [Act.put, List.setIfInBounds_toArray, List.set_cons_succ, List.set_cons_zero]
          refine wpAnyS_only 11 (by kernel_rfl) (by simp; rfl) rfl rfl (fun K hK => ?_)
          refine wp_append_at (.tmp 49) (.tmp 52) 23 rfl w3.heap.size 25 i0 _ 5 48 Try.underlying23 Hi.out Hz.out.1 Hz.out.2.1 Hz.out.2.2 rfl (by decide) g2 (k + 1) cap2 _ rfl F_g2.out ad (n - k) (c - k) ((l.drop k).flatMap scells) rfl HDL.out (HDR.out W4 HC4.out) (scells_one _) (by unfold maxLen; omega) (by omega) HL4.out.size (fun g3 cap3 W5 hown hgrow hg hlt => ?_)
          have HL5 := hide (HL4.out.grown hgrow HL4.out.size (fun k hk => by injection hk with hk; have := (F_g2.out.lt g2 rfl).1; omega))
          have HC5 := hide (HC4.out.grown hgrow HC4.out.size (fun k hk => by injection hk with hk; have := (F_g2.out.lt g2 rfl).1; have := HBw.out.size; omega))
          have F_g3 := hide hown
          clear hown hgrow hg hlt
          refine hK _ _ ⟨later_of HL5.out, ?_⟩
          simp only [Act.put, List.setIfInBounds_toArray, List.set_cons_succ, List.set_cons_zero]
          refine wpAnyS_only 12 (by kernel_rfl) (by simp; rfl) rfl rfl (fun K hK => ?_)
          go_wp2_with fail
          refine ⟨later_of HL5.out, ?_⟩
          refine wpAnyH_done (by kernel_rfl) ?_ _
          go_wp2
          go_ret
          refine ⟨⟨_, rfl, ?_⟩, HC5.out⟩
          have h := own_le (B' := w.heap.size) F_g3.out HBw.out.size
          rw [show k + 1 + (n - k) = n + 1 by omega] at h
          rw [putS, HPS.out.1, HPS.out.2, List.flatMap_append, List.flatMap_append]
          rw [show k + 1 + (n - k) = n + 1 by omega]
          simpa using h
        · go_wp2_with fail
          have HL' : Hid (Below w3.heap.size w3 (V1.alloc (.cells #[.string s0, .int .i64 s1, .int .i64 s2, .int .i64 s3, .int .i64 s4] 25))) := hide (below_alloc HL.out _)
          have HC' : Hid (Below w.heap.size w (V1.alloc (.cells #[.string s0, .int .i64 s1, .int .i64 s2, .int .i64 s3, .int .i64 s4] 25))) := hide (below_alloc HC.out _)
          refine ⟨later_of HL'.out, ?_⟩
          replace F_b0 := hide (World.ownsRow.alloc F_b0.out (.cells #[.string s0, .int .i64 s1, .int .i64 s2, .int .i64 s3, .int .i64 s4] 25))
          have N_bs_b0 : Hid (V1.heap.size ≠ b0) := hide (by have := L_b0.out; omega)
          replace L_b0 : Hid (b0 < (V1.alloc (.cells #[.string s0, .int .i64 s1, .int .i64 s2, .int .i64 s3, .int .i64 s4] 25)).heap.size) := hide (by have := L_b0.out; simp; omega)
          have F_bs := hide (Row.new V1 #[.string s0, .int .i64 s1, .int .i64 s2, .int .i64 s3, .int .i64 s4] 25)
          have L_bs : Hid (V1.heap.size < (V1.alloc (.cells #[.string s0, .int .i64 s1, .int .i64 s2, .int .i64 s3, .int .i64 s4] 25)).heap.size) := hide (by simp)
          clear HL HC
          have HL := hide HL'.out
          have HC := hide HC'.out
          clear HL' HC'
          generalize (V1.alloc (.cells #[.string s0, .int .i64 s1, .int .i64 s2, .int .i64 s3, .int .i64 s4] 25)) = V2 at *
          generalize V1.heap.size = bs at *
          refine wpAnyS_only 4 (by kernel_rfl) (by simp; rfl) rfl rfl (fun K hK => ?_)
          refine wp_append_at (.tmp 42) (.tmp 45) 23 rfl w3.heap.size 25 i0 _ 5 48 Try.underlying23 Hi.out Hz.out.1 Hz.out.2.1 Hz.out.2.2 rfl (by decide) b0 0 0 [] rfl F_b0.out ⟨b, off, none⟩ k c ((l.take k).flatMap scells) rfl HTL.out (HTR.out V2 HC.out) (scells_one _) (by unfold maxLen; omega) (by omega) HL.out.size (fun g1 cap1 V3 hown hgrow hg hlt => ?_)
          rw [Nat.zero_add] at hown ⊢
          have HL' := hide (HL.out.grown hgrow HL.out.size (fun k hk => by injection hk with hk; have := (F_b0.out.lt b0 rfl).1; omega))
          have HC' := hide (HC.out.grown hgrow HC.out.size (fun k hk => by injection hk with hk; have := (F_b0.out.lt b0 rfl).1; have := HBw.out.size; omega))
          replace F_bs := hide (F_bs.out.grown hgrow (fun e => by injection e with e; have := N_bs_b0.out; omega))
          have N_g1_bs : Hid (g1 ≠ bs) := hide (by have := L_bs.out; have := N_bs_b0.out; omega)
          replace L_bs : Hid (bs < V3.heap.size) := hide (by have := L_bs.out; have := hgrow.size; omega)
          clear N_bs_b0
          have F_g1 : Hid (V3.ownsRow w3.heap.size 25 5 (.slice (some ⟨g1, 0, none⟩) k cap1) k ((l.take k).flatMap scells)) := hide (by simpa using hown)
          have L_g1 : Hid (g1 < V3.heap.size) := hide hlt
          clear HL HC hown hgrow hg hlt F_b0 L_b0
          have HL := hide HL'.out
          have HC := hide HC'.out
          clear HL' HC'
          refine hK _ _ ⟨later_of HL.out, ?_⟩
          simp only [Act.put, List.setIfInBounds_toArray, List.set_cons_succ, List.set_cons_zero]
          refine wpAnyS_only 7 (by kernel_rfl) (by simp; rfl) rfl rfl (fun K hK => ?_)
          refine wp_append_at (.tmp 46) (.tmp 48) 23 rfl w3.heap.size 25 i0 _ 5 48 Try.underlying23 Hi.out Hz.out.1 Hz.out.2.1 Hz.out.2.2 rfl (by decide) g1 k cap1 ((l.take k).flatMap scells) rfl F_g1.out ⟨bs, 0, none⟩ 1 1 (scells (s0, s1, s2, s3, s4)) rfl rfl (fun j u hu => by rw [Addr.add_lit, Nat.zero_add]; exact F_bs.out.2.1 j u hu) (fun u hu => scells_one [(s0, s1, s2, s3, s4)] u (by simpa using hu)) (by unfold maxLen; omega) (by omega) HL.out.size (fun g2 cap2 W4 hown hgrow hg hlt => ?_)
          have HL4 := hide (HL.out.grown hgrow HL.out.size (fun k hk => by injection hk with hk; have := (F_g1.out.lt g1 rfl).1; omega))
          have HC4 := hide (HC.out.grown hgrow HC.out.size (fun k hk => by injection hk with hk; have := (F_g1.out.lt g1 rfl).1; have := HBw.out.size; omega))
          have F_g2 := hide hown
          clear hown hgrow hg hlt
          refine hK _ _ ⟨later_of HL4.out, ?_⟩
          simp only [Act.put, List.setIfInBounds_toArray, List.set_cons_succ, List.set_cons_zero]
          refine wpAnyS_only 11 (by kernel_rfl) (by simp; rfl) rfl rfl (fun K hK => ?_)
          refine wp_append_at (.tmp 49) (.tmp 52) 23 rfl w3.heap.size 25 i0 _ 5 48 Try.underlying23 Hi.out Hz.out.1 Hz.out.2.1 Hz.out.2.2 rfl (by decide) g2 (k + 1) cap2 _ rfl F_g2.out ad (n - k) (c - k) ((l.drop k).flatMap scells) rfl HDL.out (HDR.out W4 HC4.out) (scells_one _) (by unfold maxLen; omega) (by omega) HL4.out.size (fun g3 cap3 W5 hown hgrow hg hlt => ?_)
          have HL5 := hide (HL4.out.grown hgrow HL4.out.size (fun k hk => by injection hk with hk; have := (F_g2.out.lt g2 rfl).1; omega))
          have HC5 := hide (HC4.out.grown hgrow HC4.out.size (fun k hk => by injection hk with hk; have := (F_g2.out.lt g2 rfl).1; have := HBw.out.size; omega))
          have F_g3 := hide hown
          clear hown hgrow hg hlt
          refine hK _ _ ⟨later_of HL5.out, ?_⟩
          simp only [Act.put, List.setIfInBounds_toArray, List.set_cons_succ, List.set_cons_zero]
          refine wpAnyS_only 12 (by kernel_rfl) (by simp; rfl) rfl rfl (fun K hK => ?_)
          go_wp2_with fail
          refine ⟨later_of HL5.out, ?_⟩
          refine wpAnyH_done (by kernel_rfl) ?_ _
          go_wp2
          go_ret
          refine ⟨⟨_, rfl, ?_⟩, HC5.out⟩
          have h := own_le (B' := w.heap.size) F_g3.out HBw.out.size
          rw [show k + 1 + (n - k) = n + 1 by omega] at h
          rw [putS, HPS.out.1, HPS.out.2, List.flatMap_append, List.flatMap_append]
          rw [show k + 1 + (n - k) = n + 1 by omega]
          simpa using h
      · go_wp2_with fail
        have HL' : Hid (Below w3.heap.size w3 (V0.alloc (.cells #[.string s0, .int .i64 s1, .int .i64 s2, .int .i64 s3, .int .i64 s4] 25))) := hide (below_alloc HL.out _)
        have HC' : Hid (Below w.heap.size w (V0.alloc (.cells #[.string s0, .int .i64 s1, .int .i64 s2, .int .i64 s3, .int .i64 s4] 25))) := hide (below_alloc HC.out _)
        refine ⟨later_of HL'.out, ?_⟩
        have F_bs := hide (Row.new V0 #[.string s0, .int .i64 s1, .int .i64 s2, .int .i64 s3, .int .i64 s4] 25)
        have L_bs : Hid (V0.heap.size < (V0.alloc (.cells #[.string s0, .int .i64 s1, .int .i64 s2, .int .i64 s3, .int .i64 s4] 25)).heap.size) := hide (by simp)
        clear HL HC
        have HL := hide HL'.out
        have HC := hide HC'.out
        clear HL' HC'
        generalize (V0.alloc (.cells #[.string s0, .int .i64 s1, .int .i64 s2, .int .i64 s3, .int .i64 s4] 25)) = V1 at *
        generalize V0.heap.size = bs at *
        refine wpAnyS_only 0 (by kernel_rfl) (by simp; rfl) rfl rfl (fun K hK => ?_)
        go_wp2_with fail
        have HL' : Hid (Below w3.heap.size w3 (V1.alloc (.cells #[] 25))) := hide (below_alloc HL.out _)
        have HC' : Hid (Below w.heap.size w (V1.alloc (.cells #[] 25))) := hide (below_alloc HC.out _)
        refine ⟨later_of HL'.out, ?_⟩
        replace F_bs := hide (F_bs.out.alloc (.cells #[] 25))
        have N_b0_bs : Hid (V1.heap.size ≠ bs) := hide (by have := L_bs.out; omega)
        replace L_bs : Hid (bs < (V1.alloc (.cells #[] 25)).heap.size) := hide (by have := L_bs.out; simp; omega)
        have F_b0 : Hid ((V1.alloc (.cells #[] 25)).ownsRow w3.heap.size 25 5 (.slice (some ⟨V1.heap.size, 0, none⟩) 0 0) 0 []) := hide (World.ownsRow_made V1 #[] 0 HL.out.size (Nat.zero_le _) rfl)
        have L_b0 : Hid (V1.heap.size < (V1.alloc (.cells #[] 25)).heap.size) := hide (by simp)
        clear HL HC
        have HL := hide HL'.out
        have HC := hide HC'.out
        clear HL' HC'
        generalize (V1.alloc (.cells #[] 25)) = V2 at *
        generalize V1.heap.size = b0 at *
        refine wpAnyS_only 4 (by kernel_rfl) (by simp; rfl) rfl rfl (fun K hK => ?_)
        refine wp_append_at (.tmp 42) (.tmp 45) 23 rfl w3.heap.size 25 i0 _ 5 48 Try.underlying23 Hi.out Hz.out.1 Hz.out.2.1 Hz.out.2.2 rfl (by decide) b0 0 0 [] rfl F_b0.out ⟨b, off, none⟩ k c ((l.take k).flatMap scells) rfl HTL.out (HTR.out V2 HC.out) (scells_one _) (by unfold maxLen; omega) (by omega) HL.out.size (fun g1 cap1 V3 hown hgrow hg hlt => ?_)
        rw [Nat.zero_add] at hown ⊢
        have HL' := hide (HL.out.grown hgrow HL.out.size (fun k hk => by injection hk with hk; have := (F_b0.out.lt b0 rfl).1; omega))
        have HC' := hide (HC.out.grown hgrow HC.out.size (fun k hk => by injection hk with hk; have := (F_b0.out.lt b0 rfl).1; have := HBw.out.size; omega))
        replace F_bs := hide (F_bs.out.grown hgrow (fun e => by injection e with e; have := N_b0_bs.out; omega))
        have N_g1_bs : Hid (g1 ≠ bs) := hide (by have := L_bs.out; have := N_b0_bs.out; omega)
        replace L_bs : Hid (bs < V3.heap.size) := hide (by have := L_bs.out; have := hgrow.size; omega)
        clear N_b0_bs
        have F_g1 : Hid (V3.ownsRow w3.heap.size 25 5 (.slice (some ⟨g1, 0, none⟩) k cap1) k ((l.take k).flatMap scells)) := hide (by simpa using hown)
        have L_g1 : Hid (g1 < V3.heap.size) := hide hlt
        clear HL HC hown hgrow hg hlt F_b0 L_b0
        have HL := hide HL'.out
        have HC := hide HC'.out
        clear HL' HC'
        refine hK _ _ ⟨later_of HL.out, ?_⟩
        simp only [Act.put, List.setIfInBounds_toArray, List.set_cons_succ, List.set_cons_zero]
        refine wpAnyS_only 7 (by kernel_rfl) (by simp; rfl) rfl rfl (fun K hK => ?_)
        refine wp_append_at (.tmp 46) (.tmp 48) 23 rfl w3.heap.size 25 i0 _ 5 48 Try.underlying23 Hi.out Hz.out.1 Hz.out.2.1 Hz.out.2.2 rfl (by decide) g1 k cap1 ((l.take k).flatMap scells) rfl F_g1.out ⟨bs, 0, none⟩ 1 1 (scells (s0, s1, s2, s3, s4)) rfl rfl (fun j u hu => by rw [Addr.add_lit, Nat.zero_add]; exact F_bs.out.2.1 j u hu) (fun u hu => scells_one [(s0, s1, s2, s3, s4)] u (by simpa using hu)) (by unfold maxLen; omega) (by omega) HL.out.size (fun g2 cap2 W4 hown hgrow hg hlt => ?_)
        have HL4 := hide (HL.out.grown hgrow HL.out.size (fun k hk => by injection hk with hk; have := (F_g1.out.lt g1 rfl).1; omega))
        have HC4 := hide (HC.out.grown hgrow HC.out.size (fun k hk => by injection hk with hk; have := (F_g1.out.lt g1 rfl).1; have := HBw.out.size; omega))
        have F_g2 := hide hown
        clear hown hgrow hg hlt
        refine hK _ _ ⟨later_of HL4.out, ?_⟩
        simp only [Act.put, List.setIfInBounds_toArray, List.set_cons_succ, List.set_cons_zero]
        refine wpAnyS_only 11 (by kernel_rfl) (by simp; rfl) rfl rfl (fun K hK => ?_)
        refine wp_append_at (.tmp 49) (.tmp 52) 23 rfl w3.heap.size 25 i0 _ 5 48 Try.underlying23 Hi.out Hz.out.1 Hz.out.2.1 Hz.out.2.2 rfl (by decide) g2 (k + 1) cap2 _ rfl F_g2.out ad (n - k) (c - k) ((l.drop k).flatMap scells) rfl HDL.out (HDR.out W4 HC4.out) (scells_one _) (by unfold maxLen; omega) (by omega) HL4.out.size (fun g3 cap3 W5 hown hgrow hg hlt => ?_)
        have HL5 := hide (HL4.out.grown hgrow HL4.out.size (fun k hk => by injection hk with hk; have := (F_g2.out.lt g2 rfl).1; omega))
        have HC5 := hide (HC4.out.grown hgrow HC4.out.size (fun k hk => by injection hk with hk; have := (F_g2.out.lt g2 rfl).1; have := HBw.out.size; omega))
        have F_g3 := hide hown
        clear hown hgrow hg hlt
        refine hK _ _ ⟨later_of HL5.out, ?_⟩
        simp only [Act.put, List.setIfInBounds_toArray, List.set_cons_succ, List.set_cons_zero]
        refine wpAnyS_only 12 (by kernel_rfl) (by simp; rfl) rfl rfl (fun K hK => ?_)
        go_wp2_with fail
        refine ⟨later_of HL5.out, ?_⟩
        refine wpAnyH_done (by kernel_rfl) ?_ _
        go_wp2
        go_ret
        refine ⟨⟨_, rfl, ?_⟩, HC5.out⟩
        have h := own_le (B' := w.heap.size) F_g3.out HBw.out.size
        rw [show k + 1 + (n - k) = n + 1 by omega] at h
        rw [putS, HPS.out.1, HPS.out.2, List.flatMap_append, List.flatMap_append]
        rw [show k + 1 + (n - k) = n + 1 by omega]
        simpa using h
end Go.Proofs.Ytpkhdmhfkmajcaa

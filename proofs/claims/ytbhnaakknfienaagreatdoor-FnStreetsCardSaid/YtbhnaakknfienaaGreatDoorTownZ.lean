/- A town without a street. -/
import Derived.Test.YtbhnaakknfienaaGreatDoorTownY
namespace Go.Proofs.YtbhnaakknfienaaGreatDoor
open Go.RowKit
set_option linter.unusedVariables false

theorem own_some {w : World} {B n sz : Nat} {e : TypeId} {v : Value} {xs : List Value} (h : w.ownsRow B e sz v n xs) (hn : 0 < n) : ∃ g cap, v = .slice (some ⟨g, 0, none⟩) n cap ∧ B ≤ g ∧ g < w.heap.size ∧ n ≤ cap ∧ cap ≤ maxLen := by
  rcases h.2 with ⟨_, h0⟩ | ⟨g, cap, cur, rfl, hb, hg, h1, h2, _⟩
  · omega
  · exact ⟨g, cap, rfl, hb, (Array.getElem?_eq_some_iff.1 hg).1, h1, h2⟩
/-- A town as it is handed back: its number of nodes, and the streets in a row of the call's own. -/
def TownVal (W : World) (B : Nat) (nd : Int) (L : List (Int × Int × Int)) (v : Value) : Prop := W.ownsRow B 39 3 v L.length (L.flatMap tcells)

/-- A store into another block. -/
theorem ownsRow_far {w : World} {B g n cap sz : Nat} {e : TypeId} {xs : List Value} (h : w.ownsRow B e sz (.slice (some ⟨g, 0, none⟩) n cap) n xs) {q o : Nat} {u : Value} (hq : q ≠ g) : (w.setCell ⟨q, o, none⟩ u).ownsRow B e sz (.slice (some ⟨g, 0, none⟩) n cap) n xs :=
  h.kept (grown_set (g := q) u rfl) (.inr (fun e => hq (by injection e with e; exact e.symm)))

def WoPost (k : Nat) (l : List (Int × Int × Int)) (i : Nat) (w : World) (e : Ending) (w' : World) : Prop :=
  (∃ v, e = .returned (.agg #[.int .i64 (k : Int), v]) ∧ w'.ownsRow w.heap.size 39 3 v (cutL l i).length ((cutL l i).flatMap tcells)) ∧ Below w.heap.size w w'

set_option maxRecDepth 100000 in
set_option maxHeartbeats 4000000 in
theorem without_any (b0 k n c i : Nat) (A : Option Addr) (l : List (Int × Int × Int)) (w : World) (hn : n = l.length) (hm : n ≤ 40) (hi : i < n) (hr : Rd w A (l.flatMap tcells)) (hc0 : w.cell? ⟨b0, 0, none⟩ = some (.int .i64 (k : Int))) (hc1 : w.cell? ⟨b0, 1, none⟩ = some (.slice A n c)) :
    Calls Tryz.prog 38 #[.pointer (some ⟨b0, 0, none⟩), .int .i64 (i : Int)] w (WoPost k l i w) := by
  obtain ⟨b, off, rfl, hbs, -⟩ := hr.at_ (k := 0) (by rw [flat_length tcells 3 (fun _ => rfl)]; omega)
  have Hn := hide hn
  have Hr := hide hr
  have hz := World.block_lt_of_cell? w _ hc1
  dsimp only at hz
  have i6 : IntKind.i64.wrap ((i : Int) + 1) = (i : Int) + 1 := IntWalk.i64_in _ (by omega)
  clear hn hr
  go_enter Tryz.func38, Tryz.ntmps38
  go_wp2_with fail
  refine wpAnyS_start (fun w' => ∃ n : Later w, w' = n.w) (n := 15) (by kernel_rfl) rfl rfl ?_
  refine wpAnyS_take_all [0, 1, 2, 3, 4, 5, 6, 7, 9, 10, 11] 4 rfl (by kernel_rfl) (by intro c a d v w h; cases d <;> exact h) (by kernel_rfl) (by simp; rfl) rfl (later_of (below_alloc (Below.refl _ _) _).drew) ?_
  repeat (go_big_quiet_step (fail))
  refine wpQuiet_nil ?_
  have HR0 := hide ((cell_new2 w (.int .i64 0) (.slice none 0 0) 26))
  have HF0 := hide (Row.new w #[.int .i64 0, .slice none 0 0] 26)
  have HB0 : Hid (Below w.heap.size w (w.alloc (.cells #[.int .i64 0, .slice none 0 0] 26)).drew) := hide (below_alloc (Below.refl _ _) _).drew
  refine wpAnyS_only 8 (by kernel_rfl) (by simp; rfl) rfl rfl (fun K hK => ?_)
  go_wp2_with fail
  refine (clone_any b off n c l _ Hn.out (by omega) (Hr.out.below HB0.out)).mono ?_
  rintro e w1 ⟨⟨v, rfl, ho⟩, hb1⟩
  obtain ⟨g, cap, rfl, hg1, hg2, hnc, hcm⟩ := own_some ho (by omega)
  have HO := hide ho
  have HB1 : Hid (Below w.heap.size w w1) := hide (below_step HB0.out hb1)
  have HF1 := hide (HF0.out.below (below_step (Below.refl _ _).drew hb1))
  have hg3 : w.heap.size < g := by simp at hg1; omega
  clear ho hb1 hg1
  go_wp2_with fail
  refine ⟨later_of HB1.out, ?_⟩
  refine wpAnyS_only 12 (by kernel_rfl) (by simp; rfl) rfl rfl (fun K hK => ?_)
  go_wp2_with fail
  refine (del_any _ g n cap i l _ Hn.out (by omega) hi hcm hnc HO.out).mono ?_
  rintro e w2 ⟨rfl, ho2, hgr⟩
  have HO2 := hide ho2
  have HB2 : Hid (Below w.heap.size w w2) := hide (HB1.out.grown hgr HB1.out.size (fun k hk => by injection hk with hk; omega))
  have HF2 := hide (HF1.out.grown hgr (fun e => by injection e with e; omega))
  clear ho2 hgr
  go_wp2_with fail
  refine ⟨later_of HB2.out, ?_⟩
  refine wpAnyS_only 13 (by kernel_rfl) (by simp; rfl) rfl rfl (fun K hK => ?_)
  go_wp2_with fail
  refine ⟨later_of HB2.out, ?_⟩
  have r0 := HF2.out.at 0 rfl
  have r1 := HF2.out.at 1 rfl
  have f0 := HF2.out.free 0
  have f1 := HF2.out.free 1
  refine wpAnyS_only 14 (by kernel_rfl) (by simp; rfl) rfl rfl (fun K hK => ?_)
  go_wp2_with fail
  refine ⟨later_of ((HB2.out.setCell (Nat.le_refl _) _).setCell (Nat.le_refl _) _), ?_⟩
  refine wpAnyH_done (by kernel_rfl) ?_ _
  go_wp2
  have hcl : (cutL l i).length = n - 1 := by rw [cutL_length (by have := Hn.out; omega), ← Hn.out]
  refine bodyPost_ret (v := .agg #[.int .i64 (k : Int), .slice (some ⟨g, 0, none⟩) (n - 1) cap]) (by simp [results, Tryz.results38, go_sem, *]) rfl ⟨⟨_, rfl, ?_⟩, (HB2.out.setCell (Nat.le_refl _) _).setCell (Nat.le_refl _) _⟩
  rw [hcl]
  have HO3 := own_le (B' := w.heap.size) HO2.out (by simp)
  exact ownsRow_far (ownsRow_far HO3 (by omega)) (by omega)

theorem own_far_any {w : World} {B n sz : Nat} {e : TypeId} {v : Value} {xs : List Value} (h : w.ownsRow B e sz v n xs) {q o : Nat} {u : Value} (hq : q < B) : (w.setCell ⟨q, o, none⟩ u).ownsRow B e sz v n xs := ownsRow_setCell_below h (a := ⟨q, o, none⟩) hq u

set_option maxRecDepth 100000 in
set_option maxHeartbeats 4000000 in
theorem toWithout_any (k n c i : Nat) (A : Option Addr) (l : List (Int × Int × Int)) (w : World) (hn : n = l.length) (hm : n ≤ 40) (hnc : n ≤ c) (hc : c ≤ maxLen) (hi : i < n) (hr : Rd w A (l.flatMap tcells)) :
    Calls Tryz.prog 41 #[.agg #[.int .i64 (k : Int), .slice A n c], .int .i64 (i : Int)] w (WoPost k l i w) := by
  obtain ⟨b, off, rfl, hbs, -⟩ := hr.at_ (k := 0) (by rw [flat_length tcells 3 (fun _ => rfl)]; omega)
  unfold maxLen at hc
  obtain ⟨i0, hi0, hz0, hz1, hz2⟩ := info_parts infoStreet
  have Hi := hide hi0
  have Hz := hide (And.intro hz0 (And.intro hz1 hz2))
  have Hn := hide hn
  have Hr := hide hr
  have i1 : (0 : Int) ≤ (i : Int) := by omega
  have i2 : (i : Int) < (n : Int) := by omega
  have i3 : (i : Int) + 1 ≤ (n : Int) := by omega
  have i6 : IntKind.i64.wrap ((i : Int) + 1) = (i : Int) + 1 := IntWalk.i64_in _ (by omega)
  have i7 : ((i : Int) + 1).toNat = i + 1 := by omega
  have i8 : (0 : Int) ≤ (i : Int) + 1 := by omega
  clear hn hr hi0 hz0 hz1 hz2
  have HX := hide (Row.new w #[.int .i64 (k : Int), .slice (some ⟨b, off, none⟩) n c] 26)
  obtain ⟨a0, a1⟩ := cell_new2 w (.int .i64 (k : Int)) (.slice (some ⟨b, off, none⟩) n c) 26
  go_enter Tryz.func41, Tryz.ntmps41
  go_wp2_with fail
  clear a0 a1
  generalize hW : w.alloc (.cells #[.int .i64 (k : Int), .slice (some ⟨b, off, none⟩) n c] 26) = W at *
  have hsz : W.heap.size = w.heap.size + 1 := by rw [← hW]; simp
  have HWb : Hid (Below w.heap.size w W) := hide (by rw [← hW]; exact below_alloc (Below.refl _ _) _)
  have HSZ := hide hsz
  clear hW hsz
  have a0 := HX.out.at 0 rfl
  have a1 := HX.out.at 1 rfl
  have z0 := HX.out.1
  have HF0 := hide (Row.new W #[.int .i64 0, .slice none 0 0] 26)
  refine wpAnyS_start (fun w' => ∃ n : Later W, w' = n.w) (n := 16) (by kernel_rfl) rfl rfl ?_
  refine wpAnyS_take_all [0, 1, 3, 4, 5, 6, 8, 9, 10, 11, 12] 5 rfl (by kernel_rfl) (by intro c a d v w h; cases d <;> exact h) (by kernel_rfl) (by simp; rfl) rfl (later_of (below_alloc (Below.refl _ _) _).drew) ?_
  repeat (go_big_quiet_step (fail))
  refine wpQuiet_nil ?_
  clear a0 a1 z0
  obtain ⟨ad, had, hadd⟩ : ∃ ad, (if c = i + 1 then some (⟨b, off, none⟩ : Addr) else some ⟨b, off + (i + 1) * 3, none⟩) = some ad ∧ ∀ j u, ((l.drop (i + 1)).flatMap tcells)[j]? = some u → w.cell? (ad.add j) = some u := by
    have hh := Hr.out.part ((i + 1) * 3) ((l.flatMap tcells).length)
    rw [flat_drop tcells 3 (fun _ => rfl), List.take_of_length_le (by rw [flat_length tcells 3 (fun _ => rfl), flat_length tcells 3 (fun _ => rfl), List.length_drop]; omega)] at hh
    by_cases hc : c = i + 1
    · refine ⟨_, if_pos hc, fun j u hu => ?_⟩
      have : l.drop (i + 1) = [] := List.drop_eq_nil_of_le (by have := Hn.out; omega)
      rw [this] at hu
      simp at hu
    · exact ⟨_, if_neg hc, hh.add⟩
  rw [had]
  have hrd2 : Rd w (some ad) ((l.drop (i + 1)).flatMap tcells) := by
    by_cases h0 : (l.drop (i + 1)).flatMap tcells = []
    · exact .inl h0
    · obtain ⟨b2, off2, spot⟩ := ad
      have hp := hadd 0 _ (List.getElem?_eq_getElem (List.length_pos_iff.2 h0))
      have hspot : spot = none := by simpa [Addr.add] using World.cell?_spot hp
      subst hspot
      exact .inr ⟨b2, off2, rfl, fun j u hu => by have := hadd j u hu; rwa [Addr.add_lit] at this⟩
  have HA := hide hrd2
  clear had hadd hrd2
  have HB0 : Hid (Below W.heap.size W (W.alloc (.cells #[.int .i64 0, .slice none 0 0] 26)).drew) := hide (below_alloc (Below.refl _ _) _).drew
  generalize hW1 : (W.alloc (.cells #[.int .i64 0, .slice none 0 0] 26)).drew = w1 at *
  have HF1 : Hid (Row w1 W.heap.size [.int .i64 0, .slice none 0 0]) := hide (by rw [← hW1]; exact HF0.out.drew)
  clear hW1
  have HO0 : Hid ((w1.alloc (.cells #[] 39)).ownsRow w1.heap.size 39 3 (.slice (some ⟨w1.heap.size, 0, none⟩) 0 0) 0 []) := hide (World.ownsRow_made w1 #[] 0 (Nat.le_refl _) (Nat.zero_le _) rfl)
  refine wpAnyS_only 2 (by kernel_rfl) (by simp; rfl) rfl rfl (fun K hK => ?_)
  go_wp2_with fail
  refine ⟨later_of (below_alloc HB0.out _), ?_⟩
  have HB1 : Hid (Below W.heap.size W (w1.alloc (.cells #[] 39))) := hide (below_alloc HB0.out _)
  have hs1 : w1.heap.size ≤ (w1.alloc (.cells #[] 39)).heap.size := by simp
  have HF2 := hide (HF1.out.alloc (.cells #[] 39))
  have hw1 : W.heap.size < w1.heap.size := HF1.out.1
  generalize hw2 : w1.alloc (.cells #[] 39) = w2 at *
  clear hw2 HF1
  refine wpAnyS_only 7 (by kernel_rfl) (by simp; rfl) rfl rfl (fun K hK => ?_)
  refine wp_append_own w2 (.tmp 7) (.tmp 11) 24 rfl w1.heap.size 39 i0 (.agg #[.int .i64 0, .int .i64 0, .int .i64 0]) 3 24 Tryz.underlying24 Hi.out Hz.out.1 Hz.out.2.1 Hz.out.2.2 rfl (by decide) (.slice (some ⟨w1.heap.size, 0, none⟩) 0 0) 0 [] rfl HO0.out ⟨b, off, none⟩ i c ((l.take i).flatMap tcells) rfl ?_ ?_ (tcells_one _) (by unfold maxLen; omega) (by omega) hs1 ?_
  · rw [flat_length tcells 3 (fun _ => rfl), List.length_take]; have := Hn.out; omega
  · have hh := (Hr.out.below (HWb.out.trans (HB1.out.mono (by have := HSZ.out; omega)))).part 0 (i * 3)
    rw [List.drop_zero, flat_take tcells 3 (fun _ => rfl)] at hh
    exact hh.add
  intro v1 w3 ho3 hg3 _
  have HO3 := hide ho3
  have HB3 : Hid (Below W.heap.size W w3) := hide (HB1.out.grown hg3 HB1.out.size (fun q hq => by simp [Value.ownBlock] at hq; omega))
  have HF3 := hide (HF2.out.grown hg3 (fun e => by simp [Value.ownBlock] at e; omega))
  have hs3 : w1.heap.size ≤ w3.heap.size := Nat.le_trans hs1 hg3.size
  clear ho3 hg3
  refine hK _ _ ⟨later_of HB3.out, ?_⟩
  refine wpAnyS_only 13 (by kernel_rfl) (by simp; rfl) rfl rfl (fun K hK => ?_)
  refine wp_append_own w3 (.tmp 12) (.tmp 17) 24 rfl w1.heap.size 39 i0 (.agg #[.int .i64 0, .int .i64 0, .int .i64 0]) 3 24 Tryz.underlying24 Hi.out Hz.out.1 Hz.out.2.1 Hz.out.2.2 rfl (by decide) v1 (0 + i) _ rfl HO3.out ad (n - (i + 1)) (c - (i + 1)) ((l.drop (i + 1)).flatMap tcells) rfl ?_ ?_ (tcells_one _) (by unfold maxLen; omega) (by omega) hs3 ?_
  · rw [flat_length tcells 3 (fun _ => rfl), List.length_drop]; have := Hn.out; omega
  · have hh := HA.out.below (HWb.out.trans (HB3.out.mono (by have := HSZ.out; omega)))
    obtain ⟨b2, off2, spot⟩ := ad
    rcases hh with h | ⟨b2', off2', hA, hcc⟩
    · intro j u hu; rw [h] at hu; simp at hu
    · injection hA with hA; injection hA with h1 h2 h3; subst h1; subst h2; subst h3; exact fun j u hu => by rw [Addr.add_lit]; exact hcc j u hu
  intro v2 w4 ho4 hg4 _
  have hlt3 := fun q hq => HO3.out.lt q hq
  have HB4 : Hid (Below W.heap.size W w4) := hide (HB3.out.grown hg4 HB3.out.size (fun q hq => by have := (hlt3 q hq).1; omega))
  have HF4 := hide (HF3.out.grown hg4 (fun e => by have := (hlt3 _ e.symm).1; omega))
  have HO4 : Hid (w4.ownsRow w1.heap.size 39 3 v2 (cutL l i).length ((cutL l i).flatMap tcells)) := hide (by
    rw [show (cutL l i).length = 0 + i + (n - (i + 1)) by rw [cutL_length (by have := Hn.out; omega)]; have := Hn.out; omega]
    simpa [cutL, List.flatMap_append] using ho4)
  clear ho4 hg4 hlt3
  refine hK _ _ ⟨later_of HB4.out, ?_⟩
  obtain ⟨A2, k2, rfl, -⟩ := own_open HO4.out
  refine wpAnyS_only 14 (by kernel_rfl) (by simp; rfl) rfl rfl (fun K hK => ?_)
  go_wp2_with fail
  refine ⟨later_of HB4.out, ?_⟩
  have hsz := HSZ.out
  have HF5 : Hid (Row w4 (w.heap.size + 1) [.int .i64 0, .slice none 0 0]) := hide (by rw [← hsz]; exact HF4.out)
  clear hsz
  have r0 := HF5.out.at 0 rfl
  have r1 := HF5.out.at 1 rfl
  have f0 := HF5.out.free 0
  have f1 := HF5.out.free 1
  refine wpAnyS_only 15 (by kernel_rfl) (by simp; rfl) rfl rfl (fun K hK => ?_)
  go_wp2_with fail
  refine ⟨later_of ((HB4.out.setCell (by have := HSZ.out; simp; omega) _).setCell (by have := HSZ.out; simp; omega) _), ?_⟩
  refine wpAnyH_done (by kernel_rfl) ?_ _
  go_wp2
  have HBW : Below w.heap.size w w4 := HWb.out.trans (HB4.out.mono (by have := HSZ.out; omega))
  refine bodyPost_ret (v := .agg #[.int .i64 (k : Int), .slice A2 (cutL l i).length k2]) (by simp [results, Tryz.results41, go_sem, *]) rfl ⟨⟨_, rfl, ?_⟩, (HBW.setCell (by simp) _).setCell (by simp) _⟩
  exact own_le (own_far_any (own_far_any HO4.out (by have := HSZ.out; omega)) (by have := HSZ.out; omega)) (by have := HSZ.out; omega)
end Go.Proofs.YtbhnaakknfienaaGreatDoor

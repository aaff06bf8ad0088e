/- Rows of structs: cloned, and one taken out. -/
import Derived.Test.YtbhnaakknfienaaGreatDoorTownX
import Derived.Test.YtbhnaakknfienaaGreatDoorRegionsS
import Derived.IntWalk
namespace Go.Proofs.YtbhnaakknfienaaGreatDoor
open Go.RowKit
set_option linter.unusedVariables false

theorem flat_take {α : Type} (f : α → List Value) (m : Nat) (hf : ∀ a, (f a).length = m) (l : List α) (k : Nat) : (l.flatMap f).take (k * m) = (l.take k).flatMap f := by
  induction l generalizing k with
  | nil => simp
  | cons a l ih =>
    cases k with
    | zero => simp
    | succ k =>
      rw [List.flatMap_cons, List.take_succ_cons, List.flatMap_cons, List.take_append, List.take_of_length_le (by rw [hf, Nat.add_mul]; omega), hf, show (k + 1) * m - m = k * m by rw [Nat.add_mul]; omega, ih]
theorem flat_drop {α : Type} (f : α → List Value) (m : Nat) (hf : ∀ a, (f a).length = m) (l : List α) (k : Nat) : (l.flatMap f).drop (k * m) = (l.drop k).flatMap f := by
  induction l generalizing k with
  | nil => simp
  | cons a l ih =>
    cases k with
    | zero => simp
    | succ k =>
      rw [List.flatMap_cons, List.drop_succ_cons, List.drop_append, List.drop_of_length_le (by rw [hf, Nat.add_mul]; omega), hf, show (k + 1) * m - m = k * m by rw [Nat.add_mul]; omega, ih, List.nil_append]
theorem own_prefix {w : World} {B g n cap sz k : Nat} {e : TypeId} {xs : List Value} (h : w.ownsRow B e sz (.slice (some ⟨g, 0, none⟩) n cap) n xs) (hk : k ≤ n) : w.ownsRow B e sz (.slice (some ⟨g, 0, none⟩) k cap) k (xs.take (k * sz)) := by
  have hl : k * sz ≤ n * sz := Nat.mul_le_mul_right _ hk
  rcases h.2 with ⟨h', _⟩ | ⟨g', cap', cur, h', hb, hg, hnc, hcm, hcs, ht⟩
  · simp at h'
  · simp only [Value.slice.injEq, Option.some.injEq, Addr.mk.injEq, and_true, true_and] at h'
    obtain ⟨rfl, rfl⟩ := h'
    refine ⟨by rw [List.length_take, h.1]; omega, .inr ⟨g, cap, cur, rfl, hb, hg, by omega, hcm, hcs, ?_⟩⟩
    rw [← ht, List.take_take, Nat.min_eq_left hl]
def cutL {α : Type} (l : List α) (i : Nat) : List α := l.take i ++ l.drop (i + 1)
theorem cutL_length {α : Type} {l : List α} {i : Nat} (h : i < l.length) : (cutL l i).length = l.length - 1 := by simp [cutL]; omega
theorem tcells_one (l : List (Int × Int × Int)) : ∀ u ∈ l.flatMap tcells, u.oneCell' = true := by
  intro u hu
  obtain ⟨t, _, ht⟩ := List.mem_flatMap.1 hu
  simp [tcells] at ht
  rcases ht with rfl | rfl | rfl <;> rfl
theorem Rd.add {w : World} {b off : Nat} {xs : List Value} (h : Rd w (some ⟨b, off, none⟩) xs) : ∀ j u, xs[j]? = some u → w.cell? ((⟨b, off, none⟩ : Addr).add j) = some u := by
  intro j u hu
  rw [Addr.add_lit]
  rcases h with h | ⟨b', off', hA, hc⟩
  · subst h; simp at hu
  · cases hA
    exact hc j u hu
theorem Rd.part {w : World} {b off : Nat} {xs : List Value} (h : Rd w (some ⟨b, off, none⟩) xs) (k m : Nat) : Rd w (some ⟨b, off + k, none⟩) ((xs.drop k).take m) := by
  refine .inr ⟨b, off + k, rfl, fun j u hu => ?_⟩
  rw [List.getElem?_take] at hu
  split at hu
  · rw [List.getElem?_drop] at hu
    have := h.add (k + j) u hu
    rw [Addr.add_lit] at this
    rwa [Nat.add_assoc]
  · cases hu

set_option maxRecDepth 100000 in
set_option maxHeartbeats 2000000 in
theorem clone_any (b off n c : Nat) (l : List (Int × Int × Int)) (w : World) (hn : n = l.length) (hm : n ≤ 1048576) (hr : Rd w (some ⟨b, off, none⟩) (l.flatMap tcells)) :
    Calls Tryz.prog 49 #[.slice (some ⟨b, off, none⟩) n c] w fun e w' => (∃ v, e = .returned v ∧ w'.ownsRow w.heap.size 39 3 v n (l.flatMap tcells)) ∧ Below w.heap.size w w' := by
  obtain ⟨i0, hi, hz0, hz1, hz2⟩ := info_parts infoStreet
  have hO1 : (w.alloc (.cells #[] 39)).ownsRow w.heap.size 39 3 (.slice (some ⟨w.heap.size, 0, none⟩) 0 0) 0 [] := World.ownsRow_made w #[] 0 (Nat.le_refl _) (Nat.zero_le _) rfl
  have HO1 := hide hO1
  have Hn := hide hn
  have Hr := hide (hr.alloc (.cells #[] 39)).add
  have Hi := hide hi
  have Hz := hide (And.intro hz0 (And.intro hz1 hz2))
  have hnil : ∀ W, (binOp .eql 24 (.slice (some ⟨b, off, none⟩) n c) (.slice none 0 0)).run Tryz.prog W = .ok (.bool false) W := fun W => Lib.run_eql_slice_nil W _ _ (some ⟨b, off, none⟩) n c 0 0 Tryz.underlying24
  clear hO1 hn hr hi hz0 hz1 hz2
  go_enter Tryz.func49, Tryz.ntmps49
  go_wp2_with (at_builtin; refine wpList_append_own _ rfl (.tmp 5) (.tmp 6) 24 rfl w.heap.size 39 i0 _ 3 24 Tryz.underlying24 Hi.out Hz.out.1 Hz.out.2.1 Hz.out.2.2 rfl (by decide) (.slice (some ⟨w.heap.size, 0, none⟩) 0 0) 0 [] rfl HO1.out ⟨b, off, none⟩ n c (l.flatMap tcells) rfl ?c1 Hr.out (tcells_one l) ?c2 ?c3 ?c4 ?_)
  case c1 => rw [flat_length tcells 3 (fun _ => rfl)]; have := Hn.out; omega
  case c2 => unfold maxLen; omega
  case c3 => omega
  case c4 => simp
  intro v' w1 hown hgrow _
  have HOW := hide hown
  have HG : Hid (Below w.heap.size w w1) := hide ((below_alloc (Below.refl _ _) _).grown hgrow (by simp) (fun k hk => by simp [Value.ownBlock] at hk; omega))
  clear hown hgrow
  go_wp2
  go_ret
  exact ⟨⟨_, rfl, HOW.out⟩, HG.out⟩

theorem zero3 : (Builtin.zeroCells (Value.agg #[.int .i64 0, .int .i64 0, .int .i64 0]).cells 1).toList = [.int .i64 0, .int .i64 0, .int .i64 0] := by simp [Builtin.zeroCells, Value.cells]; rfl

set_option maxRecDepth 100000 in
set_option maxHeartbeats 4000000 in
theorem del_any (B g n cap i : Nat) (l : List (Int × Int × Int)) (w : World) (hn : n = l.length) (hm : n ≤ 1048576) (hi : i < n) (hcap : cap ≤ maxLen) (hnc : n ≤ cap) (ho : w.ownsRow B 39 3 (.slice (some ⟨g, 0, none⟩) n cap) n (l.flatMap tcells)) :
    Calls Tryz.prog 77 #[.slice (some ⟨g, 0, none⟩) n cap, .int .i64 (i : Int), .int .i64 ((i : Int) + 1)] w fun e w' => e = .returned (.slice (some ⟨g, 0, none⟩) (n - 1) cap) ∧ w'.ownsRow B 39 3 (.slice (some ⟨g, 0, none⟩) (n - 1) cap) (n - 1) ((cutL l i).flatMap tcells) ∧ w.grownBy w' (some g) := by
  obtain ⟨i0, hi0, hz0, hz1, hz2⟩ := info_parts infoStreet
  unfold maxLen at hcap
  have HO := hide ho
  have Hn := hide hn
  have Hi := hide hi0
  have Hz := hide hz1
  have i1 : (0 : Int) ≤ (i : Int) := by omega
  have i2 : (i : Int) < (n : Int) := by omega
  have i3 : (i : Int) + 1 ≤ (n : Int) := by omega
  have i4 : ¬ (i : Int) = (i : Int) + 1 := by omega
  have i5 : ((i : Int) == (i : Int) + 1) = false := by simp; omega
  have i6 : IntKind.i64.wrap ((i : Int) + 1) = (i : Int) + 1 := IntWalk.i64_in _ (by omega)
  have i7 : ((i : Int) + 1).toNat = i + 1 := by omega
  have i8 : (0 : Int) ≤ (i : Int) + 1 := by omega
  clear hn ho hi0 hz0 hz1 hz2
  go_enter Tryz.func77, Tryz.ntmps77
  go_wp2_with fail
  refine wpAnyS_start (fun _ => True) (n := 8) (by kernel_rfl) rfl rfl ?_
  refine wpAnyS_take_all [0, 1, 2, 3, 4, 5] 2 rfl (by kernel_rfl) (by intro c a d v w h; cases d <;> exact h) (by kernel_rfl) (by simp; rfl) rfl trivial ?_
  repeat (go_big_quiet_step (fail))
  refine wpQuiet_nil ?_
  obtain ⟨ad, had, hadd⟩ : ∃ ad, (if cap = i + 1 then some (⟨g, 0, none⟩ : Addr) else some ⟨g, (i + 1) * 3, none⟩) = some ad ∧ ∀ j u, ((l.drop (i + 1)).flatMap tcells)[j]? = some u → w.drew.cell? (ad.add j) = some u := by
    have hh := (own_rd HO.out).part ((i + 1) * 3) ((l.flatMap tcells).length)
    rw [flat_drop tcells 3 (fun _ => rfl), List.take_of_length_le (by rw [flat_length tcells 3 (fun _ => rfl), flat_length tcells 3 (fun _ => rfl), List.length_drop]; omega)] at hh
    by_cases hc : cap = i + 1
    · refine ⟨_, if_pos hc, fun j u hu => ?_⟩
      have : l.drop (i + 1) = [] := List.drop_eq_nil_of_le (by have := Hn.out; omega)
      rw [this] at hu
      simp at hu
    · refine ⟨_, if_neg hc, ?_⟩
      rw [Nat.zero_add] at hh
      exact hh.add
  rw [had]
  have HA := hide hadd
  clear had hadd
  refine wpAnyS_only 6 (by kernel_rfl) (by simp; rfl) rfl rfl (fun K hK => ?_)
  refine wp_append_fits (.tmp 22) (.tmp 25) 24 rfl B 39 i0 3 Tryz.underlying24 Hi.out Hz.out g i cap ((l.take i).flatMap tcells) rfl ?_ ad (n - (i + 1)) (cap - (i + 1)) ((l.drop (i + 1)).flatMap tcells) rfl ?_ HA.out (tcells_one _) (by omega) ?_
  · have := own_prefix HO.out (show i ≤ n by omega)
    rw [flat_take tcells 3 (fun _ => rfl)] at this
    exact this
  · rw [flat_length tcells 3 (fun _ => rfl), List.length_drop]; have := Hn.out; omega
  intro w1 ho1 hg1
  rw [show i + (n - (i + 1)) = n - 1 by omega]
  rw [show i + (n - (i + 1)) = n - 1 by omega, ← List.flatMap_append] at ho1
  have HO1 : Hid (w1.ownsRow B 39 3 (.slice (some ⟨g, 0, none⟩) (n - 1) cap) (n - 1) ((cutL l i).flatMap tcells)) := hide ho1
  have HG1 : Hid (w.grownBy w1 (some g)) := hide (grown_trans (grown_of_below (Below.refl _ _).drew _) hg1)
  clear ho1 hg1
  refine hK _ _ ⟨trivial, ?_⟩
  refine wpAnyS_only 7 (by kernel_rfl) (by simp; rfl) rfl rfl (fun K hK => ?_)
  go_wp2_with fail
  refine ⟨trivial, ?_⟩
  refine wpAnyH_done (by kernel_rfl) ?_ _
  have hgone : ∃ cur : Array Value, w1.heap[g]? = some (.cells cur 39 (0, 0)) ∧ cur.size = cap * 3 := by
    rcases HO1.out.2 with ⟨h', _⟩ | ⟨g', cap', cur, h', _, hg, _, _, hcs, _⟩
    · simp at h'
    · simp only [Value.slice.injEq, Option.some.injEq, Addr.mk.injEq, and_true, true_and] at h'
      obtain ⟨rfl, rfl⟩ := h'
      exact ⟨cur, hg, hcs⟩
  obtain ⟨cur, hcur, hcs⟩ := hgone
  have hcl : ∀ c, (Builtin.clear_ #[24] 0 #[.slice (some ⟨g, (n - 1) * 3, none⟩) 1 c]).run Tryz.prog w1 = .ok (.tuple #[]) (w1.setCells g ((n - 1) * 3) [.int .i64 0, .int .i64 0, .int .i64 0]) := fun c =>
    run_clear_rows w1 _ 39 0 (.agg #[.int .i64 0, .int .i64 0, .int .i64 0]) _ Tryz.underlying24 (fun _ => by kernel_rfl) 1 zero3 (by simp [Value.oneCell']) g _ c (by omega)
      (fun j hj => by
        simp at hj
        rw [cell_of_row w1 g _ cur _ (0, 0) hcur]
        have : (n - 1) * 3 + j < cur.size := by rw [hcs]; have : (n - 1) * 3 + 3 ≤ cap * 3 := by omega
                                                omega
        simp [this])
      (fun j hj => World.ownsRow.frozenAt HO1.out _)
  clear hcur hcs
  have j1 : (0 : Int) ≤ ((n - 1 : Nat) : Int) := by omega
  have j2 : ((n - 1 : Nat) : Int) ≤ (n : Int) := by omega
  have j3 : n - (n - 1) = 1 := by omega
  have HF : Hid (∀ (j : Nat) (u : Value), (n - 1) * 3 ≤ j → ∀ W : World, W.ownsRow B 39 3 (.slice (some ⟨g, 0, none⟩) (n - 1) cap) (n - 1) ((cutL l i).flatMap tcells) → (W.setCell ⟨g, j, none⟩ u).ownsRow B 39 3 (.slice (some ⟨g, 0, none⟩) (n - 1) cap) (n - 1) ((cutL l i).flatMap tcells)) := hide (fun j u hj W hW => by
    have := (World.ownsRow.stored hW j u).1
    rwa [List.set_eq_of_length_le (by rw [hW.1]; omega)] at this)
  go_wp2
  go_ret
  exact ⟨rfl, HF.out _ _ (by omega) _ (HF.out _ _ (by omega) _ (HF.out _ _ (by omega) _ HO1.out)), grown_trans HG1.out (grown_trans (grown_trans (grown_set _ rfl) (grown_set _ rfl)) (grown_set _ rfl))⟩
end Go.Proofs.YtbhnaakknfienaaGreatDoor

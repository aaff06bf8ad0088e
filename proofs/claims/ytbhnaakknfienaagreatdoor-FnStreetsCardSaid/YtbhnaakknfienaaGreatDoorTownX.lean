/- The place of a street: the program's and the reference's search. -/
import Derived.Test.YtbhnaakknfienaaGreatDoorTownV
namespace Go.Proofs.YtbhnaakknfienaaGreatDoor
open Go.RowKit
set_option linter.unusedVariables false

set_option maxRecDepth 100000 in
set_option maxHeartbeats 4000000 in
theorem toFind_any (nd : Int) (A : Option Addr) (n c : Nat) (l : List (Int × Int × Int)) (p q : Int) (w : World) (hn : n = l.length) (hm : n ≤ 1048576) (hr : Rd w A (l.flatMap tcells)) :
    Calls Tryz.prog 40 #[.agg #[.int .i64 nd, .slice A n c], .int .i64 p, .int .i64 q] w fun e w' => e = .returned (.int .i64 (stFind l p q)) ∧ Below w.heap.size w w' := by
  have Hn := hide hn
  have Hr := hide hr
  clear hn hr
  go_enter Tryz.func40, Tryz.ntmps40
  go_wp2_with fail
  go_loopw [12] (fun t wr => ∃ k : Nat, k ≤ n ∧ t = .int .i64 k ∧ Hid (∀ (i : Nat) (x : Int × Int × Int), i < k → l[i]? = some x → isSt p q x = false) ∧ Below w.heap.size w wr) (fun t _ => n - (intOf t).toNat)
  case atStart => exact ⟨0, by omega, rfl, hide (fun i x hi => absurd hi (by omega)), (by repeat (first | exact Below.refl _ _ | refine below_step ?_ (by assumption) | refine below_step ?_ (Later.below _) | refine below_alloc ?_ _ | refine Below.drew ?_ | refine Below.setCell ?_ (by first | (simp; done) | (simp; omega)) _))⟩
  case round =>
    obtain ⟨k, hk, rfl, HA, hb⟩ := hrel
    by_cases hlt : k < n
    · obtain ⟨⟨x0, x1, x2⟩, hh⟩ : ∃ h, l[k]? = some h := ⟨_, List.getElem?_eq_getElem (by rw [← Hn.out]; exact hlt)⟩
      obtain ⟨b, off, rfl, hbs, c0, c1, c2⟩ := (Hr.out.below hb).get3 (fun _ => rfl) hh rfl
      have Hh := hide hh
      clear hh
      dsimp only at c0 c1 c2
      have HK : isSt p q (x0, x1, x2) = false → Hid (∀ (i : Nat) (x : Int × Int × Int), i < k + 1 → l[i]? = some x → isSt p q x = false) := fun hp => hide (fun i x hi hx => by
        by_cases hi2 : i < k
        · exact HA.out i x hi2 hx
        · have hik : i = k := by omega
          rw [hik, Hh.out] at hx
          cases hx
          exact hp)
      have HKK := hide HK
      clear HK
      cases hE : (x0 == min p q) with
      | false =>
        have HN := HKK.out (by simp [isSt]; intro h; simp [h] at hE)
        clear HKK
        go_wp2_with fail
        refine wp_region_later (by kernel_rfl) (by kernel_rfl) ?_
        repeat (go_big_quiet_step (first | (go_at_call 52; with_reducible exact calls_later_same (l1Least_any _ _ _)) | (go_at_call 53; with_reducible exact calls_later_same (l1Most_any _ _ _))))
        refine wpQuiet_nil ?_
        refine later_intro fun w1 hb1 => ?_
        go_wp2
        go_roundw
        case rel => exact ⟨k + 1, by omega, by go_num, HN, below_step (below_alloc hb _) hb1⟩
        case measure => simp [intOf]; omega
      | true =>
        cases hF : (x1 == max p q) with
        | false =>
          have HN := HKK.out (by simp [isSt]; intro _ h; simp [h] at hF)
          clear HKK
          go_wp2_with fail
          refine wp_region_later (by kernel_rfl) (by kernel_rfl) ?_
          repeat (go_big_quiet_step (first | (go_at_call 52; with_reducible exact calls_later_same (l1Least_any _ _ _)) | (go_at_call 53; with_reducible exact calls_later_same (l1Most_any _ _ _))))
          refine wpQuiet_nil ?_
          refine later_intro fun w1 hb1 => ?_
          go_wp2
          go_roundw
          case rel => exact ⟨k + 1, by omega, by go_num, HN, below_step (below_alloc hb _) hb1⟩
          case measure => simp [intOf]; omega
        | true =>
          have HF : Hid (stFind l p q = (k : Nat)) := hide (findI_at Hh.out (by simp [isSt]; exact ⟨by simpa using hE, by simpa using hF⟩) (fun i b hi hb => HA.out i b hi hb))
          clear HKK
          go_wp2_with fail
          refine wp_region_later (by kernel_rfl) (by kernel_rfl) ?_
          repeat (go_big_quiet_step (first | (go_at_call 52; with_reducible exact calls_later_same (l1Least_any _ _ _)) | (go_at_call 53; with_reducible exact calls_later_same (l1Most_any _ _ _))))
          refine wpQuiet_nil ?_
          refine later_intro fun w1 hb1 => ?_
          go_wp2
          go_ret
          exact ⟨ret_int HF.out.symm, below_step (below_alloc hb _) hb1⟩
    · go_wp2
      go_ret
      exact ⟨ret_int (findI_none (fun i x hx => HA.out i x (by have := (List.getElem?_eq_some_iff.1 hx).1; have := Hn.out; omega) hx)).symm, hb⟩

set_option maxHeartbeats 1000000 in
theorem streetFn_any (x0 x1 x2 p q : Int) (B1 B2 : Nat) (w : World) (h1 : B1 < w.heap.size) (h2 : B2 < w.heap.size) (hc1 : w.cell? ⟨B1, 0, none⟩ = some (.int .i64 p)) (hc2 : w.cell? ⟨B2, 0, none⟩ = some (.int .i64 q)) :
    Calls Tryz.prog 76 #[.agg #[.int .i64 x0, .int .i64 x1, .int .i64 x2], .pointer (some ⟨B1, 0, none⟩), .pointer (some ⟨B2, 0, none⟩)] w fun e w' => e = .returned (.bool (isSt p q (x0, x1, x2))) ∧ Below w.heap.size w w' := by
  go_enter Tryz.func76, Tryz.ntmps76
  go_wp2
  all_goals
    go_ret
    exact ⟨ret_bool (by simp only [isSt]; rw [Bool.eq_iff_iff]; simp <;> omega), (by repeat (first | exact Below.refl _ _ | refine below_step ?_ (by assumption) | refine below_step ?_ (Later.below _) | refine below_alloc ?_ _ | refine Below.drew ?_ | refine Below.setCell ?_ (by first | (simp; done) | (simp; omega)) _))⟩

set_option maxHeartbeats 2000000 in
theorem idxStreet_any (A : Option Addr) (n c : Nat) (l : List (Int × Int × Int)) (p q : Int) (B1 B2 : Nat) (w : World) (hn : n = l.length) (hm : n ≤ 1048576) (hr : Rd w A (l.flatMap tcells)) (h1 : B1 < w.heap.size) (h2 : B2 < w.heap.size) (hc1 : w.cell? ⟨B1, 0, none⟩ = some (.int .i64 p)) (hc2 : w.cell? ⟨B2, 0, none⟩ = some (.int .i64 q)) :
    Calls Tryz.prog 75 #[.slice A n c, .func (.func 76) #[] #[.pointer (some ⟨B1, 0, none⟩), .pointer (some ⟨B2, 0, none⟩)]] w fun e w' => e = .returned (.int .i64 (stFind l p q)) ∧ Below w.heap.size w w' := by
  have Hn := hide hn
  have Hr := hide hr
  have HC := hide (And.intro hc1 hc2)
  have H1 := hide (And.intro h1 h2)
  clear hn hr hc1 hc2 h1 h2
  go_enter Tryz.func75, Tryz.ntmps75
  go_wp2_with fail
  go_loopw [8] (fun t wr => ∃ k : Nat, k ≤ n ∧ t = .int .i64 k ∧ Hid (∀ (i : Nat) (x : Int × Int × Int), i < k → l[i]? = some x → isSt p q x = false) ∧ Below w.heap.size w wr) (fun t _ => n - (intOf t).toNat)
  case atStart => exact ⟨0, by omega, rfl, hide (fun i x hi => absurd hi (by omega)), Below.refl _ _⟩
  case round =>
    obtain ⟨k, hk, rfl, HA, hb⟩ := hrel
    by_cases hlt : k < n
    · obtain ⟨⟨x0, x1, x2⟩, hh⟩ : ∃ h, l[k]? = some h := ⟨_, List.getElem?_eq_getElem (by rw [← Hn.out]; exact hlt)⟩
      obtain ⟨b, off, rfl, hbs, c0, c1, c2⟩ := (Hr.out.below hb).get3 (fun _ => rfl) hh rfl
      have Hh := hide hh
      clear hh
      dsimp only at c0 c1 c2
      have q1 := streetFn_any x0 x1 x2 p q B1 B2 wr (Nat.lt_of_lt_of_le H1.out.1 hb.size) (Nat.lt_of_lt_of_le H1.out.2 hb.size) ((hb.cell (p := ⟨B1, 0, none⟩) H1.out.1).trans HC.out.1) ((hb.cell (p := ⟨B2, 0, none⟩) H1.out.2).trans HC.out.2)
      cases hp : isSt p q (x0, x1, x2) with
      | true =>
        have HF : Hid (stFind l p q = (k : Nat)) := hide (findI_at Hh.out hp (fun i b hi hb => HA.out i b hi hb))
        rw [hp] at q1
        clear hp
        go_wp2_with (go_at_call 76; ((with_reducible refine (q1).mono ?_); rintro e w1 ⟨rfl, hb1⟩); obtain ⟨hc1, hf1⟩ := bcell hb1)
        go_ret
        exact ⟨ret_int HF.out.symm, (by repeat (first | exact Below.refl _ _ | refine below_step ?_ (by assumption) | refine below_step ?_ (Later.below _) | refine below_alloc ?_ _ | refine Below.drew ?_ | refine Below.setCell ?_ (by first | (simp; done) | (simp; omega)) _))⟩
      | false =>
        have HN : Hid (∀ (i : Nat) (x : Int × Int × Int), i < k + 1 → l[i]? = some x → isSt p q x = false) := hide (fun i x hi hx => by
          by_cases hi2 : i < k
          · exact HA.out i x hi2 hx
          · have hik : i = k := by omega
            rw [hik, Hh.out] at hx
            cases hx
            exact hp)
        rw [hp] at q1
        clear hp
        go_wp2_with (go_at_call 76; ((with_reducible refine (q1).mono ?_); rintro e w1 ⟨rfl, hb1⟩); obtain ⟨hc1, hf1⟩ := bcell hb1)
        go_roundw
        case rel => exact ⟨k + 1, by omega, by go_num, HN, below_step hb hb1⟩
        case measure => simp [intOf]; omega
    · go_wp2
      go_ret
      exact ⟨ret_int (findI_none (fun i x hx => HA.out i x (by have := (List.getElem?_eq_some_iff.1 hx).1; have := Hn.out; omega) hx)).symm, hb⟩

set_option maxHeartbeats 2000000 in
theorem street_any (b0 : Nat) (A : Option Addr) (n c : Nat) (l : List (Int × Int × Int)) (p q : Int) (w : World) (hn : n = l.length) (hm : n ≤ 1048576) (hr : Rd w A (l.flatMap tcells)) (hc1 : w.cell? ⟨b0, 1, none⟩ = some (.slice A n c)) :
    Calls Tryz.prog 37 #[.pointer (some ⟨b0, 0, none⟩), .int .i64 p, .int .i64 q] w fun e w' => e = .returned (.int .i64 (stFind l p q)) ∧ Below w.heap.size w w' := by
  have hz := World.block_lt_of_cell? w _ hc1
  dsimp only at hz
  have c1 := (Row.new w #[.int .i64 p] 3).alloc (.cells #[.int .i64 q] 3)
  have c2 := Row.new (w.alloc (.cells #[.int .i64 p] 3)) #[.int .i64 q] 3
  have Q := hide (idxStreet_any A n c l p q w.heap.size (w.alloc (.cells #[.int .i64 p] 3)).heap.size ((w.alloc (.cells #[.int .i64 p] 3)).alloc (.cells #[.int .i64 q] 3)) hn hm ((hr.alloc _).alloc _) c1.1 c2.1 (c1.at 0 rfl) (c2.at 0 rfl))
  clear c1 c2 hn hr
  go_enter Tryz.func37, Tryz.ntmps37
  go_wp2_with fail
  have Q' := Q.out
  rw [show (w.alloc (.cells #[.int .i64 p] 3)).heap.size = w.heap.size + 1 by simp] at Q'
  refine Q'.mono ?_
  rintro e w1 ⟨rfl, hb1⟩
  go_wp2
  go_ret
  exact ⟨rfl, (by repeat (first | exact Below.refl _ _ | refine below_step ?_ (by assumption) | refine below_step ?_ (Later.below _) | refine below_alloc ?_ _ | refine Below.drew ?_ | refine Below.setCell ?_ (by first | (simp; done) | (simp; omega)) _))⟩
end Go.Proofs.YtbhnaakknfienaaGreatDoor

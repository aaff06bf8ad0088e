/- The laws' own comparisons of lists of stretches, of integers, of lists of pairs. -/
import Derived.Test.YtpkhdmhfkmajcaaSmall
import Derived.Test.YtpkhdmhfkmajcaaRegions
import Derived.Test.YtpkhdmhfkmajcaaGapD
namespace Go.Proofs.Ytpkhdmhfkmajcaa
open Go.RowKit
set_option linter.unusedVariables false

set_option maxHeartbeats 4000000 in
theorem qStretches_same (A B : Option Addr) (n c d : Nat) (l : List StrT) (w : World) (hn : n = l.length) (hm : n ≤ 1048576) (hr : Rd w A (l.flatMap scells)) (hs : Rd w B (l.flatMap scells)) :
    Calls Try.prog 20 #[.slice A n c, .slice B n d] w fun e w' => e = .returned (.bool true) ∧ Below w.heap.size w w' := by
  have Hn := hide hn
  have Hr := hide hr
  have Hs := hide hs
  clear hn hr hs
  go_enter Try.func20, Try.ntmps20
  go_wp2_with fail
  go_loopw [13] (fun t wr => ∃ k : Nat, k ≤ n ∧ t = .int .i64 k ∧ Below w.heap.size w wr) (fun t _ => n - (intOf t).toNat)
  case atStart => exact ⟨0, by omega, rfl, Below.refl _ _⟩
  case round =>
    obtain ⟨k, hk, rfl, hb⟩ := hrel
    by_cases hlt : k < n
    · obtain ⟨⟨x0, x1, x2, x3, x4⟩, hh⟩ : ∃ h, l[k]? = some h := ⟨_, List.getElem?_eq_getElem (by rw [← Hn.out]; exact hlt)⟩
      obtain ⟨b, off, rfl, hbs, c0, c1, c2, c3, c4⟩ := (Hr.out.below hb).get5 (fun _ => rfl) hh rfl
      obtain ⟨b', off', rfl, hbs', d0, d1, d2, d3, d4⟩ := (Hs.out.below hb).get5 (fun _ => rfl) hh rfl
      clear hh
      dsimp only at c0 c1 c2 c3 c4 d0 d1 d2 d3 d4
      have hi0 : (0 : Int) ≤ (k : Int) := by omega
      have hi1 : (k : Int) < (n : Int) := by omega
      go_wp2_with fail
      refine wp_region_later (by kernel_rfl) (by kernel_rfl) ?_
      repeat (go_big_quiet_step (fail))
      refine wpQuiet_nil ?_
      refine later_intro fun w1 hb1 => ?_
      go_wp2
      go_roundw
      case rel => exact ⟨k + 1, by omega, by go_num, below_step hb hb1⟩
      case measure => simp [intOf]; omega
    · have hkn : ((k : Int) < (n : Int)) = False := by simp; omega
      go_wp2
      go_ret
      exact ⟨rfl, hb⟩

set_option maxHeartbeats 2000000 in
theorem qInts_same (A B : Option Addr) (n c d : Nat) (l : List Int) (w : World) (hn : n = l.length) (hm : n ≤ 1048576) (hr : Rd w A (l.map (Value.int .i64))) (hs : Rd w B (l.map (Value.int .i64))) :
    Calls Try.prog 47 #[.slice A n c, .slice B n d] w fun e w' => e = .returned (.bool true) ∧ Below w.heap.size w w' := by
  have Hn := hide hn
  have Hr := hide hr
  have Hs := hide hs
  clear hn hr hs
  go_enter Try.func47, Try.ntmps47
  go_wp2_with fail
  go_loopw [13] (fun t wr => ∃ k : Nat, k ≤ n ∧ t = .int .i64 k ∧ Below w.heap.size w wr) (fun t _ => n - (intOf t).toNat)
  case atStart => exact ⟨0, by omega, rfl, Below.refl _ _⟩
  case round =>
    obtain ⟨k, hk, rfl, hb⟩ := hrel
    by_cases hlt : k < n
    · obtain ⟨x, hx⟩ : ∃ x, (l.map (Value.int .i64))[k]? = some (.int .i64 x) := by
        have : k < l.length := by rw [← Hn.out]; exact hlt
        exact ⟨l[k], by simp [this]⟩
      obtain ⟨b, off, rfl, hbs, c0⟩ := (Hr.out.below hb).get1 hx
      obtain ⟨b', off', rfl, hbs', d0⟩ := (Hs.out.below hb).get1 hx
      clear hx
      have hi0 : (0 : Int) ≤ (k : Int) := by omega
      have hi1 : (k : Int) < (n : Int) := by omega
      go_wp2_with fail
      refine wp_region_later (by kernel_rfl) (by kernel_rfl) ?_
      repeat (go_big_quiet_step (fail))
      refine wpQuiet_nil ?_
      refine later_intro fun w1 hb1 => ?_
      go_wp2
      go_roundw
      case rel => exact ⟨k + 1, by omega, by go_num, below_step hb hb1⟩
      case measure => simp [intOf]; omega
    · have hkn : ((k : Int) < (n : Int)) = False := by simp; omega
      go_wp2
      go_ret
      exact ⟨rfl, hb⟩

set_option maxHeartbeats 4000000 in
theorem qLists_same (B B' : Nat) (v u : Value) (L : List (Int × Int)) (w : World) (hv : Nest w B v L) (hu : Nest w B' u L) (hm : L.length ≤ 1000) :
    Calls Try.prog 21 #[v, u] w fun e w' => e = .returned (.bool true) ∧ Below w.heap.size w w' := by
  obtain ⟨bs, ⟨a1, -, a3, -, a5⟩, -, -⟩ := hv.lt
  obtain ⟨cs, ⟨b1, -, b3, -, b5⟩, -, -⟩ := hu.lt
  obtain ⟨A, k1, rfl, ra, -⟩ := own_open a3
  obtain ⟨C, k2, rfl, rb, -⟩ := own_open b3
  have RA := hide ra
  have RB := hide rb
  have HA := hide (And.intro a1 a5)
  have HB := hide (And.intro b1 b5)
  clear ra rb a1 a3 a5 b1 b3 b5 hv hu
  go_enter Try.func21, Try.ntmps21
  go_wp2_with fail
  go_loopw [13] (fun t wr => ∃ k : Nat, k ≤ L.length ∧ t = .int .i64 k ∧ Below w.heap.size w wr) (fun t _ => L.length - (intOf t).toNat)
  case atStart => exact ⟨0, by omega, rfl, Below.refl _ _⟩
  case round =>
    obtain ⟨k, hk, rfl, hb⟩ := hrel
    by_cases hlt : k < L.length
    · obtain ⟨⟨x, y⟩, hp⟩ : ∃ p, L[k]? = some p := ⟨_, List.getElem?_eq_getElem hlt⟩
      obtain ⟨b1, hb1⟩ : ∃ b, bs[k]? = some b := ⟨_, List.getElem?_eq_getElem (by rw [HA.out.1]; exact hlt)⟩
      obtain ⟨b2, hb2⟩ : ∃ b, cs[k]? = some b := ⟨_, List.getElem?_eq_getElem (by rw [HB.out.1]; exact hlt)⟩
      have RX := hide (heap_rd (HA.out.2 k b1 _ hb1 hp))
      have RY := hide (heap_rd (HB.out.2 k b2 _ hb2 hp))
      obtain ⟨b, off, rfl, hbs, c0⟩ := (RA.out.below hb).get1 (show (bs.map hdr)[k]? = some (hdr b1) by rw [List.getElem?_map, hb1]; rfl)
      obtain ⟨b', off', rfl, hbs', d0⟩ := (RB.out.below hb).get1 (show (cs.map hdr)[k]? = some (hdr b2) by rw [List.getElem?_map, hb2]; rfl)
      unfold hdr at c0 d0
      have QE := hide (fun (W : World) (hW : Below wr.heap.size wr W) => qInts_same (some ⟨b1, 0, none⟩) (some ⟨b2, 0, none⟩) 2 2 2 [x, y] W rfl (by omega) (RX.out.below (below_step hb hW)) (RY.out.below (below_step hb hW)))
      have hi0 : (0 : Int) ≤ (k : Int) := by omega
      have hi1 : (k : Int) < (L.length : Int) := by omega
      clear hp hb1 hb2
      go_wp2_with fail
      refine wp_region_later (by kernel_rfl) (by kernel_rfl) ?_
      repeat (go_big_quiet_step ((go_at_call 47; exact calls_later (QE.out _ (Later.below _)))))
      refine wpQuiet_nil ?_
      refine later_intro fun w1 hb1 => ?_
      have HB1 := hide (below_step hb hb1)
      clear hb1 c0 d0 hbs hbs' QE
      go_wp2
      go_roundw
      case rel => exact ⟨k + 1, by omega, by go_num, HB1.out⟩
      case measure => simp [intOf]; omega
    · have hkn : ((k : Int) < (L.length : Int)) = False := by simp; omega
      go_wp2
      go_ret
      exact ⟨rfl, hb⟩
end Go.Proofs.Ytpkhdmhfkmajcaa

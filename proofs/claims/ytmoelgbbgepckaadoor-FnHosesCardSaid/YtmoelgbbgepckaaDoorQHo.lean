/- The laws' own comparison of lines of hoses. -/
import Derived.Test.YtmoelgbbgepckaaDoorSmall
import Derived.Test.YtmoelgbbgepckaaDoorRegions
import Derived.Test.YtmoelgbbgepckaaDoorHoseL
namespace Go.Proofs.YtmoelgbbgepckaaDoor
open Go.RowKit
set_option linter.unusedVariables false

set_option maxHeartbeats 2000000 in
theorem qHoses_same (A B : Option Addr) (n c d : Nat) (l : List (Int × Int)) (w : World) (hn : n = l.length) (hm : n ≤ 1048576) (hr : Rd w A (l.flatMap hcells)) (hs : Rd w B (l.flatMap hcells)) :
    Calls Tryd.prog 30 #[.slice A n c, .slice B n d] w fun e w' => e = .returned (.bool true) ∧ Below w.heap.size w w' := by
  have Hn := hide hn
  have Hr := hide hr
  have Hs := hide hs
  clear hn hr hs
  go_enter Tryd.func30, Tryd.ntmps30
  go_wp2_with fail
  go_loopw [13] (fun t wr => ∃ k : Nat, k ≤ n ∧ t = .int .i64 k ∧ Below w.heap.size w wr) (fun t _ => n - (intOf t).toNat)
  case atStart => exact ⟨0, by omega, rfl, Below.refl _ _⟩
  case round =>
    obtain ⟨k, hk, rfl, hb⟩ := hrel
    by_cases hlt : k < n
    · obtain ⟨⟨x0, x1⟩, hh⟩ : ∃ h, l[k]? = some h := ⟨_, List.getElem?_eq_getElem (by rw [← Hn.out]; exact hlt)⟩
      obtain ⟨b, off, rfl, hbs, c0, c1⟩ := (Hr.out.below hb).get2 (fun _ => rfl) hh rfl
      obtain ⟨b', off', rfl, hbs', d0, d1⟩ := (Hs.out.below hb).get2 (fun _ => rfl) hh rfl
      clear hh
      have hi0 : (0 : Int) ≤ (k : Int) := by omega
      have hi1 : (k : Int) < (n : Int) := by omega
      go_wp2_with fail
      refine wp_region_later (by kernel_rfl) (by kernel_rfl) ?_
      repeat (go_big_quiet_step (fail))
      refine wpQuiet_nil ?_
      refine later_intro fun w1 hb1 => ?_
      go_wp2
      go_roundw
      case rel => exact ⟨k + 1, by omega, by go_num, below_step hb hb1⟩
      case measure => simp [intOf]; omega
    · have hkn : ((k : Int) < (n : Int)) = False := by simp; omega
      go_wp2
      go_ret
      exact ⟨rfl, hb⟩
end Go.Proofs.YtmoelgbbgepckaaDoor

/- What the laws' size functions of stretches return. -/
import Derived.Test.YtobdebagijmkjaaStrL
namespace Go.Proofs.Ytobdebagijmkjaa
open Go.RowKit
set_option linter.unusedVariables false

set_option maxHeartbeats 1000000 in
theorem szStretch_any (s : ByteArray) (lo hi node risk sz : Int) (w : World) (hs : s.size ≤ maxLen) (h0 : 0 ≤ sz) (h1 : sz ≤ 1048576) :
    Calls Try.prog 14 #[.agg #[.string s, .int .i64 lo, .int .i64 hi, .int .i64 node, .int .i64 risk], .int .i64 sz] w fun e w' => (∃ v : Int, e = .returned (.int .i64 v) ∧ -1 ≤ v ∧ v ≤ sz ∧ (0 ≤ v → s.size ≤ 1048576)) ∧ Below w.heap.size w w' := by
  unfold maxLen at hs
  go_enter Try.func14, Try.ntmps14
  go_wp2
  all_goals
    go_ret
    exact ⟨⟨_, rfl, by omega, by omega, fun _ => by omega⟩, (by repeat (first | exact Below.refl _ _ | refine below_step ?_ (by assumption) | refine below_step ?_ (Later.below _) | refine below_alloc ?_ _ | refine Below.drew ?_ | refine Below.setCell ?_ (by first | (simp; done) | (simp; omega)) _))⟩

set_option maxHeartbeats 4000000 in
theorem szStretchS_any (A : Option Addr) (n c : Nat) (sz : Int) (l : List (ByteArray × Int × Int × Int × Int)) (w : World) (hn : n = l.length) (hm : n ≤ maxLen) (hs : ∀ x ∈ l, x.1.size ≤ maxLen) (hr : Rd w A (l.flatMap scells)) (h0 : 0 ≤ sz) (h1 : sz ≤ 1048576) :
    Calls Try.prog 7 #[.slice A n c, .int .i64 sz] w fun e w' => (∃ v : Int, e = .returned (.int .i64 v) ∧ -1 ≤ v ∧ v ≤ sz ∧ (0 ≤ v → n ≤ 1048576)) ∧ Below w.heap.size w w' := by
  unfold maxLen at hm
  have Hn := hide hn
  have Hr := hide hr
  have Hs := hide hs
  clear hn hr hs
  go_enter Try.func7, Try.ntmps7
  go_wp2_with fail
  · go_ret
    exact ⟨⟨_, rfl, by omega, by omega, fun h => by omega⟩, (by repeat (first | exact Below.refl _ _ | refine below_step ?_ (by assumption) | refine below_step ?_ (Later.below _) | refine below_alloc ?_ _ | refine Below.drew ?_ | refine Below.setCell ?_ (by first | (simp; done) | (simp; omega)) _))⟩
  · go_loopw [1, 5] (fun s t wr => ∃ k : Nat, k ≤ n ∧ t = .int .i64 k ∧ (∃ v : Int, s = .int .i64 v ∧ 0 ≤ v ∧ v ≤ sz) ∧ Below w.heap.size w wr) (fun _ t _ => n - (intOf t).toNat)
    case atStart => exact ⟨0, by omega, rfl, ⟨_, rfl, by omega, by omega⟩, Below.refl _ _⟩
    case round =>
      obtain ⟨k, hk, rfl, ⟨v, rfl, hv0, hv1⟩, hb⟩ := hrel
      by_cases hlt : k < n
      · obtain ⟨⟨x0, x1, x2, x3, x4⟩, hh⟩ : ∃ h, l[k]? = some h := ⟨_, List.getElem?_eq_getElem (by rw [← Hn.out]; exact hlt)⟩
        obtain ⟨b, off, rfl, hbs, c0, c1, c2, c3, c4⟩ := (Hr.out.below hb).get5 (fun _ => rfl) hh rfl
        have Hx0 : Hid (x0.size ≤ maxLen) := hide (Hs.out _ (List.mem_of_getElem? hh))
        clear hh
        dsimp only at c0 c1 c2 c3 c4
        go_wp2_with fail
        refine (szStretch_any x0 x1 x2 x3 x4 v _ Hx0.out hv0 (by omega)).mono ?_
        rintro e w1 ⟨⟨u, rfl, hu0, hu1, hu2⟩, hb1⟩
        clear hu2
        by_cases hneg : u < 0
        · go_wp2
          go_ret
          exact ⟨⟨_, rfl, by omega, by omega, fun h => by omega⟩, (by repeat (first | exact Below.refl _ _ | refine below_step ?_ (by assumption) | refine below_step ?_ (Later.below _) | refine below_alloc ?_ _ | refine Below.drew ?_ | refine Below.setCell ?_ (by first | (simp; done) | (simp; omega)) _))⟩
        · go_wp2
          go_roundw
          case rel => exact ⟨k + 1, by omega, by go_num, ⟨_, rfl, by omega, by omega⟩, below_step hb hb1⟩
          case measure => simp [intOf]; omega
      · go_wp2
        go_ret
        exact ⟨⟨_, rfl, by omega, by omega, fun h => by omega⟩, hb⟩
end Go.Proofs.Ytobdebagijmkjaa

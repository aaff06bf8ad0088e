/- Nets and numbers marked by the laws. -/
import Derived.Test.YtangiabihgohcaaMarkMain
import Derived.Test.YtangiabihgohcaaMarkHydrant
import Derived.Test.YtangiabihgohcaaNetI
import Derived.Test.YtangiabihgohcaaIntX
namespace Go.Proofs.Ytangiabihgohcaa
open Go.RowKit
set_option linter.unusedVariables false

theorem grown_cell {w w' : World} {row : Option Nat} {b o : Nat} {v : Value} (hg : w.grownBy w' row) (h : w.cell? ⟨b, o, none⟩ = some v) (hne : some b ≠ row) : w'.cell? ⟨b, o, none⟩ = some v := hg.cell h hne
theorem own_kept {w w' : World} {B n sz : Nat} {e : TypeId} {v : Value} {xs : List Value} {row : Option Nat} (h : w.ownsRow B e sz v n xs) (hg : w.grownBy w' row) (hne : ∀ k, v.ownBlock = some k → some k ≠ row) : w'.ownsRow B e sz v n xs := own_apart h hg hne
set_option maxHeartbeats 2000000 in
theorem markIntS_row (g n c : Nat) (xs : List Value) (t : Int) (w : World) (h : Row w g xs) (hl : xs.length = n) (hm : n ≤ 1048576) (h0 : 0 ≤ t) (h1 : t ≤ 1099511627776) :
    Calls Try.prog 24 #[.slice (some ⟨g, 0, none⟩) n c, .int .i64 t] w fun e w' => e = .returned (.int .i64 (t + n)) ∧ w.grownBy w' (some g) := by
  have H := hide h
  have HL := hide hl
  clear h hl
  go_enter Try.func24, Try.ntmps24
  go_wp2_with fail
  go_loopw [1, 5] (fun s i wr => ∃ k : Nat, k ≤ n ∧ s = .int .i64 (t + k) ∧ i = .int .i64 k ∧ Hid (∃ ys, Row wr g ys ∧ ys.length = n) ∧ Hid (w.grownBy wr (some g))) (fun _ i _ => n - (intOf i).toNat)
  case atStart => exact ⟨0, by omega, by simp, rfl, hide ⟨_, H.out, HL.out⟩, hide (grown_refl _ _)⟩
  case round =>
    obtain ⟨k, hk, rfl, rfl, HX, HG⟩ := hrel
    by_cases hlt : k < n
    · obtain ⟨ys, hR, hyl⟩ := HX.out
      have HR := hide hR
      have HY := hide hyl
      clear hR hyl
      obtain ⟨o0, q0⟩ := HR.out.there (j := k) (by have := HY.out; omega)
      have f0 := HR.out.free k
      go_wp2
      go_roundw
      case rel => exact ⟨k + 1, by omega, by go_num <;> omega, by go_num, hide ⟨_, Row.set HR.out (by have := HY.out; omega) _, by simpa using HY.out⟩, hide (grown_trans HG.out (grown_set _ rfl))⟩
      case measure => simp [intOf]; omega
    · have hkn : k = n := by omega
      subst hkn
      go_wp2
      go_ret
      exact ⟨rfl, HG.out⟩

set_option maxHeartbeats 2000000 in
theorem markNet_row (g h n c m d : Nat) (M H : List (Int × Int)) (t : Int) (w : World) (hr : NetRow w g h M H) (hn : n = M.length) (hm : m = H.length) (hs : n + m ≤ 1048576) (hgh : g < h) (h0 : 0 ≤ t) (h1 : t ≤ 1000) :
    Calls Try.prog 23 #[.agg #[.slice (some ⟨g, 0, none⟩) n c, .slice (some ⟨h, 0, none⟩) m d], .int .i64 t] w fun e w' => e = .returned (.int .i64 (t + 2 * n + 2 * m)) ∧ ∃ w1, w.grownBy w1 (some g) ∧ w1.grownBy w' (some h) := by
  have q := markMainS_any g n c _ t (w.alloc (.cells #[.slice (some ⟨g, 0, none⟩) n c, .slice (some ⟨h, 0, none⟩) m d] 31)) (hr.1.alloc _) (by rw [flat_length mcells 2 (fun _ => rfl)]; omega) (by omega) h0 (by omega)
  have Q := hide q
  have HB := hide (hr.2.alloc (.cells #[.slice (some ⟨g, 0, none⟩) n c, .slice (some ⟨h, 0, none⟩) m d] 31))
  have hc := cell_new2 w (.slice (some ⟨g, 0, none⟩) n c) (.slice (some ⟨h, 0, none⟩) m d) 31
  have HGZ := hide hr.1.1
  have Hm := hide hm
  clear q hr hn hm
  go_enter Try.func23, Try.ntmps23
  go_wp2_with fail
  refine Q.out.mono ?_
  rintro e w1 ⟨rfl, -, hg⟩
  have HG := hide hg
  have HB1 := hide (HB.out.grown hg (fun e => by injection e with e; omega))
  have a1 := grown_cell hg hc.2 (fun e => by injection e with e; have := HGZ.out; omega)
  have z1 := World.block_lt_of_cell? w1 _ a1
  dsimp only at z1
  clear hg Q HB hc
  go_wp2_with fail
  refine (markHydrantS_any h m d _ (t + 2 * n) _ HB1.out (by rw [flat_length mcells 2 (fun _ => rfl)]; have := Hm.out; omega) (by omega) (by omega) (by omega)).mono ?_
  rintro e w2 ⟨rfl, -, hg⟩
  have HG2 := hide hg
  clear hg
  go_wp2
  go_ret
  exact ⟨rfl, w1, grown_trans (grown_of_below ((Below.refl _ _).alloc (Nat.le_refl _) _) _) HG.out, HG2.out⟩
end Go.Proofs.Ytangiabihgohcaa

/- Nets and numbers marked by the laws. -/
import Derived.Test.YtmoelgbbgepckaaDoorPyC
import Derived.Test.YtmoelgbbgepckaaDoorPyD
import Derived.Test.YtmoelgbbgepckaaDoorIntX
namespace Go.Proofs.YtmoelgbbgepckaaDoor
open Go.RowKit
set_option linter.unusedVariables false

theorem grown_cell {w w' : World} {row : Option Nat} {b o : Nat} {v : Value} (hg : w.grownBy w' row) (h : w.cell? ⟨b, o, none⟩ = some v) (hne : some b ≠ row) : w'.cell? ⟨b, o, none⟩ = some v := hg.cell h hne
theorem own_kept {w w' : World} {B n sz : Nat} {e : TypeId} {v : Value} {xs : List Value} {row : Option Nat} (h : w.ownsRow B e sz v n xs) (hg : w.grownBy w' row) (hne : ∀ k, v.ownBlock = some k → some k ≠ row) : w'.ownsRow B e sz v n xs := own_apart h hg hne
set_option maxHeartbeats 2000000 in
theorem markNet_row (g h n c m d : Nat) (M H : List (Int × Int)) (t : Int) (w : World) (hr : NetRow w g h M H) (hn : n = M.length) (hm : m = H.length) (hs : n + m ≤ 1048576) (hgh : g < h) (h0 : 0 ≤ t) (h1 : t ≤ 1000) :
    Calls Tryd.prog 39 #[.agg #[.slice (some ⟨g, 0, none⟩) n c, .slice (some ⟨h, 0, none⟩) m d], .int .i64 t] w fun e w' => e = .returned (.int .i64 (t + 2 * n + 2 * m)) ∧ ∃ w1, w.grownBy w1 (some g) ∧ w1.grownBy w' (some h) := by
  have q := markMainS_any g n c _ t (w.alloc (.cells #[.slice (some ⟨g, 0, none⟩) n c, .slice (some ⟨h, 0, none⟩) m d] 57)) (hr.1.alloc _) (by rw [flat_length mcells 2 (fun _ => rfl)]; omega) (by omega) h0 (by omega)
  have Q := hide q
  have HB := hide (hr.2.alloc (.cells #[.slice (some ⟨g, 0, none⟩) n c, .slice (some ⟨h, 0, none⟩) m d] 57))
  have hc := cell_new2 w (.slice (some ⟨g, 0, none⟩) n c) (.slice (some ⟨h, 0, none⟩) m d) 57
  have HGZ := hide hr.1.1
  have Hm := hide hm
  clear q hr hn hm
  go_enter Tryd.func39, Tryd.ntmps39
  go_wp2_with fail
  refine Q.out.mono ?_
  rintro e w1 ⟨rfl, -, hg⟩
  have HG := hide hg
  have HB1 := hide (HB.out.grown hg (fun e => by injection e with e; omega))
  have a1 := grown_cell hg hc.2 (fun e => by injection e with e; have := HGZ.out; omega)
  have z1 := World.block_lt_of_cell? w1 _ a1
  dsimp only at z1
  clear hg Q HB hc
  go_wp2_with fail
  refine (markHydrantS_any h m d _ (t + 2 * n) _ HB1.out (by rw [flat_length mcells 2 (fun _ => rfl)]; have := Hm.out; omega) (by omega) (by omega) (by omega)).mono ?_
  rintro e w2 ⟨rfl, -, hg⟩
  have HG2 := hide hg
  clear hg
  go_wp2
  go_ret
  exact ⟨rfl, w1, grown_trans (grown_of_below ((Below.refl _ _).alloc (Nat.le_refl _) _) _) HG.out, HG2.out⟩
end Go.Proofs.YtmoelgbbgepckaaDoor

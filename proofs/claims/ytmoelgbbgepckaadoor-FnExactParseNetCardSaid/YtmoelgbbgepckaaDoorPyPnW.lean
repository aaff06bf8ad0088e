/- ParseNet: the program's side, as it is called. -/
import Derived.Test.YtmoelgbbgepckaaDoorPyPnI
namespace Go.Proofs.YtmoelgbbgepckaaDoor
open Go.RowKit
set_option linter.unusedVariables false

set_option maxHeartbeats 4000000 in
theorem implParseNet_any (s : ByteArray) (w : World) (hs : s.size ≤ 1048576) (he : WrdEnv w) :
    Calls Tryd.prog 38 #[.string s] w (NetOut (pnI s) w) := by
  have HF0 := hide (Row.new w #[.slice none 0 0, .slice none 0 0] 57)
  have H0 := hide (below_alloc (Below.refl w.heap.size w) (.cells #[.slice none 0 0, .slice none 0 0] 57))
  have Q := hide (parseNet_any s (w.alloc (.cells #[.slice none 0 0, .slice none 0 0] 57)) hs (he.below H0.out))
  generalize pnI s = o at *
  clear he
  go_enter Tryd.func38, Tryd.ntmps38
  go_wp2_with fail
  refine Q.out.mono ?_
  rintro e w1 ⟨⟨v, v', rfl, ho, ho'⟩, hq⟩
  have HB := hide (below_step H0.out hq)
  have HF := hide (HF0.out.below hq)
  have HLQ := hide (fun q hq => (ho.lt q hq).1)
  have HLR := hide (fun q hq => (ho'.lt q hq).1)
  have HO := hide (own_le (B' := w.heap.size) ho (by simp))
  have HP := hide (own_le (B' := w.heap.size) ho' (by simp))
  have HK1 : Hid (∀ (W : World) (o1 : Nat) (u : Value), W.ownsRow w.heap.size 120 2 v (outM o).length ((outM o).flatMap mcells) → (W.setCell ⟨w.heap.size, o1, none⟩ u).ownsRow w.heap.size 120 2 v (outM o).length ((outM o).flatMap mcells)) := hide (fun W o1 u h => own_kept h (grown_set (g := w.heap.size) u rfl) (fun q hq e => by injection e with e; have h1 := HLQ.out q hq; simp at h1; omega))
  have HK2 : Hid (∀ (W : World) (o1 : Nat) (u : Value), W.ownsRow w.heap.size 118 2 v' (outY o).length ((outY o).flatMap mcells) → (W.setCell ⟨w.heap.size, o1, none⟩ u).ownsRow w.heap.size 118 2 v' (outY o).length ((outY o).flatMap mcells)) := hide (fun W o1 u h => own_kept h (grown_set (g := w.heap.size) u rfl) (fun q hq e => by injection e with e; have h1 := HLR.out q hq; simp at h1; omega))
  obtain ⟨A, cap, rfl, -⟩ := own_open ho
  obtain ⟨B, cap', rfl, -⟩ := own_open ho'
  have e0 := HF.out.2.1 0 _ rfl
  have e1 := HF.out.2.1 1 _ rfl
  have f0 := HF.out.free 0
  have f1 := HF.out.free 1
  clear hq ho ho' Q HF0 H0 HLQ HLR
  generalize hn : outM o = M at *
  generalize hl : outY o = H at *
  generalize hb : o.isSome = b at *
  have HN := hide (And.intro hn (And.intro hl hb))
  clear hn hl hb
  go_wp2
  exact bodyPost_ret (v := .tuple #[.agg #[.slice A M.length cap, .slice B H.length cap'], .bool b]) (by simp [results, Tryd.results38, go_sem, *]) rfl ⟨⟨_, _, by rw [HN.out.2.2], by rw [HN.out.1, HN.out.2.1]; exact ⟨HK1.out _ _ _ (HK1.out _ _ _ HO.out), HK2.out _ _ _ (HK2.out _ _ _ HP.out)⟩⟩, (HB.out.setCell (by simp) _).setCell (by simp) _⟩
end Go.Proofs.YtmoelgbbgepckaaDoor

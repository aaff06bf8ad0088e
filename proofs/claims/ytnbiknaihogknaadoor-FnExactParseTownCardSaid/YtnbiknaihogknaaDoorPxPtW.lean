/- ParseTown: the program's side, as it is called. -/
import Derived.Test.YtnbiknaihogknaaDoorPxPtI
namespace Go.Proofs.YtnbiknaihogknaaDoor
open Go.RowKit
set_option linter.unusedVariables false

theorem outL_le (s : ByteArray) : (outL (ptS s)).length ≤ 1048576 := by
  cases h : ptS s with
  | none => simp [outL]
  | some x =>
    obtain ⟨k, -, hk⟩ := townB_ok (ptS_some (nd := x.1) (l := x.2) h).1
    have := hk.len
    show x.2.length ≤ 1048576
    omega

set_option maxHeartbeats 2000000 in
theorem implParseTown_any (s : ByteArray) (w : World) (hs : s.size ≤ 1048576) (he : WrdEnv w) :
    Calls Tryd.prog 5 #[.string s] w (TownOut (ptI s) w) := by
  have HF0 := hide (Row.new w #[.int .i64 0, .slice none 0 0] 24)
  have H0 := hide (below_alloc (Below.refl w.heap.size w) (.cells #[.int .i64 0, .slice none 0 0] 24))
  have Q := hide (parseTown_any s (w.alloc (.cells #[.int .i64 0, .slice none 0 0] 24)) hs (he.txt.below H0.out) (he.fld.below H0.out))
  generalize ptI s = o at *
  clear he
  go_enter Tryd.func5, Tryd.ntmps5
  go_wp2_with fail
  refine Q.out.mono ?_
  rintro e w1 ⟨⟨v, rfl, ho⟩, hq⟩
  have HB := hide (below_step H0.out hq)
  have HF := hide (HF0.out.below hq)
  have HLQ := hide (fun q hq => (ho.lt q hq).1)
  have HO := hide (own_le (B' := w.heap.size) ho (by simp))
  have HKP : Hid (∀ (W : World) (o1 : Nat) (u : Value), W.ownsRow w.heap.size 34 3 v (outL o).length ((outL o).flatMap tcells) → (W.setCell ⟨w.heap.size, o1, none⟩ u).ownsRow w.heap.size 34 3 v (outL o).length ((outL o).flatMap tcells)) := hide (fun W o1 u h => own_kept h (grown_set (g := w.heap.size) u rfl) (fun q hq e => by injection e with e; have h1 := HLQ.out q hq; simp at h1; omega))
  obtain ⟨A, cap, rfl, -⟩ := own_open ho
  have e0 := HF.out.at 0 rfl
  have e1 := HF.out.at 1 rfl
  have f0 := HF.out.free 0
  have f1 := HF.out.free 1
  clear hq ho Q HF0 H0 HLQ
  generalize hn : outN o = nd at *
  generalize hl : outL o = l at *
  generalize hb : o.isSome = b at *
  have HN := hide (And.intro hn (And.intro hl hb))
  clear hn hl hb
  go_wp2
  exact bodyPost_ret (v := .tuple #[.agg #[.int .i64 nd, .slice A l.length cap], .bool b]) (by simp [results, Tryd.results5, go_sem, *]) rfl ⟨⟨_, by rw [HN.out.1, HN.out.2.2], by rw [HN.out.2.1]; exact HKP.out _ _ _ (HKP.out _ _ _ HO.out)⟩, (HB.out.setCell (by simp) _).setCell (by simp) _⟩
end Go.Proofs.YtnbiknaihogknaaDoor

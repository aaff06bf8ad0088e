/- A town handed back, or none. -/
import Derived.Test.YtnbiknaihogknaaDoorPxParV
import Derived.Test.YtnbiknaihogknaaDoorPxParW
import Derived.Test.YtnbiknaihogknaaDoorTextU
namespace Go.Proofs.YtnbiknaihogknaaDoor
open Go.RowKit
set_option linter.unusedVariables false

def outN (o : Option (Int × List StT)) : Int := match o with
  | some x => x.1
  | none => 0
def outL (o : Option (Int × List StT)) : List StT := match o with
  | some x => x.2
  | none => []
def TownOut (o : Option (Int × List StT)) (w : World) (e : Ending) (w' : World) : Prop :=
  (∃ v, e = .returned (.tuple #[.agg #[.int .i64 (outN o), v], .bool o.isSome]) ∧ w'.ownsRow w.heap.size 34 3 v (outL o).length ((outL o).flatMap tcells)) ∧ Below w.heap.size w w'
theorem TownOut.no {o : Option (Int × List StT)} {w w' : World} (h : o = none) (hb : Below w.heap.size w w') : TownOut o w (.returned (.tuple #[.agg #[.int .i64 0, .slice none 0 0], .bool false])) w' := by
  subst h
  exact ⟨⟨_, rfl, World.ownsRow_nil _ _ _ _⟩, hb⟩
theorem TownOut.yes {o : Option (Int × List StT)} {nd : Int} {l : List StT} {w w' : World} {v : Value} (h : o = some (nd, l)) (hv : w'.ownsRow w.heap.size 34 3 v l.length (l.flatMap tcells)) (hb : Below w.heap.size w w') : TownOut o w (.returned (.tuple #[.agg #[.int .i64 nd, v], .bool true])) w' := by
  subst h
  exact ⟨⟨_, rfl, hv⟩, hb⟩
theorem infoStreetP : (Tryd.prog.info? 34).map (fun i => (i.zero, i.size, i.bytes)) = some (some (.agg #[.int .i64 0, .int .i64 0, .int .i64 0]), 3, 24) := by kernel_rfl
theorem texts_ne {a b : ByteArray} (h : a ≠ b) : (a.toList == b.toList) = false := by rw [texts_eq, decide_eq_false h]
theorem cut_size (s : ByteArray) (b : UInt8) : (cutA s b).size ≤ s.size ∧ (cutB s b).size ≤ s.size := by
  have ha : (cutA s b).size = (Lib.cut s.data.toList [b]).1.length := rfl
  have hb : (cutB s b).size = (Lib.cut s.data.toList [b]).2.1.length := rfl
  have hs : s.size = s.data.toList.length := rfl
  rw [ha, hb, hs]
  rcases cut_cases b s.data.toList with h | ⟨p, r, e, hp⟩
  · rw [cut_no h]; simp
  · have hc := cut_byte (r := r) hp
    rw [← e] at hc
    rw [hc, e]
    simp only [List.length_append, List.length_cons]
    omega
theorem map_take_succ {α β : Type} (f : α → β) {l : List α} {k : Nat} {a : α} (h : l[k]? = some a) : (l.take (k + 1)).map f = (l.take k).map f ++ [f a] := by
  rw [List.take_add_one, h, List.map_append]; rfl
theorem all_take_add {α : Type} (p : α → Bool) {l : List α} {k : Nat} {a : α} (h : l[k]? = some a) : (l.take (k + 1)).all p = ((l.take k).all p && p a) := by
  rw [List.take_add_one, h, List.all_append]
  simp
end Go.Proofs.YtnbiknaihogknaaDoor

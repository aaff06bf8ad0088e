/- What the program's reading of texts leans on: the library's tables and variables, and its cuts. -/
import Derived.Test.YtmoelgbbgepckaaDoorParI
import Derived.Test.YtmoelgbbgepckaaDoorParB
namespace Go.Proofs.YtmoelgbbgepckaaDoor
open Go.RowKit
set_option linter.unusedVariables false

/-- The library's bound on texts, some integer. -/
def MaxIs (w : World) : Prop := ∃ m : Int, w.cell? ⟨2, 0, none⟩ = some (.int .i64 m)
theorem MaxIs.below {w w' : World} (h : MaxIs w) (hb : Below w.heap.size w w') : MaxIs w' := let ⟨m, e⟩ := h; ⟨m, cell_on e hb⟩
structure TxtEnv (w : World) : Prop where
  num : NumEnv w
  max : MaxIs w
theorem TxtEnv.below {w w' : World} (h : TxtEnv w) (hb : Below w.heap.size w w') : TxtEnv w' := ⟨h.num.below hb, h.max.below hb⟩

theorem cut_any (s : ByteArray) (b : UInt8) (w : World) (hs : s.size ≤ 2000000) (he : MaxIs w) :
    Calls Tryd.prog 100 #[.string s, .string ⟨#[b]⟩] w fun e w' => e = .returned (.tuple #[.string (cutA s b), .string (cutB s b), .bool (Lib.cut s.data.toList [b]).2.2]) ∧ Below w.heap.size w w' := by
  obtain ⟨m, hm⟩ := he
  refine (Tryd.strings_Cut s ⟨#[b]⟩ m w (by omega) hm).mono fun e w' ⟨h1, n, h2⟩ => ⟨h1, ?_⟩
  rw [h2]
  exact below_drewN (Below.refl _ _) n
theorem cuts_any (s : ByteArray) (b : UInt8) (w : World) (hs : s.size ≤ 2000000) (he : MaxIs w) :
    Calls Tryd.prog 63 #[.string s, .string ⟨#[b]⟩] w fun e w' => (∃ g n : Nat, e = .returned (.slice (some ⟨g, 0, none⟩) n n) ∧ n = (splitS s b).length ∧ (w.heap.size ≤ g ∧ g < w'.heap.size) ∧ Rd w' (some ⟨g, 0, none⟩) ((splitS s b).map Value.string)) ∧ Below w.heap.size w w' := by
  obtain ⟨m, hm⟩ := he
  refine (Tryd.strings_Split s ⟨#[b]⟩ m w (by omega) hm (by show 1 ≤ 1; omega)).mono fun e w' ⟨h1, h2⟩ => ?_
  rw [h2]
  refine ⟨⟨w.heap.size, _, h1, count_same s b, ⟨Nat.le_refl _, (Row.new w _ _).1⟩, ?_⟩, below_alloc (Below.refl _ _) _⟩
  rw [← split_same s b]
  exact (Row.new w _ _).rd
theorem trim_any (s : ByteArray) (b : UInt8) (w : World) (hs : s.size ≤ 2000000) :
    Calls Tryd.prog 64 #[.string s, .string ⟨#[b]⟩] w fun e w' => e = .returned (.string ⟨(Lib.trimSuffix s.data.toList [b]).toArray⟩) ∧ w = w' :=
  (Tryd.strings_TrimSuffix s ⟨#[b]⟩ w (by omega)).mono fun e w' ⟨h1, h2⟩ => ⟨h1, h2.symm⟩
end Go.Proofs.YtmoelgbbgepckaaDoor

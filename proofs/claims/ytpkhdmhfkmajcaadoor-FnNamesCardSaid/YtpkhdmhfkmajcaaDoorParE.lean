/- What the program's reading of texts leans on: the library's tables and variables, and its cuts. -/
import Derived.Test.YtpkhdmhfkmajcaaDoorParI
import Derived.Test.YtpkhdmhfkmajcaaDoorParB
namespace Go.Proofs.YtpkhdmhfkmajcaaDoor
open Go.RowKit
set_option linter.unusedVariables false

/-- The library's bound on texts, some integer. -/
def MaxIs (w : World) : Prop := ∃ m : Int, w.cell? ⟨0, 0, none⟩ = some (.int .i64 m)
theorem MaxIs.below {w w' : World} (h : MaxIs w) (hb : Below w.heap.size w w') : MaxIs w' := let ⟨m, e⟩ := h; ⟨m, cell_on e hb⟩
structure TxtEnv (w : World) : Prop where
  num : NumEnv w
  max : MaxIs w
theorem TxtEnv.below {w w' : World} (h : TxtEnv w) (hb : Below w.heap.size w w') : TxtEnv w' := ⟨h.num.below hb, h.max.below hb⟩

theorem cut_any (s : ByteArray) (b : UInt8) (w : World) (hs : s.size ≤ 2000000) (he : MaxIs w) :
    Calls Tryd.prog 34 #[.string s, .string ⟨#[b]⟩] w fun e w' => e = .returned (.tuple #[.string (cutA s b), .string (cutB s b), .bool (Lib.cut s.data.toList [b]).2.2]) ∧ Below w.heap.size w w' := by
  obtain ⟨m, hm⟩ := he
  refine (Tryd.strings_Cut s ⟨#[b]⟩ m w (by omega) hm).mono fun e w' ⟨h1, n, h2⟩ => ⟨h1, ?_⟩
  rw [h2]
  exact below_drewN (Below.refl _ _) n
end Go.Proofs.YtpkhdmhfkmajcaaDoor

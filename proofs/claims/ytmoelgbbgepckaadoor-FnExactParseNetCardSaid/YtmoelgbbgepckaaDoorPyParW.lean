/- The program's words of a text. -/
import Derived.Test.YtmoelgbbgepckaaDoorPyParE
import Derived.Test.YtmoelgbbgepckaaDoorPyParD
namespace Go.Proofs.YtmoelgbbgepckaaDoor
open Go.RowKit
set_option linter.unusedVariables false

/-- What the cut into words leans on: the library's tables of white space. -/
structure FldEnv (w : World) : Prop where
  asc : Lib.TabIs Tryd.prog w "strings.asciiSpace" .u8 Lib.asciiSpaceTab
  wht : Lib.WhiteTab 1 w
theorem tabIs_below {w w' : World} {nm : String} {k : IntKind} {zs : List Int} (hg : (Tryd.prog.globalNamed nm).isSome = true) (h : Lib.TabIs Tryd.prog w nm k zs) (hb : Below w.heap.size w w') : Lib.TabIs Tryd.prog w' nm k zs := by
  obtain ⟨g, hg⟩ := Option.isSome_iff_exists.1 hg
  unfold Lib.TabIs World.var? at h ⊢
  rw [hg] at h ⊢
  simp only [Option.bind_some] at h ⊢
  have hlt : g < w.heap.size := by
    rcases Nat.lt_or_ge g w.heap.size with h' | h'
    · exact h'
    · rw [Array.getElem?_eq_none h'] at h; cases h
  rw [hb.block g hlt]
  exact h
theorem FldEnv.below {w w' : World} (h : FldEnv w) (hb : Below w.heap.size w w') : FldEnv w' := ⟨tabIs_below (by kernel_rfl) h.asc hb, WhiteTab_below h.wht hb⟩

/-- All that the program's reading of words leans on. -/
structure WrdEnv (w : World) : Prop where
  txt : TxtEnv w
  fld : FldEnv w
theorem WrdEnv.below {w w' : World} (h : WrdEnv w) (hb : Below w.heap.size w w') : WrdEnv w' := ⟨h.txt.below hb, h.fld.below hb⟩

theorem words_any (s : ByteArray) (w : World) (hs : s.size ≤ 2000000) (he : FldEnv w) :
    Calls Tryd.prog 129 #[.string s] w fun e w' => (∃ g n : Nat, e = .returned (.slice (some ⟨g, 0, none⟩) n n) ∧ n = (wordsF s).length ∧ (w.heap.size ≤ g ∧ g < w'.heap.size) ∧ Rd w' (some ⟨g, 0, none⟩) ((wordsF s).map Value.string)) ∧ Below w.heap.size w w' := by
  refine (Tryd.strings_Fields_any s w (by omega) he.asc he.wht).mono fun e w' ⟨A, h1, hA, h2, h3⟩ => ⟨⟨A, _, h1, ?_, ⟨hA, (h2.lt A rfl).2⟩, ?_⟩, h3⟩
  · rw [wordsF, List.length_map]
  · have := own_rd h2
    rw [wordsF, List.map_map]
    exact this
end Go.Proofs.YtmoelgbbgepckaaDoor

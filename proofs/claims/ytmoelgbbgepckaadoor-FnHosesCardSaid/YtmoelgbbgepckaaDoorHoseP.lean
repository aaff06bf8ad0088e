/- The pressure of a pump: what each call returns. -/
import Derived.Test.YtmoelgbbgepckaaDoorHoseL
namespace Go.Proofs.YtmoelgbbgepckaaDoor
open Go.RowKit
set_option linter.unusedVariables false

theorem pump_bd {hs : List (Int × Int)} {r n f : Int} (hv : lineB hs = true) (hr : inB r (-1000) 1000 = true) (hf : inB f 0 3000 = true) :
    0 ≤ lineSum hs f ∧ lineSum hs f ≤ 27000012 ∧ -1000 ≤ r ∧ r ≤ 1000 ∧ 0 ≤ lpOf n f ∧ lpOf n f ≤ 2001 := by
  obtain ⟨a, _, b⟩ := lineB_iff hv
  obtain ⟨f0, f1⟩ := inB_iff.1 hf
  obtain ⟨r0, r1⟩ := inB_iff.1 hr
  obtain ⟨s0, s1⟩ := lineSum_bd f0 f1 a
  obtain ⟨p0, p1⟩ := lpOf_bd n f
  exact ⟨s0, by omega, r0, r1, p0, p1⟩
theorem lpR_bd (n f : Int) : 0 ≤ lpR n f ∧ lpR n f ≤ 2000 := by
  have := lpOf_bd n f
  unfold lpR lpOk
  by_cases h : lpOf n f ≤ 2000 <;> simp [h] <;> omega

end Go.Proofs.YtmoelgbbgepckaaDoor

/- TownText: both sides. -/
import Derived.Test.YtnbiknaihogknaaDoorTextT
namespace Go.Proofs.YtnbiknaihogknaaDoor
open Go.RowKit
set_option linter.unusedVariables false

def txV (nd : Int) (l : List StT) : ByteArray := if townB nd l then ttN nd.toNat l l.length else ByteArray.empty
theorem txV_no {nd : Int} {l : List StT} (h : townB nd l = false) : txV nd l = ⟨#[]⟩ := by rw [txV, h]; rfl
theorem txV_yes {k : Nat} {l : List StT} (h : townB k l = true) : txV k l = ttN k l l.length := by rw [txV, if_pos h, Int.toNat_natCast]
theorem ret_txt {s t : ByteArray} {a b : Bool} (h : s = t) (h2 : a = b) : Ending.returned (.tuple #[.string s, .bool a]) = .returned (.tuple #[.string t, .bool b]) := by rw [h, h2]

end Go.Proofs.YtnbiknaihogknaaDoor

/-
  Gaps, and the lines that tell of ranks: both programs alike.
-/
import Derived.Test.YtfpccehboifkbaaGreatDoorPureY
namespace Go.Proofs.YtfpccehboifkbaaGreatDoor.D
open Go Go.Den
set_option linter.unusedVariables false
set_option linter.unusedSimpArgs false
/-- the genus -/
def gn (g : Gr) : Int := (g.2.length : Int) - (N g : Int) + 1
theorem i00 : I64 0 := by unfold I64; omega
end Go.Proofs.YtfpccehboifkbaaGreatDoor.D

/-
  Divisors along morphisms: both say alike what is pushed forward and pulled back.
-/
import Derived.Test.YtafgbjhojkgbjaaGreatDoorPureH
namespace Go.Proofs.YtafgbjhojkgbjaaGreatDoor.D
open Go Go.Den
set_option linter.unusedVariables false
set_option linter.unusedSimpArgs false
def DOk (g : Gr) (d : List Int) : Prop := GOk g ∧ (d.length : Int) = g.1 ∧ ∀ j, j < d.length → -60 ≤ d.getD j 0 ∧ d.getD j 0 ≤ 60
end Go.Proofs.YtafgbjhojkgbjaaGreatDoor.D

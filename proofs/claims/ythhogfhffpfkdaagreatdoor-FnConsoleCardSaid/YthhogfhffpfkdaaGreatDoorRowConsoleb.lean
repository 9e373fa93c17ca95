/-
  FnConsole: the law answers yes to all its arguments, and leaves them as they were: proved for every input.
-/
import Derived.Test.YthhogfhffpfkdaaGreatDoorCards
import Derived.Test.YthhogfhffpfkdaaGreatDoorTie
import Derived.SevenTiedAt
import Derived.Handed
import Derived.Deep.DeepHandedRow
import Derived.LaidHandle
import Derived.Test.YthhogfhffpfkdaaGreatDoorRows
import Derived.Test.YthhogfhffpfkdaaGreatDoorRowConsolea
import Derived.ProofKit
import Derived.SizedLaws
namespace Go.Proofs.YthhogfhffpfkdaaGreatDoor
open Go Go.ChangeShapes Go.WideShapes Go.ChangeAt Go.RowKit Go.Den
set_option linter.unusedVariables false
set_option maxRecDepth 100000
set_option maxHeartbeats 100000000 in
theorem ConsoleJoin : joinedFacts Tryz.pinned.checked.prog 4 Tryz.f4 Rows.fnConsoleSpec Rows.fnConsoleRow = true := by
  unfold joinedFacts
  simp only [Bool.and_eq_true]
  repeat' apply And.intro
  all_goals (as_aux_lemma => kernel_rfl)
theorem ConsoleRow : Rows.FnConsoleSaid :=
  OpenClaim.holds_of_wide 4 Tryz.f4 rfl rfl rfl rfl rfl rfl rfl ⟨rfl, rfl, rfl, rfl, rfl⟩ rfl rfl rfl rfl rfl (by kernel_rfl) Tryz.func4 ConsoleJoin
    (of_decide_eq_true (by kernel_rfl)) (by unfold Func.isWrapper; first | (rw [if_pos (by decide +kernel)]; kernel_rfl) | (rw [if_neg (by decide +kernel)]; exact ⟨rfl, rfl⟩))
    (fun os started H enc _ => ConsoleLifted os started H enc)
end Go.Proofs.YthhogfhffpfkdaaGreatDoor

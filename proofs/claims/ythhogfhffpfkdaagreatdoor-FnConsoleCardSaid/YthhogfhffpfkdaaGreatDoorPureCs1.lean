/-
  FnConsole: the lines whose effect does not hang on the chips.
-/
import Derived.Test.YthhogfhffpfkdaaGreatDoorPureCt
namespace Go.Proofs.YthhogfhffpfkdaaGreatDoor.D.Cs
open Go Go.Den Go.Proofs.YthhogfhffpfkdaaGreatDoor.D
set_option linter.unusedVariables false
set_option maxRecDepth 100000
theorem symK3_1 (x0 x1 x2 x3 : Int) : SymK 3 1 [x0, x1, x2, x3] := by
  unfold SymK
  repeat (first | exact AllL.nil | refine AllL.cons (by kernel_rfl) ?_)
theorem symN3_1 (x0 x1 x2 x3 : Int) : SymN 3 1 [x0, x1, x2, x3] := by
  unfold SymN
  repeat (first | exact AllL.nil | refine AllL.cons (by kernel_rfl) ?_)
theorem symK4_0 (x0 x1 x2 : Int) : SymK 4 0 [x0, x1, x2] := by
  unfold SymK
  repeat (first | exact AllL.nil | refine AllL.cons (by kernel_rfl) ?_)
theorem symN4_0 (x0 x1 x2 : Int) : SymN 4 0 [x0, x1, x2] := by
  unfold SymN
  repeat (first | exact AllL.nil | refine AllL.cons (by kernel_rfl) ?_)
theorem symK4_1 (x0 x1 x2 : Int) : SymK 4 1 [x0, x1, x2] := by
  unfold SymK
  repeat (first | exact AllL.nil | refine AllL.cons (by kernel_rfl) ?_)
theorem symN4_1 (x0 x1 x2 : Int) : SymN 4 1 [x0, x1, x2] := by
  unfold SymN
  repeat (first | exact AllL.nil | refine AllL.cons (by kernel_rfl) ?_)
end Go.Proofs.YthhogfhffpfkdaaGreatDoor.D.Cs

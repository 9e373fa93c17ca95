/-
  FnConsole: the lines whose effect does not hang on the chips.
-/
import Derived.Test.YthhogfhffpfkdaaGreatDoorPureCt
namespace Go.Proofs.YthhogfhffpfkdaaGreatDoor.D.Cs
open Go Go.Den Go.Proofs.YthhogfhffpfkdaaGreatDoor.D
set_option linter.unusedVariables false
set_option maxRecDepth 100000
theorem symK3_3 (x0 x1 x2 x3 : Int) : SymK 3 3 [x0, x1, x2, x3] := by
  unfold SymK
  repeat (first | exact AllL.nil | refine AllL.cons (by kernel_rfl) ?_)
theorem symN3_3 (x0 x1 x2 x3 : Int) : SymN 3 3 [x0, x1, x2, x3] := by
  unfold SymN
  repeat (first | exact AllL.nil | refine AllL.cons (by kernel_rfl) ?_)
theorem symK5_0 (x0 x1 : Int) : SymK 5 0 [x0, x1] := by
  unfold SymK
  repeat (first | exact AllL.nil | refine AllL.cons (by kernel_rfl) ?_)
theorem symN5_0 (x0 x1 : Int) : SymN 5 0 [x0, x1] := by
  unfold SymN
  repeat (first | exact AllL.nil | refine AllL.cons (by kernel_rfl) ?_)
theorem symK5_1 (x0 x1 : Int) : SymK 5 1 [x0, x1] := by
  unfold SymK
  repeat (first | exact AllL.nil | refine AllL.cons (by kernel_rfl) ?_)
theorem symN5_1 (x0 x1 : Int) : SymN 5 1 [x0, x1] := by
  unfold SymN
  repeat (first | exact AllL.nil | refine AllL.cons (by kernel_rfl) ?_)
theorem symK6_0 (x0 : Int) : SymK 6 0 [x0] := by
  unfold SymK
  repeat (first | exact AllL.nil | refine AllL.cons (by kernel_rfl) ?_)
theorem symN6_0 (x0 : Int) : SymN 6 0 [x0] := by
  unfold SymN
  repeat (first | exact AllL.nil | refine AllL.cons (by kernel_rfl) ?_)
end Go.Proofs.YthhogfhffpfkdaaGreatDoor.D.Cs

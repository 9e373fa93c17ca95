/-
  FnConsole: the lines whose effect does not hang on the chips.
-/
import Derived.Test.YthhogfhffpfkdaaGreatDoorPureCt
namespace Go.Proofs.YthhogfhffpfkdaaGreatDoor.D.Cs
open Go Go.Den Go.Proofs.YthhogfhffpfkdaaGreatDoor.D
set_option linter.unusedVariables false
set_option maxRecDepth 100000
theorem symK1_0 (x0 x1 x2 x3 : Int) : SymK 1 0 [x0, x1, x2, x3] := by
  unfold SymK
  repeat (first | exact AllL.nil | refine AllL.cons (by kernel_rfl) ?_)
theorem symN1_0 (x0 x1 x2 x3 : Int) : SymN 1 0 [x0, x1, x2, x3] := by
  unfold SymN
  repeat (first | exact AllL.nil | refine AllL.cons (by kernel_rfl) ?_)
theorem symK1_1 (x0 x1 x2 x3 : Int) : SymK 1 1 [x0, x1, x2, x3] := by
  unfold SymK
  repeat (first | exact AllL.nil | refine AllL.cons (by kernel_rfl) ?_)
theorem symN1_1 (x0 x1 x2 x3 : Int) : SymN 1 1 [x0, x1, x2, x3] := by
  unfold SymN
  repeat (first | exact AllL.nil | refine AllL.cons (by kernel_rfl) ?_)
theorem symK1_3 (x0 x1 x2 x3 : Int) : SymK 1 3 [x0, x1, x2, x3] := by
  unfold SymK
  repeat (first | exact AllL.nil | refine AllL.cons (by kernel_rfl) ?_)
theorem symN1_3 (x0 x1 x2 x3 : Int) : SymN 1 3 [x0, x1, x2, x3] := by
  unfold SymN
  repeat (first | exact AllL.nil | refine AllL.cons (by kernel_rfl) ?_)
theorem symK0_0 (x0 x1 x2 : Int) : SymK 0 0 [x0, x1, x2] := by
  unfold SymK
  repeat (first | exact AllL.nil | refine AllL.cons (by kernel_rfl) ?_)
theorem symN0_0 (x0 x1 x2 : Int) : SymN 0 0 [x0, x1, x2] := by
  unfold SymN
  repeat (first | exact AllL.nil | refine AllL.cons (by kernel_rfl) ?_)
theorem symK0_1 (x0 x1 x2 : Int) : SymK 0 1 [x0, x1, x2] := by
  unfold SymK
  repeat (first | exact AllL.nil | refine AllL.cons (by kernel_rfl) ?_)
theorem symN0_1 (x0 x1 x2 : Int) : SymN 0 1 [x0, x1, x2] := by
  unfold SymN
  repeat (first | exact AllL.nil | refine AllL.cons (by kernel_rfl) ?_)
end Go.Proofs.YthhogfhffpfkdaaGreatDoor.D.Cs

/-
  FnConsole: from each console each line leads on (a part of the consoles).
-/
import Derived.Test.YthhogfhffpfkdaaGreatDoorPureCt
namespace Go.Proofs.YthhogfhffpfkdaaGreatDoor.D.Cs
open Go Go.Den Go.Proofs.YthhogfhffpfkdaaGreatDoor.D
set_option linter.unusedVariables false
set_option maxRecDepth 100000
theorem k_t0_0 : chT 0 t0_0 = true := by kernel_rfl
theorem k_t0_6 : chT 0 t0_6 = true := by kernel_rfl
theorem k_t1_12 : chT 1 t1_12 = true := by kernel_rfl
theorem k_t1_18 : chT 1 t1_18 = true := by kernel_rfl
theorem k_t3_26 : chT 3 t3_26 = true := by kernel_rfl
theorem k_t3_32 : chT 3 t3_32 = true := by kernel_rfl
theorem k_t3_38 : chT 3 t3_38 = true := by kernel_rfl
end Go.Proofs.YthhogfhffpfkdaaGreatDoor.D.Cs

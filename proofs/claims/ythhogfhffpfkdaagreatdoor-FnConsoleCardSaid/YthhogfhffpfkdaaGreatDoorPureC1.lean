/-
  FnConsole: from each console each line leads on (a part of the consoles).
-/
import Derived.Test.YthhogfhffpfkdaaGreatDoorPureCt
namespace Go.Proofs.YthhogfhffpfkdaaGreatDoor.D.Cs
open Go Go.Den Go.Proofs.YthhogfhffpfkdaaGreatDoor.D
set_option linter.unusedVariables false
set_option maxRecDepth 100000
theorem k_t0_1 : chT 0 t0_1 = true := by kernel_rfl
theorem k_t0_7 : chT 0 t0_7 = true := by kernel_rfl
theorem k_t1_13 : chT 1 t1_13 = true := by kernel_rfl
theorem k_t1_19 : chT 1 t1_19 = true := by kernel_rfl
theorem k_t3_27 : chT 3 t3_27 = true := by kernel_rfl
theorem k_t3_33 : chT 3 t3_33 = true := by kernel_rfl
theorem k_t3_39 : chT 3 t3_39 = true := by kernel_rfl
end Go.Proofs.YthhogfhffpfkdaaGreatDoor.D.Cs

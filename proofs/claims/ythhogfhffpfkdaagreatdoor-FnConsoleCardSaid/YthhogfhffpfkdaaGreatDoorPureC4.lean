/-
  FnConsole: from each console each line leads on (a part of the consoles).
-/
import Derived.Test.YthhogfhffpfkdaaGreatDoorPureCt
namespace Go.Proofs.YthhogfhffpfkdaaGreatDoor.D.Cs
open Go Go.Den Go.Proofs.YthhogfhffpfkdaaGreatDoor.D
set_option linter.unusedVariables false
set_option maxRecDepth 100000
theorem k_t0_4 : chT 0 t0_4 = true := by kernel_rfl
theorem k_t1_10 : chT 1 t1_10 = true := by kernel_rfl
theorem k_t1_16 : chT 1 t1_16 = true := by kernel_rfl
theorem k_t1_22 : chT 1 t1_22 = true := by kernel_rfl
theorem k_t1_8 : chT 1 t1_8 = true := by kernel_rfl
theorem k_t3_30 : chT 3 t3_30 = true := by kernel_rfl
theorem k_t3_36 : chT 3 t3_36 = true := by kernel_rfl
theorem k_t4_42 : chT 4 t4_42 = true := by kernel_rfl
theorem k_t5_46 : chT 5 t5_46 = true := by kernel_rfl
end Go.Proofs.YthhogfhffpfkdaaGreatDoor.D.Cs

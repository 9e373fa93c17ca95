/-
  FnConsole: from each console each line leads on (a part of the consoles).
-/
import Derived.Test.YthhogfhffpfkdaaGreatDoorPureCt
namespace Go.Proofs.YthhogfhffpfkdaaGreatDoor.D.Cs
open Go Go.Den Go.Proofs.YthhogfhffpfkdaaGreatDoor.D
set_option linter.unusedVariables false
set_option maxRecDepth 100000
theorem k_t0_3 : chT 0 t0_3 = true := by kernel_rfl
theorem k_t1_15 : chT 1 t1_15 = true := by kernel_rfl
theorem k_t1_21 : chT 1 t1_21 = true := by kernel_rfl
theorem k_t2_25 : chT 2 t2_25 = true := by kernel_rfl
theorem k_t3_29 : chT 3 t3_29 = true := by kernel_rfl
theorem k_t3_35 : chT 3 t3_35 = true := by kernel_rfl
theorem k_t3_41 : chT 3 t3_41 = true := by kernel_rfl
theorem k_t4_45 : chT 4 t4_45 = true := by kernel_rfl
end Go.Proofs.YthhogfhffpfkdaaGreatDoor.D.Cs

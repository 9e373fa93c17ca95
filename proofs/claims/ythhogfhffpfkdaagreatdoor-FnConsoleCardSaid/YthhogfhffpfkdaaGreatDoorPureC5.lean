/-
  FnConsole: from each console each line leads on (a part of the consoles).
-/
import Derived.Test.YthhogfhffpfkdaaGreatDoorPureCt
namespace Go.Proofs.YthhogfhffpfkdaaGreatDoor.D.Cs
open Go Go.Den Go.Proofs.YthhogfhffpfkdaaGreatDoor.D
set_option linter.unusedVariables false
set_option maxRecDepth 100000
theorem k_t0_5 : chT 0 t0_5 = true := by kernel_rfl
theorem k_t1_11 : chT 1 t1_11 = true := by kernel_rfl
theorem k_t1_17 : chT 1 t1_17 = true := by kernel_rfl
theorem k_t1_23 : chT 1 t1_23 = true := by kernel_rfl
theorem k_t1_9 : chT 1 t1_9 = true := by kernel_rfl
theorem k_t3_31 : chT 3 t3_31 = true := by kernel_rfl
theorem k_t3_37 : chT 3 t3_37 = true := by kernel_rfl
theorem k_t4_43 : chT 4 t4_43 = true := by kernel_rfl
theorem k_t6_47 : chT 6 t6_47 = true := by kernel_rfl
end Go.Proofs.YthhogfhffpfkdaaGreatDoor.D.Cs

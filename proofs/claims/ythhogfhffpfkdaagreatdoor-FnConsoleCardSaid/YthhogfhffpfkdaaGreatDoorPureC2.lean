/-
  FnConsole: from each console each line leads on (a part of the consoles).
-/
import Derived.Test.YthhogfhffpfkdaaGreatDoorPureCt
namespace Go.Proofs.YthhogfhffpfkdaaGreatDoor.D.Cs
open Go Go.Den Go.Proofs.YthhogfhffpfkdaaGreatDoor.D
set_option linter.unusedVariables false
set_option maxRecDepth 100000
theorem k_t0_2 : chT 0 t0_2 = true := by kernel_rfl
theorem k_t1_14 : chT 1 t1_14 = true := by kernel_rfl
theorem k_t1_20 : chT 1 t1_20 = true := by kernel_rfl
theorem k_t2_24 : chT 2 t2_24 = true := by kernel_rfl
theorem k_t3_28 : chT 3 t3_28 = true := by kernel_rfl
theorem k_t3_34 : chT 3 t3_34 = true := by kernel_rfl
theorem k_t3_40 : chT 3 t3_40 = true := by kernel_rfl
theorem k_t4_44 : chT 4 t4_44 = true := by kernel_rfl
end Go.Proofs.YthhogfhffpfkdaaGreatDoor.D.Cs

/-
  FnConsole: from each console each line leads on.
-/
import Derived.Test.YthhogfhffpfkdaaGreatDoorPureC0
import Derived.Test.YthhogfhffpfkdaaGreatDoorPureC1
import Derived.Test.YthhogfhffpfkdaaGreatDoorPureC2
import Derived.Test.YthhogfhffpfkdaaGreatDoorPureC3
import Derived.Test.YthhogfhffpfkdaaGreatDoorPureC4
import Derived.Test.YthhogfhffpfkdaaGreatDoorPureC5
namespace Go.Proofs.YthhogfhffpfkdaaGreatDoor.D.Cs
open Go Go.Den Go.Proofs.YthhogfhffpfkdaaGreatDoor.D
set_option linter.unusedVariables false
set_option maxRecDepth 100000
theorem chN {g : Nat} {l r : Tr} {d : List Int} {a b c : Nat} (h1 : chT g l = true) (h2 : ch g d a b c = true) (h3 : chT g r = true) : chT g (.N l d a b c r) = true := by
  show (chT g l && (ch g d a b c && chT g r)) = true
  rw [h1, h2, h3]; rfl
theorem k_tp0 : chT 0 tp0 = true := (chN (chN (chN k_t0_0 (by kernel_rfl) k_t0_1) (by kernel_rfl) (chN k_t0_2 (by kernel_rfl) k_t0_3)) (by kernel_rfl) (chN (chN k_t0_4 (by kernel_rfl) k_t0_5) (by kernel_rfl) (chN k_t0_6 (by kernel_rfl) k_t0_7)))
theorem k_tp1 : chT 1 tp1 = true := (chN (chN (chN (chN k_t1_8 (by kernel_rfl) k_t1_9) (by kernel_rfl) (chN k_t1_10 (by kernel_rfl) k_t1_11)) (by kernel_rfl) (chN (chN k_t1_12 (by kernel_rfl) k_t1_13) (by kernel_rfl) (chN k_t1_14 (by kernel_rfl) k_t1_15))) (by kernel_rfl) (chN (chN (chN k_t1_16 (by kernel_rfl) k_t1_17) (by kernel_rfl) (chN k_t1_18 (by kernel_rfl) k_t1_19)) (by kernel_rfl) (chN (chN k_t1_20 (by kernel_rfl) k_t1_21) (by kernel_rfl) (chN k_t1_22 (by kernel_rfl) k_t1_23))))
theorem k_tp2 : chT 2 tp2 = true := (chN k_t2_24 (by kernel_rfl) k_t2_25)
theorem k_tp3 : chT 3 tp3 = true := (chN (chN (chN (chN k_t3_26 (by kernel_rfl) k_t3_27) (by kernel_rfl) (chN k_t3_28 (by kernel_rfl) k_t3_29)) (by kernel_rfl) (chN (chN k_t3_30 (by kernel_rfl) k_t3_31) (by kernel_rfl) (chN k_t3_32 (by kernel_rfl) k_t3_33))) (by kernel_rfl) (chN (chN (chN k_t3_34 (by kernel_rfl) k_t3_35) (by kernel_rfl) (chN k_t3_36 (by kernel_rfl) k_t3_37)) (by kernel_rfl) (chN (chN k_t3_38 (by kernel_rfl) k_t3_39) (by kernel_rfl) (chN k_t3_40 (by kernel_rfl) k_t3_41))))
theorem k_tp4 : chT 4 tp4 = true := (chN (chN k_t4_42 (by kernel_rfl) k_t4_43) (by kernel_rfl) (chN k_t4_44 (by kernel_rfl) k_t4_45))
theorem k_tp5 : chT 5 tp5 = true := k_t5_46
theorem k_tp6 : chT 6 tp6 = true := k_t6_47
end Go.Proofs.YthhogfhffpfkdaaGreatDoor.D.Cs

/-
  Each function and each loop by its equation: what the evaluator tells of it, for all arguments.
-/
import Derived.Test.YthhogfhffpfkdaaGreatDoorCtx0
import Derived.KernelRfl
namespace Go.Proofs.YthhogfhffpfkdaaGreatDoor.D0
open Go Go.Den
set_option linter.unusedVariables false
set_option maxRecDepth 100000
theorem cmp_isNaN_int_eq (a0 : Int) : cmp_isNaN_int a0 =
    some ((a0 : Int) != a0) :=
  (den_eq Γ X 0 rfl _).trans (by kernel_rfl)
theorem cmp_Compare_int_eq (a0 : Int) (a1 : Int) : cmp_Compare_int a0 a1 =
    (cmp_isNaN_int a0).bind fun r1 =>
      (cmp_isNaN_int a1).bind fun r2 =>
        cond (r1)
          (cond (r2)
            (some 0)
            (some (-1)))
          (cond (r2)
            (some 1)
            (cond (decide (a0 < a1))
              (some (-1))
              (cond (decide (a0 > a1))
                (some 1)
                (some 0)))) :=
  (den_eq Γ X 1 rfl _).trans (by kernel_rfl)
theorem slices_Compare_int_int_eq (a0 : (List Int)) (a1 : (List Int)) : slices_Compare_int_int a0 a1 =
    slices_Compare_int_int_l0 a0 a1 a0 (a0.length : Int) 0 :=
  (den_eq Γ X 2 rfl _).trans (by kernel_rfl)
theorem slices_Compare_int_int_l0_eq (x0 : (List Int)) (x1 : (List Int)) (x9 : (List Int)) (x10 : Int) (x11 : Int) : slices_Compare_int_int_l0 x0 x1 x9 x10 x11 =
    cond (decide (x11 < x10))
      (cond (inside x11 x9.length)
        (cond (decide (x11 ≥ (x1.length : Int)))
          (some 1)
          (cond (inside x11 x1.length)
            ((cmp_Compare_int (x9.getD x11.toNat 0) (x1.getD x11.toNat 0)).bind fun r1 =>
              cond ((r1 : Int) != 0)
                (some r1)
                (slices_Compare_int_int_l0 x0 x1 x9 x10 (w64 (x11 + 1))))
            (none)))
        (none))
      (cond (decide ((x0.length : Int) < (x1.length : Int)))
        (some (-1))
        (some 0)) :=
  (at_eq Γ X 2 [1, 0, 1, 0] _).trans (by kernel_rfl)
end Go.Proofs.YthhogfhffpfkdaaGreatDoor.D0

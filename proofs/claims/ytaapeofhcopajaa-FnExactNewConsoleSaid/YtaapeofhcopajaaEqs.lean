/-
  Each function and each loop by its equation: what the evaluator tells of it, for all arguments.
-/
import Derived.Test.YtaapeofhcopajaaCtx
import Derived.KernelRfl
namespace Go.Proofs.Ytaapeofhcopajaa.D
open Go Go.Den
set_option linter.unusedVariables false
set_option maxRecDepth 100000
theorem spec_NewConsole_eq : spec_NewConsole =
    some ((1, ([] : List (Int × Int))), ([0] : List Int), 0) :=
  (den_eq Γ X 0 rfl _).trans (by kernel_rfl)
theorem impl_NewConsole_eq : impl_NewConsole =
    some ((1, ([] : List (Int × Int))), ([0] : List Int), 0) :=
  (den_eq Γ X 1 rfl _).trans (by kernel_rfl)
theorem laws_eqEdge_eq (a0 : (Int × Int)) (a1 : (Int × Int)) : laws_eqEdge a0 a1 =
    cond ((a0.1 : Int) != a1.1)
      (some false)
      (cond ((a0.2 : Int) != a1.2)
        (some false)
        (some true)) :=
  (den_eq Γ X 2 rfl _).trans (by kernel_rfl)
theorem laws_eqEdgeS_eq (a0 : (List (Int × Int))) (a1 : (List (Int × Int))) : laws_eqEdgeS a0 a1 =
    cond (((a0.length : Int) : Int) != (a1.length : Int))
      (some false)
      (laws_eqEdgeS_l0 a0 a1 0) :=
  (den_eq Γ X 3 rfl _).trans (by kernel_rfl)
theorem laws_eqEdgeS_l0_eq (x0 : (List (Int × Int))) (x1 : (List (Int × Int))) (x5 : Int) : laws_eqEdgeS_l0 x0 x1 x5 =
    cond (decide (x5 < (x0.length : Int)))
      (cond (inside x5 x0.length)
        (cond (inside x5 x1.length)
          ((laws_eqEdge (x0.getD x5.toNat (0, 0)) (x1.getD x5.toNat (0, 0))).bind fun r1 =>
            cond (!r1)
              (some false)
              (laws_eqEdgeS_l0 x0 x1 (w64 (x5 + 1))))
          (none))
        (none))
      (some true) :=
  (at_eq Γ X 3 [1, 1, 0, 1, 0] _).trans (by kernel_rfl)
theorem laws_eqGraph_eq (a0 : (Int × (List (Int × Int)))) (a1 : (Int × (List (Int × Int)))) : laws_eqGraph a0 a1 =
    cond ((a0.1 : Int) != a1.1)
      (some false)
      ((laws_eqEdgeS a0.2 a1.2).bind fun r1 =>
        cond (!r1)
          (some false)
          (some true)) :=
  (den_eq Γ X 4 rfl _).trans (by kernel_rfl)
theorem laws_eqIntS_eq (a0 : (List Int)) (a1 : (List Int)) : laws_eqIntS a0 a1 =
    cond (((a0.length : Int) : Int) != (a1.length : Int))
      (some false)
      (laws_eqIntS_l0 a0 a1 0) :=
  (den_eq Γ X 5 rfl _).trans (by kernel_rfl)
theorem laws_eqIntS_l0_eq (x0 : (List Int)) (x1 : (List Int)) (x5 : Int) : laws_eqIntS_l0 x0 x1 x5 =
    cond (decide (x5 < (x0.length : Int)))
      (cond (inside x5 x0.length)
        (cond (inside x5 x1.length)
          (cond (((x0.getD x5.toNat 0) : Int) != (x1.getD x5.toNat 0))
            (some false)
            (laws_eqIntS_l0 x0 x1 (w64 (x5 + 1))))
          (none))
        (none))
      (some true) :=
  (at_eq Γ X 5 [1, 1, 0, 1, 0] _).trans (by kernel_rfl)
theorem laws_eqConsole_eq (a0 : ((Int × (List (Int × Int))) × ((List Int) × Int))) (a1 : ((Int × (List (Int × Int))) × ((List Int) × Int))) : laws_eqConsole a0 a1 =
    (laws_eqGraph a0.1 a1.1).bind fun r1 =>
      cond (!r1)
        (some false)
        ((laws_eqIntS a0.2.1 a1.2.1).bind fun r2 =>
          cond (!r2)
            (some false)
            (cond ((a0.2.2 : Int) != a1.2.2)
              (some false)
              (some true))) :=
  (den_eq Γ X 6 rfl _).trans (by kernel_rfl)
theorem laws_markEdgeS_eq (a0 : (List (Int × Int))) (a1 : Int) : laws_markEdgeS a0 a1 =
    laws_markEdgeS_l0 a0 a1 0 :=
  (den_eq Γ X 7 rfl _).trans (by kernel_rfl)
theorem laws_markEdgeS_l0_eq (x0 : (List (Int × Int))) (x1 : Int) (x5 : Int) : laws_markEdgeS_l0 x0 x1 x5 =
    cond (decide (x5 < (x0.length : Int)))
      (cond (inside x5 x0.length)
        (cond (inside x5 (x0.set x5.toNat (x1, (x0.getD x5.toNat (0, 0)).2)).length)
          (laws_markEdgeS_l0 ((x0.set x5.toNat (x1, (x0.getD x5.toNat (0, 0)).2)).set x5.toNat (((x0.set x5.toNat (x1, (x0.getD x5.toNat (0, 0)).2)).getD x5.toNat (0, 0)).1, w64 (x1 + 1))) (w64 ((w64 (x1 + 1)) + 1)) (w64 (x5 + 1)))
          (none))
        (none))
      (some (x1, x0)) :=
  (at_eq Γ X 7 [1, 0, 1, 0] _).trans (by kernel_rfl)
theorem laws_markGraph_eq (a0 : (Int × (List (Int × Int)))) (a1 : Int) : laws_markGraph a0 a1 =
    (laws_markEdgeS a0.2 a1).bind fun r1 =>
      some (r1.1, a0.1, r1.2) :=
  (den_eq Γ X 8 rfl _).trans (by kernel_rfl)
theorem laws_markIntS_eq (a0 : (List Int)) (a1 : Int) : laws_markIntS a0 a1 =
    laws_markIntS_l0 a0 a1 0 :=
  (den_eq Γ X 9 rfl _).trans (by kernel_rfl)
theorem laws_markIntS_l0_eq (x0 : (List Int)) (x1 : Int) (x5 : Int) : laws_markIntS_l0 x0 x1 x5 =
    cond (decide (x5 < (x0.length : Int)))
      (cond (inside x5 x0.length)
        (laws_markIntS_l0 (x0.set x5.toNat x1) (w64 (x1 + 1)) (w64 (x5 + 1)))
        (none))
      (some (x1, x0)) :=
  (at_eq Γ X 9 [1, 0, 1, 0] _).trans (by kernel_rfl)
theorem laws_markConsole_eq (a0 : ((Int × (List (Int × Int))) × ((List Int) × Int))) (a1 : Int) : laws_markConsole a0 a1 =
    (laws_markGraph a0.1 a1).bind fun r1 =>
      (laws_markIntS a0.2.1 r1.1).bind fun r2 =>
        some (r2.1, r1.2, r2.2, a0.2.2) :=
  (den_eq Γ X 10 rfl _).trans (by kernel_rfl)
theorem laws_heldEdgeS_eq (a0 : (List (Int × Int))) (a1 : Int) : laws_heldEdgeS a0 a1 =
    laws_heldEdgeS_l0 a0 a1 0 :=
  (den_eq Γ X 11 rfl _).trans (by kernel_rfl)
theorem laws_heldEdgeS_l0_eq (x0 : (List (Int × Int))) (x1 : Int) (x5 : Int) : laws_heldEdgeS_l0 x0 x1 x5 =
    cond (decide (x5 < (x0.length : Int)))
      (cond (inside x5 x0.length)
        (cond ((((x0.getD x5.toNat (0, 0)).1) : Int) != x1)
          (some (-1))
          (cond (inside x5 x0.length)
            (cond ((((x0.getD x5.toNat (0, 0)).2) : Int) != (w64 (x1 + 1)))
              (some (-1))
              (laws_heldEdgeS_l0 x0 (w64 ((w64 (x1 + 1)) + 1)) (w64 (x5 + 1))))
            (none)))
        (none))
      (some x1) :=
  (at_eq Γ X 11 [1, 0, 1, 0] _).trans (by kernel_rfl)
theorem laws_heldGraph_eq (a0 : (Int × (List (Int × Int)))) (a1 : Int) : laws_heldGraph a0 a1 =
    (laws_heldEdgeS a0.2 a1).bind fun r1 =>
      cond (decide (r1 < 0))
        (some (-1))
        (some r1) :=
  (den_eq Γ X 12 rfl _).trans (by kernel_rfl)
theorem laws_heldIntS_eq (a0 : (List Int)) (a1 : Int) : laws_heldIntS a0 a1 =
    laws_heldIntS_l0 a0 a1 0 :=
  (den_eq Γ X 13 rfl _).trans (by kernel_rfl)
theorem laws_heldIntS_l0_eq (x0 : (List Int)) (x1 : Int) (x5 : Int) : laws_heldIntS_l0 x0 x1 x5 =
    cond (decide (x5 < (x0.length : Int)))
      (cond (inside x5 x0.length)
        (cond (((x0.getD x5.toNat 0) : Int) != x1)
          (some (-1))
          (laws_heldIntS_l0 x0 (w64 (x1 + 1)) (w64 (x5 + 1))))
        (none))
      (some x1) :=
  (at_eq Γ X 13 [1, 0, 1, 0] _).trans (by kernel_rfl)
theorem laws_heldConsole_eq (a0 : ((Int × (List (Int × Int))) × ((List Int) × Int))) (a1 : Int) : laws_heldConsole a0 a1 =
    (laws_heldGraph a0.1 a1).bind fun r1 =>
      cond (decide (r1 < 0))
        (some (-1))
        ((laws_heldIntS a0.2.1 r1).bind fun r2 =>
          cond (decide (r2 < 0))
            (some (-1))
            (some r2)) :=
  (den_eq Γ X 14 rfl _).trans (by kernel_rfl)
theorem laws_FnExactNewConsole_eq : laws_FnExactNewConsole =
    (spec_NewConsole ).bind fun r1 =>
      (impl_NewConsole ).bind fun r2 =>
        (laws_eqConsole r2 r1).bind fun r3 =>
          cond (!r3)
            (some false)
            ((laws_markConsole r2 1).bind fun r4 =>
              (laws_heldConsole r4.2 1).bind fun r5 =>
                cond (decide (r5 < 0))
                  (some false)
                  (cond ((r5 : Int) != r4.1)
                    (some false)
                    ((impl_NewConsole ).bind fun r6 =>
                      (laws_eqConsole r6 r1).bind fun r7 =>
                        cond (!r7)
                          (some false)
                          ((laws_heldConsole r4.2 1).bind fun r8 =>
                            cond (decide (r8 < 0))
                              (some false)
                              (cond ((r8 : Int) != r4.1)
                                (some false)
                                (some true)))))) :=
  (den_eq Γ X 15 rfl _).trans (by kernel_rfl)
end Go.Proofs.Ytaapeofhcopajaa.D

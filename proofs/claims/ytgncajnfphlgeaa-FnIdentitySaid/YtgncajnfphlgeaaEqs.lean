/-
  Each function and each loop by its equation: what the evaluator tells of it, for all arguments.
-/
import Derived.Test.YtgncajnfphlgeaaCtx
import Derived.KernelRfl
namespace Go.Proofs.Ytgncajnfphlgeaa.D
open Go Go.Den
set_option linter.unusedVariables false
set_option maxRecDepth 100000
theorem laws_szEdgeS_eq (a0 : (List (Int × Int))) (a1 : Int) : laws_szEdgeS a0 a1 =
    cond (decide (w64 (a1 - (a0.length : Int)) < 0))
      (some (-1))
      (some (w64 (a1 - (a0.length : Int)))) :=
  (den_eq Γ X 0 rfl _).trans (by kernel_rfl)
theorem laws_szGraph_eq (a0 : (Int × (List (Int × Int)))) (a1 : Int) : laws_szGraph a0 a1 =
    (laws_szEdgeS a0.2 a1).bind fun r1 =>
      cond (decide (r1 < 0))
        (some (-1))
        (some r1) :=
  (den_eq Γ X 1 rfl _).trans (by kernel_rfl)
theorem laws_toEdge_eq (a0 : (Int × Int)) : laws_toEdge a0 =
    some (a0.1, a0.2) :=
  (den_eq Γ X 2 rfl _).trans (by kernel_rfl)
theorem laws_toEdgeS_eq (a0 : (List (Int × Int))) : laws_toEdgeS a0 =
    cond (decide (0 ≤ (a0.length : Int)) && decide ((a0.length : Int) ≤ (room : Int)))
      (laws_toEdgeS_l0 a0 (List.replicate (a0.length : Int).toNat (0, 0)) 0)
      (none) :=
  (den_eq Γ X 3 rfl _).trans (by kernel_rfl)
theorem laws_toEdgeS_l0_eq (x0 : (List (Int × Int))) (x3 : (List (Int × Int))) (x4 : Int) : laws_toEdgeS_l0 x0 x3 x4 =
    cond (decide (x4 < (x0.length : Int)))
      (cond (inside x4 x0.length)
        ((laws_toEdge (x0.getD x4.toNat (0, 0))).bind fun r1 =>
          cond (inside x4 x3.length)
            (laws_toEdgeS_l0 x0 (x3.set x4.toNat r1) (w64 (x4 + 1)))
            (none))
        (none))
      (some x3) :=
  (at_eq Γ X 3 [1, 1, 0, 1, 0] _).trans (by kernel_rfl)
theorem laws_toGraph_eq (a0 : (Int × (List (Int × Int)))) : laws_toGraph a0 =
    (laws_toEdgeS a0.2).bind fun r1 =>
      some (a0.1, r1) :=
  (den_eq Γ X 4 rfl _).trans (by kernel_rfl)
theorem spec_l01In_eq (a0 : Int) (a1 : Int) (a2 : Int) : spec_l01In a0 a1 a2 =
    cond (decide (a0 ≥ a1))
      (some (decide (a0 ≤ a2)))
      (some false) :=
  (den_eq Γ X 5 rfl _).trans (by kernel_rfl)
theorem spec_EdgesOk_eq (a0 : (Int × (List (Int × Int)))) : spec_EdgesOk a0 =
    (spec_l01In a0.1 1 6).bind fun r1 =>
      cond (!r1)
        (some false)
        (cond (decide ((a0.2.length : Int) > 12))
          (some false)
          (spec_EdgesOk_l0 a0 a0.2 (a0.2.length : Int) 0)) :=
  (den_eq Γ X 6 rfl _).trans (by kernel_rfl)
theorem spec_EdgesOk_l0_eq (x1 : (Int × (List (Int × Int)))) (x16 : (List (Int × Int))) (x17 : Int) (x18 : Int) : spec_EdgesOk_l0 x1 x16 x17 x18 =
    cond (decide (x18 < x17))
      (cond (inside x18 x16.length)
        ((spec_l01In ((x16.getD x18.toNat (0, 0)).1) 0 (w64 (x1.1 - 1))).bind fun r2 =>
          cond (!r2)
            (some false)
            ((spec_l01In ((x16.getD x18.toNat (0, 0)).2) (w64 (((x16.getD x18.toNat (0, 0)).1) + 1)) (w64 (x1.1 - 1))).bind fun r3 =>
              cond (!r3)
                (some false)
                (spec_EdgesOk_l0 x1 x16 x17 (w64 (x18 + 1)))))
        (none))
      (some true) :=
  (at_eq Γ X 6 [1, 1, 0, 1, 0] _).trans (by kernel_rfl)
theorem spec_l02Has_eq (a0 : (List Int)) (a1 : Int) : spec_l02Has a0 a1 =
    spec_l02Has_l0 a1 a0 (a0.length : Int) 0 :=
  (den_eq Γ X 7 rfl _).trans (by kernel_rfl)
theorem spec_l02Has_l0_eq (x1 : Int) (x7 : (List Int)) (x8 : Int) (x9 : Int) : spec_l02Has_l0 x1 x7 x8 x9 =
    cond (decide (x9 < x8))
      (cond (inside x9 x7.length)
        (cond (((x7.getD x9.toNat 0) : Int) == x1)
          (some true)
          (spec_l02Has_l0 x1 x7 x8 (w64 (x9 + 1))))
        (none))
      (some false) :=
  (at_eq Γ X 7 [1, 0, 1, 0] _).trans (by kernel_rfl)
theorem spec_l02Reach_eq (a0 : (Int × (List (Int × Int)))) : spec_l02Reach a0 =
    spec_l02Reach_l0 a0 ([0] : List Int) 0 :=
  (den_eq Γ X 8 rfl _).trans (by kernel_rfl)
theorem spec_l02Reach_l0_eq (x1 : (Int × (List (Int × Int)))) (x3 : (List Int)) (x4 : Int) : spec_l02Reach_l0 x1 x3 x4 =
    cond (decide (x4 < (x3.length : Int)))
      (spec_l02Reach_l2 x1 x3 x4 x1.2 (x1.2.length : Int) 0)
      (some x3) :=
  (at_eq Γ X 8 [1, 1, 0, 1, 0] _).trans (by kernel_rfl)
theorem spec_l02Reach_l2_eq (x1 : (Int × (List (Int × Int)))) (x3 : (List Int)) (x4 : Int) (x15 : (List (Int × Int))) (x16 : Int) (x17 : Int) : spec_l02Reach_l2 x1 x3 x4 x15 x16 x17 =
    cond (decide (x17 < x16))
      (cond (inside x17 x15.length)
        (cond (inside x4 x3.length)
          (cond ((((x15.getD x17.toNat (0, 0)).1) : Int) == (x3.getD x4.toNat 0))
            ((spec_l02Has x3 ((x15.getD x17.toNat (0, 0)).2)).bind fun r1 =>
              cond (!r1)
                (cond (decide (x3.length + ([(x15.getD x17.toNat (0, 0)).2] : List Int).length ≤ room))
                  (cond (inside x4 (x3 ++ ([(x15.getD x17.toNat (0, 0)).2] : List Int)).length)
                    (cond ((((x15.getD x17.toNat (0, 0)).2) : Int) == ((x3 ++ ([(x15.getD x17.toNat (0, 0)).2] : List Int)).getD x4.toNat 0))
                      ((spec_l02Has (x3 ++ ([(x15.getD x17.toNat (0, 0)).2] : List Int)) ((x15.getD x17.toNat (0, 0)).1)).bind fun r2 =>
                        cond (!r2)
                          (spec_l02Reach_c11 x1 (x3 ++ ([(x15.getD x17.toNat (0, 0)).2] : List Int)) x4 (x15.getD x17.toNat (0, 0)) x15 x16 x17)
                          (spec_l02Reach_c12 x1 (x3 ++ ([(x15.getD x17.toNat (0, 0)).2] : List Int)) x4 x15 x16 x17))
                      (spec_l02Reach_c12 x1 (x3 ++ ([(x15.getD x17.toNat (0, 0)).2] : List Int)) x4 x15 x16 x17))
                    (none))
                  (none))
                (cond (inside x4 x3.length)
                  (cond ((((x15.getD x17.toNat (0, 0)).2) : Int) == (x3.getD x4.toNat 0))
                    ((spec_l02Has x3 ((x15.getD x17.toNat (0, 0)).1)).bind fun r3 =>
                      cond (!r3)
                        (spec_l02Reach_c11 x1 x3 x4 (x15.getD x17.toNat (0, 0)) x15 x16 x17)
                        (spec_l02Reach_c12 x1 x3 x4 x15 x16 x17))
                    (spec_l02Reach_c12 x1 x3 x4 x15 x16 x17))
                  (none)))
            (cond (inside x4 x3.length)
              (cond ((((x15.getD x17.toNat (0, 0)).2) : Int) == (x3.getD x4.toNat 0))
                ((spec_l02Has x3 ((x15.getD x17.toNat (0, 0)).1)).bind fun r4 =>
                  cond (!r4)
                    (spec_l02Reach_c11 x1 x3 x4 (x15.getD x17.toNat (0, 0)) x15 x16 x17)
                    (spec_l02Reach_c12 x1 x3 x4 x15 x16 x17))
                (spec_l02Reach_c12 x1 x3 x4 x15 x16 x17))
              (none)))
          (none))
        (none))
      (spec_l02Reach_l0 x1 x3 (w64 (x4 + 1))) :=
  (at_eq Γ X 8 [1, 1, 0, 1, 0, 0, 1, 0, 0, 1, 0] _).trans (by kernel_rfl)
theorem spec_l02Reach_c11_eq (x1 : (Int × (List (Int × Int)))) (x3 : (List Int)) (x4 : Int) (x6 : (Int × Int)) (x15 : (List (Int × Int))) (x16 : Int) (x17 : Int) : spec_l02Reach_c11 x1 x3 x4 x6 x15 x16 x17 =
    cond (decide (x3.length + ([x6.1] : List Int).length ≤ room))
      (spec_l02Reach_c12 x1 (x3 ++ ([x6.1] : List Int)) x4 x15 x16 x17)
      (none) :=
  (at_eq Γ X 8 [1, 1, 0, 1, 0, 0, 1, 0, 0, 1, 0, 0, 1, 1, 0, 0, 1, 1, 1, 0] _).trans (by kernel_rfl)
theorem spec_l02Reach_c12_eq (x1 : (Int × (List (Int × Int)))) (x3 : (List Int)) (x4 : Int) (x15 : (List (Int × Int))) (x16 : Int) (x17 : Int) : spec_l02Reach_c12 x1 x3 x4 x15 x16 x17 =
    spec_l02Reach_l2 x1 x3 x4 x15 x16 (w64 (x17 + 1)) :=
  (at_eq Γ X 8 [1, 1, 0, 1, 0, 0, 1, 0, 0, 1, 0, 0, 1, 1, 1] _).trans (by kernel_rfl)
theorem spec_GraphOk_eq (a0 : (Int × (List (Int × Int)))) : spec_GraphOk a0 =
    (spec_EdgesOk a0).bind fun r1 =>
      cond (!r1)
        (some false)
        (spec_GraphOk_l0 a0 a0.2 (a0.2.length : Int) 0) :=
  (den_eq Γ X 9 rfl _).trans (by kernel_rfl)
theorem spec_GraphOk_l0_eq (x1 : (Int × (List (Int × Int)))) (x9 : (List (Int × Int))) (x10 : Int) (x11 : Int) : spec_GraphOk_l0 x1 x9 x10 x11 =
    cond (decide (x11 < x10))
      (cond (inside x11 x9.length)
        (cond (decide (x11 > 0))
          (cond (inside (w64 (x11 - 1)) x1.2.length)
            (cond (decide ((x9.getD x11.toNat (0, 0)).1 < (x1.2.getD ((w64 (x11 - 1)).toNat) (0, 0)).1))
              (some false)
              (cond (inside (w64 (x11 - 1)) x1.2.length)
                (cond ((((x9.getD x11.toNat (0, 0)).1) : Int) == ((x1.2.getD ((w64 (x11 - 1)).toNat) (0, 0)).1))
                  (cond (inside (w64 (x11 - 1)) x1.2.length)
                    (cond (decide ((x9.getD x11.toNat (0, 0)).2 < (x1.2.getD ((w64 (x11 - 1)).toNat) (0, 0)).2))
                      (some false)
                      (spec_GraphOk_c8 x1 x9 x10 x11))
                    (none))
                  (spec_GraphOk_c8 x1 x9 x10 x11))
                (none)))
            (none))
          (spec_GraphOk_c8 x1 x9 x10 x11))
        (none))
      ((spec_l02Reach x1).bind fun r2 =>
        some (((r2.length : Int) : Int) == x1.1)) :=
  (at_eq Γ X 9 [1, 1, 0, 1, 0] _).trans (by kernel_rfl)
theorem spec_GraphOk_c8_eq (x1 : (Int × (List (Int × Int)))) (x9 : (List (Int × Int))) (x10 : Int) (x11 : Int) : spec_GraphOk_c8 x1 x9 x10 x11 =
    spec_GraphOk_l0 x1 x9 x10 (w64 (x11 + 1)) :=
  (at_eq Γ X 9 [1, 1, 0, 1, 0, 0, 1, 1, 1] _).trans (by kernel_rfl)
theorem spec_MorphismOk_eq (a0 : (Int × (List (Int × Int)))) (a1 : (Int × (List (Int × Int)))) (a2 : ((List Int) × (List Int))) : spec_MorphismOk a0 a1 a2 =
    (spec_GraphOk a0).bind fun r1 =>
      cond (!r1)
        (some false)
        ((spec_GraphOk a1).bind fun r2 =>
          cond (!r2)
            (some false)
            (cond (((a2.1.length : Int) : Int) != a0.1)
              (some false)
              (cond (((a2.2.length : Int) : Int) != (a0.2.length : Int))
                (some false)
                (spec_MorphismOk_l0 a0 a1 a2 a2.1 (a2.1.length : Int) 0)))) :=
  (den_eq Γ X 10 rfl _).trans (by kernel_rfl)
theorem spec_MorphismOk_l0_eq (x3 : (Int × (List (Int × Int)))) (x4 : (Int × (List (Int × Int)))) (x5 : ((List Int) × (List Int))) (x40 : (List Int)) (x41 : Int) (x42 : Int) : spec_MorphismOk_l0 x3 x4 x5 x40 x41 x42 =
    cond (decide (x42 < x41))
      (cond (inside x42 x40.length)
        ((spec_l01In (x40.getD x42.toNat 0) 0 (w64 (x4.1 - 1))).bind fun r3 =>
          cond (!r3)
            (some false)
            (spec_MorphismOk_l0 x3 x4 x5 x40 x41 (w64 (x42 + 1))))
        (none))
      (spec_MorphismOk_l2 x4 x5 x3.2 (x3.2.length : Int) 0) :=
  (at_eq Γ X 10 [1, 1, 0, 1, 0] _).trans (by kernel_rfl)
theorem spec_MorphismOk_l2_eq (x4 : (Int × (List (Int × Int)))) (x5 : ((List Int) × (List Int))) (x54 : (List (Int × Int))) (x55 : Int) (x56 : Int) : spec_MorphismOk_l2 x4 x5 x54 x55 x56 =
    cond (decide (x56 < x55))
      (cond (inside x56 x54.length)
        (cond (inside ((x54.getD x56.toNat (0, 0)).1) x5.1.length)
          (cond (inside ((x54.getD x56.toNat (0, 0)).2) x5.1.length)
            (cond (inside x56 x5.2.length)
              (cond (((x5.2.getD x56.toNat 0) : Int) == (-1))
                (cond (((x5.1.getD (((x54.getD x56.toNat (0, 0)).1).toNat) 0) : Int) != (x5.1.getD (((x54.getD x56.toNat (0, 0)).2).toNat) 0))
                  (some false)
                  (spec_MorphismOk_c20 x4 x5 x54 x55 x56))
                ((spec_l01In (x5.2.getD x56.toNat 0) 0 (w64 ((x4.2.length : Int) - 1))).bind fun r4 =>
                  cond (!r4)
                    (some false)
                    (cond (inside (x5.2.getD x56.toNat 0) x4.2.length)
                      (cond ((((x4.2.getD ((x5.2.getD x56.toNat 0).toNat) (0, 0)).1) : Int) != (imin (x5.1.getD (((x54.getD x56.toNat (0, 0)).1).toNat) 0) (x5.1.getD (((x54.getD x56.toNat (0, 0)).2).toNat) 0)))
                        (some false)
                        (cond (inside (x5.2.getD x56.toNat 0) x4.2.length)
                          (cond ((((x4.2.getD ((x5.2.getD x56.toNat 0).toNat) (0, 0)).2) : Int) != (imax (x5.1.getD (((x54.getD x56.toNat (0, 0)).1).toNat) 0) (x5.1.getD (((x54.getD x56.toNat (0, 0)).2).toNat) 0)))
                            (some false)
                            (spec_MorphismOk_c20 x4 x5 x54 x55 x56))
                          (none)))
                      (none))))
              (none))
            (none))
          (none))
        (none))
      (some true) :=
  (at_eq Γ X 10 [1, 1, 1, 0, 1, 0] _).trans (by kernel_rfl)
theorem spec_MorphismOk_c20_eq (x4 : (Int × (List (Int × Int)))) (x5 : ((List Int) × (List Int))) (x54 : (List (Int × Int))) (x55 : Int) (x56 : Int) : spec_MorphismOk_c20 x4 x5 x54 x55 x56 =
    spec_MorphismOk_l2 x4 x5 x54 x55 (w64 (x56 + 1)) :=
  (at_eq Γ X 10 [1, 1, 1, 0, 1, 0, 0, 1, 1, 1] _).trans (by kernel_rfl)
theorem spec_l16Over_eq (a0 : (Int × (List (Int × Int)))) (a1 : ((List Int) × (List Int))) (a2 : Int) (a3 : Int) : spec_l16Over a0 a1 a2 a3 =
    spec_l16Over_l0 a2 a3 a1 0 a0.2 (a0.2.length : Int) 0 :=
  (den_eq Γ X 11 rfl _).trans (by kernel_rfl)
theorem spec_l16Over_l0_eq (x2 : Int) (x3 : Int) (x5 : ((List Int) × (List Int))) (x9 : Int) (x13 : (List (Int × Int))) (x14 : Int) (x15 : Int) : spec_l16Over_l0 x2 x3 x5 x9 x13 x14 x15 =
    cond (decide (x15 < x14))
      (cond (inside x15 x13.length)
        (cond ((((x13.getD x15.toNat (0, 0)).1) : Int) == x2)
          (cond (inside x15 x5.2.length)
            (cond (((x5.2.getD x15.toNat 0) : Int) == x3)
              (spec_l16Over_l0 x2 x3 x5 (w64 (x9 + 1)) x13 x14 (w64 (x15 + 1)))
              (spec_l16Over_l0 x2 x3 x5 x9 x13 x14 (w64 (x15 + 1))))
            (none))
          (cond ((((x13.getD x15.toNat (0, 0)).2) : Int) == x2)
            (cond (inside x15 x5.2.length)
              (cond (((x5.2.getD x15.toNat 0) : Int) == x3)
                (spec_l16Over_l0 x2 x3 x5 (w64 (x9 + 1)) x13 x14 (w64 (x15 + 1)))
                (spec_l16Over_l0 x2 x3 x5 x9 x13 x14 (w64 (x15 + 1))))
              (none))
            (spec_l16Over_l0 x2 x3 x5 x9 x13 x14 (w64 (x15 + 1)))))
        (none))
      (some x9) :=
  (at_eq Γ X 11 [1, 1, 0, 1, 0] _).trans (by kernel_rfl)
theorem spec_l16Horizontal_eq (a0 : (Int × (List (Int × Int)))) (a1 : (Int × (List (Int × Int)))) (a2 : ((List Int) × (List Int))) (a3 : Int) : spec_l16Horizontal a0 a1 a2 a3 =
    spec_l16Horizontal_l0 a3 a0 a2 0 true a1.2 (a1.2.length : Int) 0 :=
  (den_eq Γ X 12 rfl _).trans (by kernel_rfl)
theorem spec_l16Horizontal_l0_eq (x3 : Int) (x4 : (Int × (List (Int × Int)))) (x6 : ((List Int) × (List Int))) (x9 : Int) (x10 : Bool) (x15 : (List (Int × Int))) (x16 : Int) (x17 : Int) : spec_l16Horizontal_l0 x3 x4 x6 x9 x10 x15 x16 x17 =
    cond (decide (x17 < x16))
      (cond (inside x17 x15.length)
        (cond (inside x3 x6.1.length)
          (cond ((((x15.getD x17.toNat (0, 0)).1) : Int) != (x6.1.getD x3.toNat 0))
            (cond (inside x3 x6.1.length)
              (cond ((((x15.getD x17.toNat (0, 0)).2) : Int) != (x6.1.getD x3.toNat 0))
                (spec_l16Horizontal_c12 x3 x4 x6 x9 x10 x15 x16 x17)
                ((spec_l16Over x4 x6 x3 x17).bind fun r1 =>
                  cond (!x10)
                    (cond ((r1 : Int) != x9)
                      (some (-1))
                      (spec_l16Horizontal_c12 x3 x4 x6 r1 false x15 x16 x17))
                    (spec_l16Horizontal_c12 x3 x4 x6 r1 false x15 x16 x17)))
              (none))
            ((spec_l16Over x4 x6 x3 x17).bind fun r2 =>
              cond (!x10)
                (cond ((r2 : Int) != x9)
                  (some (-1))
                  (spec_l16Horizontal_c12 x3 x4 x6 r2 false x15 x16 x17))
                (spec_l16Horizontal_c12 x3 x4 x6 r2 false x15 x16 x17)))
          (none))
        (none))
      (some x9) :=
  (at_eq Γ X 12 [1, 1, 1, 0, 1, 0] _).trans (by kernel_rfl)
theorem spec_l16Horizontal_c12_eq (x3 : Int) (x4 : (Int × (List (Int × Int)))) (x6 : ((List Int) × (List Int))) (x9 : Int) (x10 : Bool) (x15 : (List (Int × Int))) (x16 : Int) (x17 : Int) : spec_l16Horizontal_c12 x3 x4 x6 x9 x10 x15 x16 x17 =
    spec_l16Horizontal_l0 x3 x4 x6 x9 x10 x15 x16 (w64 (x17 + 1)) :=
  (at_eq Γ X 12 [1, 1, 1, 0, 1, 0, 0, 1, 1, 1] _).trans (by kernel_rfl)
theorem spec_IsHarmonic_eq (a0 : (Int × (List (Int × Int)))) (a1 : (Int × (List (Int × Int)))) (a2 : ((List Int) × (List Int))) : spec_IsHarmonic a0 a1 a2 =
    (spec_MorphismOk a0 a1 a2).bind fun r1 =>
      cond (!r1)
        (some false)
        (spec_IsHarmonic_l0 a0 a1 a2 0) :=
  (den_eq Γ X 13 rfl _).trans (by kernel_rfl)
theorem spec_IsHarmonic_l0_eq (x3 : (Int × (List (Int × Int)))) (x4 : (Int × (List (Int × Int)))) (x5 : ((List Int) × (List Int))) (x7 : Int) : spec_IsHarmonic_l0 x3 x4 x5 x7 =
    cond (decide (x7 < x3.1))
      ((spec_l16Horizontal x3 x4 x5 x7).bind fun r2 =>
        cond (decide (r2 < 0))
          (some false)
          (spec_IsHarmonic_l0 x3 x4 x5 (w64 (x7 + 1))))
      (some true) :=
  (at_eq Γ X 13 [1, 1, 0, 1, 0] _).trans (by kernel_rfl)
theorem spec_l16Count_eq (a0 : (Int × (List (Int × Int)))) (a1 : (Int × (List (Int × Int)))) (a2 : ((List Int) × (List Int))) : spec_l16Count a0 a1 a2 =
    cond (((a2.2.length : Int) : Int) == (a0.2.length : Int))
      ((spec_IsHarmonic a0 a1 a2).bind fun r1 =>
        cond (r1)
          (some 1)
          (some 0))
      (cond (inside (a2.2.length : Int) a0.2.length)
        (cond (inside ((a0.2.getD ((a2.2.length : Int).toNat) (0, 0)).1) a2.1.length)
          (cond (inside (a2.2.length : Int) a0.2.length)
            (cond (inside ((a0.2.getD ((a2.2.length : Int).toNat) (0, 0)).2) a2.1.length)
              (cond (((a2.1.getD (((a0.2.getD ((a2.2.length : Int).toNat) (0, 0)).1).toNat) 0) : Int) == (a2.1.getD (((a0.2.getD ((a2.2.length : Int).toNat) (0, 0)).2).toNat) 0))
                (cond (decide (([] : List Int).length + a2.2.length ≤ room))
                  (cond (decide ((([] : List Int) ++ a2.2).length + ([(-1)] : List Int).length ≤ room))
                    ((spec_l16Count a0 a1 (a2.1, (([] : List Int) ++ a2.2) ++ ([(-1)] : List Int))).bind fun r2 =>
                      some r2)
                    (none))
                  (none))
                (spec_l16Count_l0 a0 a1 a2 (a2.1.getD (((a0.2.getD ((a2.2.length : Int).toNat) (0, 0)).1).toNat) 0) (a2.1.getD (((a0.2.getD ((a2.2.length : Int).toNat) (0, 0)).2).toNat) 0) 0 a1.2 (a1.2.length : Int) 0))
              (none))
            (none))
          (none))
        (none)) :=
  (den_eq Γ X 14 rfl _).trans (by kernel_rfl)
theorem spec_l16Count_l0_eq (x3 : (Int × (List (Int × Int)))) (x4 : (Int × (List (Int × Int)))) (x5 : ((List Int) × (List Int))) (x8 : Int) (x9 : Int) (x10 : Int) (x61 : (List (Int × Int))) (x62 : Int) (x63 : Int) : spec_l16Count_l0 x3 x4 x5 x8 x9 x10 x61 x62 x63 =
    cond (decide (x63 < x62))
      (cond (inside x63 x61.length)
        (cond ((((x61.getD x63.toNat (0, 0)).1) : Int) == (imin x8 x9))
          (cond ((((x61.getD x63.toNat (0, 0)).2) : Int) == (imax x8 x9))
            (cond (decide (([] : List Int).length + x5.2.length ≤ room))
              (cond (decide ((([] : List Int) ++ x5.2).length + ([x63] : List Int).length ≤ room))
                ((spec_l16Count x3 x4 (x5.1, (([] : List Int) ++ x5.2) ++ ([x63] : List Int))).bind fun r3 =>
                  spec_l16Count_l0 x3 x4 x5 x8 x9 (w64 (x10 + r3)) x61 x62 (w64 (x63 + 1)))
                (none))
              (none))
            (spec_l16Count_l0 x3 x4 x5 x8 x9 x10 x61 x62 (w64 (x63 + 1))))
          (spec_l16Count_l0 x3 x4 x5 x8 x9 x10 x61 x62 (w64 (x63 + 1))))
        (none))
      (some x10) :=
  (at_eq Γ X 14 [1, 1, 1, 1, 1, 1, 1, 0, 1, 0] _).trans (by kernel_rfl)
theorem spec_CountMorphisms_eq (a0 : (Int × (List (Int × Int)))) (a1 : (Int × (List (Int × Int)))) : spec_CountMorphisms a0 a1 =
    (spec_GraphOk a0).bind fun r1 =>
      cond (!r1)
        (some (-1))
        ((spec_GraphOk a1).bind fun r2 =>
          cond (!r2)
            (some (-1))
            (cond (decide (a0.1 > 4))
              (some (-1))
              (cond (decide ((a0.2.length : Int) > 5))
                (some (-1))
                (cond (decide (a1.1 > 3))
                  (some (-1))
                  (cond (decide ((a1.2.length : Int) > 3))
                    (some (-1))
                    (spec_CountMorphisms_l0 a0 a1 1 0)))))) :=
  (den_eq Γ X 15 rfl _).trans (by kernel_rfl)
theorem spec_CountMorphisms_l0_eq (x2 : (Int × (List (Int × Int)))) (x3 : (Int × (List (Int × Int)))) (x5 : Int) (x6 : Int) : spec_CountMorphisms_l0 x2 x3 x5 x6 =
    cond (decide (x6 < x2.1))
      (spec_CountMorphisms_l0 x2 x3 (w64 (x5 * x3.1)) (w64 (x6 + 1)))
      (spec_CountMorphisms_l2 x2 x3 x5 0 0) :=
  (at_eq Γ X 15 [1, 1, 1, 0, 1, 0] _).trans (by kernel_rfl)
theorem spec_CountMorphisms_l2_eq (x2 : (Int × (List (Int × Int)))) (x3 : (Int × (List (Int × Int)))) (x5 : Int) (x7 : Int) (x8 : Int) : spec_CountMorphisms_l2 x2 x3 x5 x7 x8 =
    cond (decide (x8 < x5))
      (spec_CountMorphisms_l4 x2 x3 x5 x7 x8 ([] : List Int) x8 true 0)
      (some x7) :=
  (at_eq Γ X 15 [1, 1, 1, 1, 1, 0, 1, 0] _).trans (by kernel_rfl)
theorem spec_CountMorphisms_l4_eq (x2 : (Int × (List (Int × Int)))) (x3 : (Int × (List (Int × Int)))) (x5 : Int) (x7 : Int) (x8 : Int) (x9 : (List Int)) (x10 : Int) (x11 : Bool) (x12 : Int) : spec_CountMorphisms_l4 x2 x3 x5 x7 x8 x9 x10 x11 x12 =
    cond (decide (x12 < x2.1))
      (cond (decide (x3.1 = 0))
        (none)
        (cond (decide (x9.length + ([Int.tmod x10 x3.1] : List Int).length ≤ room))
          (cond (decide (x3.1 = 0))
            (none)
            (cond (x11)
              (cond (inside x12 (x9 ++ ([Int.tmod x10 x3.1] : List Int)).length)
                (cond (inside 0 (x9 ++ ([Int.tmod x10 x3.1] : List Int)).length)
                  (spec_CountMorphisms_l4 x2 x3 x5 x7 x8 (x9 ++ ([Int.tmod x10 x3.1] : List Int)) (w64 (Int.tdiv x10 x3.1)) ((((x9 ++ ([Int.tmod x10 x3.1] : List Int)).getD x12.toNat 0) : Int) == ((x9 ++ ([Int.tmod x10 x3.1] : List Int)).getD 0 0)) (w64 (x12 + 1)))
                  (none))
                (none))
              (spec_CountMorphisms_l4 x2 x3 x5 x7 x8 (x9 ++ ([Int.tmod x10 x3.1] : List Int)) (w64 (Int.tdiv x10 x3.1)) false (w64 (x12 + 1)))))
          (none)))
      (cond (!x11)
        ((spec_l16Count x2 x3 (x9, ([] : List Int))).bind fun r3 =>
          spec_CountMorphisms_l2 x2 x3 x5 (w64 (x7 + r3)) (w64 (x8 + 1)))
        (spec_CountMorphisms_l2 x2 x3 x5 x7 (w64 (x8 + 1)))) :=
  (at_eq Γ X 15 [1, 1, 1, 1, 1, 0, 1, 0, 0, 1, 0, 0, 1, 1, 1, 0, 1, 0] _).trans (by kernel_rfl)
theorem impl_within_eq (a0 : Int) (a1 : Int) (a2 : Int) : impl_within a0 a1 a2 =
    cond (decide (a0 ≥ a1))
      (some (decide (a0 ≤ a2)))
      (some false) :=
  (den_eq Γ X 16 rfl _).trans (by kernel_rfl)
theorem impl_EdgesOk_eq (a0 : (Int × (List (Int × Int)))) : impl_EdgesOk a0 =
    (impl_within a0.1 1 6).bind fun r1 =>
      cond (!r1)
        (some false)
        (cond (decide ((a0.2.length : Int) > 12))
          (some false)
          (impl_EdgesOk_l0 a0 a0.2 (a0.2.length : Int) 0)) :=
  (den_eq Γ X 17 rfl _).trans (by kernel_rfl)
theorem impl_EdgesOk_l0_eq (x1 : (Int × (List (Int × Int)))) (x16 : (List (Int × Int))) (x17 : Int) (x18 : Int) : impl_EdgesOk_l0 x1 x16 x17 x18 =
    cond (decide (x18 < x17))
      (cond (inside x18 x16.length)
        (cond (decide ((x16.getD x18.toNat (0, 0)).1 < 0))
          (some false)
          (cond (decide ((x16.getD x18.toNat (0, 0)).1 ≥ (x16.getD x18.toNat (0, 0)).2))
            (some false)
            (cond (decide ((x16.getD x18.toNat (0, 0)).2 ≥ x1.1))
              (some false)
              (impl_EdgesOk_l0 x1 x16 x17 (w64 (x18 + 1))))))
        (none))
      (some true) :=
  (at_eq Γ X 17 [1, 1, 0, 1, 0] _).trans (by kernel_rfl)
theorem cmp_isNaN_int_eq (a0 : Int) : cmp_isNaN_int a0 =
    some ((a0 : Int) != a0) :=
  (den_eq Γ X 18 rfl _).trans (by kernel_rfl)
theorem cmp_Compare_int_eq (a0 : Int) (a1 : Int) : cmp_Compare_int a0 a1 =
    (cmp_isNaN_int a0).bind fun r1 =>
      (cmp_isNaN_int a1).bind fun r2 =>
        cond (r1)
          (cond (r2)
            (some 0)
            (some (-1)))
          (cond (r2)
            (some 1)
            (cond (decide (a0 < a1))
              (some (-1))
              (cond (decide (a0 > a1))
                (some 1)
                (some 0)))) :=
  (den_eq Γ X 19 rfl _).trans (by kernel_rfl)
theorem impl_compareEdges_eq (a0 : (Int × Int)) (a1 : (Int × Int)) : impl_compareEdges a0 a1 =
    (cmp_Compare_int a0.1 a1.1).bind fun r1 =>
      cond ((r1 : Int) != 0)
        (some r1)
        ((cmp_Compare_int a0.2 a1.2).bind fun r2 =>
          some r2) :=
  (den_eq Γ X 20 rfl _).trans (by kernel_rfl)
theorem impl_Edge__compareEdges_eq (a0 : (List (Int × Int))) : impl_Edge__compareEdges a0 =
    impl_Edge__compareEdges_l0 a0 (w64 ((a0.length : Int) - 1)) :=
  (den_eq Γ X 21 rfl _).trans (by kernel_rfl)
theorem impl_Edge__compareEdges_l0_eq (x0 : (List (Int × Int))) (x5 : Int) : impl_Edge__compareEdges_l0 x0 x5 =
    cond (decide (x5 > 0))
      (cond (inside x5 x0.length)
        (cond (inside (w64 (x5 - 1)) x0.length)
          ((impl_compareEdges (x0.getD x5.toNat (0, 0)) (x0.getD ((w64 (x5 - 1)).toNat) (0, 0))).bind fun r1 =>
            cond (decide (r1 < 0))
              (some false)
              (impl_Edge__compareEdges_l0 x0 (w64 (x5 - 1))))
          (none))
        (none))
      (some true) :=
  (at_eq Γ X 21 [1, 0, 1, 0] _).trans (by kernel_rfl)
theorem impl_connected_eq (a0 : Int) (a1 : (List (Int × Int))) : impl_connected a0 a1 =
    impl_connected_l0 a0 a1 1 a0 0 :=
  (den_eq Γ X 22 rfl _).trans (by kernel_rfl)
theorem impl_connected_l0_eq (x0 : Int) (x1 : (List (Int × Int))) (x5 : Int) (x8 : Int) (x9 : Int) : impl_connected_l0 x0 x1 x5 x8 x9 =
    cond (decide (x9 < x8))
      (impl_connected_l2 x0 x1 x5 x8 x9 x1 (x1.length : Int) 0)
      (cond (decide (x0 < 0))
        (none)
        (some ((x5 : Int) == (w64 ((w64 (1 * 2 ^ (min x0.toNat 64))) - 1))))) :=
  (at_eq Γ X 22 [1, 1, 0, 1, 0] _).trans (by kernel_rfl)
theorem impl_connected_l2_eq (x0 : Int) (x1 : (List (Int × Int))) (x5 : Int) (x8 : Int) (x9 : Int) (x11 : (List (Int × Int))) (x12 : Int) (x13 : Int) : impl_connected_l2 x0 x1 x5 x8 x9 x11 x12 x13 =
    cond (decide (x13 < x12))
      (cond (inside x13 x11.length)
        (cond (decide ((x11.getD x13.toNat (0, 0)).1 < 0))
          (none)
          (cond (((bits .and .i64 (Int.fdiv x5 (2 ^ (min ((x11.getD x13.toNat (0, 0)).1).toNat 64))) 1) : Int) == 1)
            (cond (decide ((x11.getD x13.toNat (0, 0)).1 < 0))
              (none)
              (cond (decide ((x11.getD x13.toNat (0, 0)).2 < 0))
                (none)
                (impl_connected_l2 x0 x1 (bits .or .i64 x5 (bits .or .i64 (w64 (1 * 2 ^ (min ((x11.getD x13.toNat (0, 0)).1).toNat 64))) (w64 (1 * 2 ^ (min ((x11.getD x13.toNat (0, 0)).2).toNat 64))))) x8 x9 x11 x12 (w64 (x13 + 1)))))
            (cond (decide ((x11.getD x13.toNat (0, 0)).2 < 0))
              (none)
              (cond (((bits .and .i64 (Int.fdiv x5 (2 ^ (min ((x11.getD x13.toNat (0, 0)).2).toNat 64))) 1) : Int) == 1)
                (cond (decide ((x11.getD x13.toNat (0, 0)).1 < 0))
                  (none)
                  (cond (decide ((x11.getD x13.toNat (0, 0)).2 < 0))
                    (none)
                    (impl_connected_l2 x0 x1 (bits .or .i64 x5 (bits .or .i64 (w64 (1 * 2 ^ (min ((x11.getD x13.toNat (0, 0)).1).toNat 64))) (w64 (1 * 2 ^ (min ((x11.getD x13.toNat (0, 0)).2).toNat 64))))) x8 x9 x11 x12 (w64 (x13 + 1)))))
                (impl_connected_l2 x0 x1 x5 x8 x9 x11 x12 (w64 (x13 + 1)))))))
        (none))
      (impl_connected_l0 x0 x1 x5 x8 (w64 (x9 + 1))) :=
  (at_eq Γ X 22 [1, 1, 0, 1, 0, 0, 1, 1, 0, 0, 1, 0] _).trans (by kernel_rfl)
theorem impl_GraphOk_eq (a0 : (Int × (List (Int × Int)))) : impl_GraphOk a0 =
    (impl_EdgesOk a0).bind fun r1 =>
      cond (r1)
        ((impl_Edge__compareEdges a0.2).bind fun r2 =>
          cond (r2)
            ((impl_connected a0.1 a0.2).bind fun r3 =>
              some r3)
            (some false))
        (some false) :=
  (den_eq Γ X 23 rfl _).trans (by kernel_rfl)
theorem impl_allWithin_eq (a0 : (List Int)) (a1 : Int) (a2 : Int) : impl_allWithin a0 a1 a2 =
    impl_allWithin_l0 a1 a2 a0 (a0.length : Int) 0 :=
  (den_eq Γ X 24 rfl _).trans (by kernel_rfl)
theorem impl_allWithin_l0_eq (x1 : Int) (x2 : Int) (x9 : (List Int)) (x10 : Int) (x11 : Int) : impl_allWithin_l0 x1 x2 x9 x10 x11 =
    cond (decide (x11 < x10))
      (cond (inside x11 x9.length)
        ((impl_within (x9.getD x11.toNat 0) x1 x2).bind fun r1 =>
          cond (!r1)
            (some false)
            (impl_allWithin_l0 x1 x2 x9 x10 (w64 (x11 + 1))))
        (none))
      (some true) :=
  (at_eq Γ X 24 [1, 0, 1, 0] _).trans (by kernel_rfl)
theorem impl_MorphismOk_eq (a0 : (Int × (List (Int × Int)))) (a1 : (Int × (List (Int × Int)))) (a2 : ((List Int) × (List Int))) : impl_MorphismOk a0 a1 a2 =
    (impl_GraphOk a0).bind fun r1 =>
      cond (!r1)
        (some false)
        ((impl_GraphOk a1).bind fun r2 =>
          cond (!r2)
            (some false)
            (cond (((a2.1.length : Int) : Int) != a0.1)
              (some false)
              (cond (((a2.2.length : Int) : Int) != (a0.2.length : Int))
                (some false)
                ((impl_allWithin a2.1 0 (w64 (a1.1 - 1))).bind fun r3 =>
                  cond (!r3)
                    (some false)
                    ((impl_allWithin a2.2 (-1) (w64 ((a1.2.length : Int) - 1))).bind fun r4 =>
                      cond (!r4)
                        (some false)
                        (impl_MorphismOk_c3 a0 a1 a2)))))) :=
  (den_eq Γ X 25 rfl _).trans (by kernel_rfl)
theorem impl_MorphismOk_l0_eq (x3 : (Int × (List (Int × Int)))) (x4 : (Int × (List (Int × Int)))) (x5 : ((List Int) × (List Int))) (x56 : (List Int)) (x57 : Int) (x58 : Int) : impl_MorphismOk_l0 x3 x4 x5 x56 x57 x58 =
    cond (decide (x58 < x57))
      (cond (inside x58 x56.length)
        (cond (inside x58 x3.2.length)
          (cond (inside ((x3.2.getD x58.toNat (0, 0)).1) x5.1.length)
            (cond (inside x58 x3.2.length)
              (cond (inside ((x3.2.getD x58.toNat (0, 0)).2) x5.1.length)
                (cond (((x56.getD x58.toNat 0) : Int) == (-1))
                  (cond (((x5.1.getD (((x3.2.getD x58.toNat (0, 0)).1).toNat) 0) : Int) != (x5.1.getD (((x3.2.getD x58.toNat (0, 0)).2).toNat) 0))
                    (some false)
                    (cond (decide (x56.getD x58.toNat 0 ≥ 0))
                      (cond (inside (x56.getD x58.toNat 0) x4.2.length)
                        (cond (!(((((x4.2.getD ((x56.getD x58.toNat 0).toNat) (0, 0)).1) : Int) == (imin (x5.1.getD (((x3.2.getD x58.toNat (0, 0)).1).toNat) 0) (x5.1.getD (((x3.2.getD x58.toNat (0, 0)).2).toNat) 0))) && ((((x4.2.getD ((x56.getD x58.toNat 0).toNat) (0, 0)).2) : Int) == (imax (x5.1.getD (((x3.2.getD x58.toNat (0, 0)).1).toNat) 0) (x5.1.getD (((x3.2.getD x58.toNat (0, 0)).2).toNat) 0)))))
                          (some false)
                          (impl_MorphismOk_c9 x3 x4 x5 x56 x57 x58))
                        (none))
                      (impl_MorphismOk_c9 x3 x4 x5 x56 x57 x58)))
                  (cond (decide (x56.getD x58.toNat 0 ≥ 0))
                    (cond (inside (x56.getD x58.toNat 0) x4.2.length)
                      (cond (!(((((x4.2.getD ((x56.getD x58.toNat 0).toNat) (0, 0)).1) : Int) == (imin (x5.1.getD (((x3.2.getD x58.toNat (0, 0)).1).toNat) 0) (x5.1.getD (((x3.2.getD x58.toNat (0, 0)).2).toNat) 0))) && ((((x4.2.getD ((x56.getD x58.toNat 0).toNat) (0, 0)).2) : Int) == (imax (x5.1.getD (((x3.2.getD x58.toNat (0, 0)).1).toNat) 0) (x5.1.getD (((x3.2.getD x58.toNat (0, 0)).2).toNat) 0)))))
                        (some false)
                        (impl_MorphismOk_c9 x3 x4 x5 x56 x57 x58))
                      (none))
                    (impl_MorphismOk_c9 x3 x4 x5 x56 x57 x58)))
                (none))
              (none))
            (none))
          (none))
        (none))
      (some true) :=
  (at_eq Γ X 25 [1, 1, 0, 1, 0] _).trans (by kernel_rfl)
theorem impl_MorphismOk_c3_eq (x3 : (Int × (List (Int × Int)))) (x4 : (Int × (List (Int × Int)))) (x5 : ((List Int) × (List Int))) : impl_MorphismOk_c3 x3 x4 x5 =
    impl_MorphismOk_l0 x3 x4 x5 x5.2 (x5.2.length : Int) 0 :=
  (at_eq Γ X 25 [1, 1, 0, 0] _).trans (by kernel_rfl)
theorem impl_MorphismOk_c9_eq (x3 : (Int × (List (Int × Int)))) (x4 : (Int × (List (Int × Int)))) (x5 : ((List Int) × (List Int))) (x56 : (List Int)) (x57 : Int) (x58 : Int) : impl_MorphismOk_c9 x3 x4 x5 x56 x57 x58 =
    impl_MorphismOk_l0 x3 x4 x5 x56 x57 (w64 (x58 + 1)) :=
  (at_eq Γ X 25 [1, 1, 0, 1, 0, 0, 1, 1, 1] _).trans (by kernel_rfl)
theorem impl_isAt_eq (a0 : (Int × (List (Int × Int)))) (a1 : Int) (a2 : Int) : impl_isAt a0 a1 a2 =
    (impl_within a1 0 (w64 ((a0.2.length : Int) - 1))).bind fun r1 =>
      cond (r1)
        (cond (inside a1 a0.2.length)
          (cond ((((a0.2.getD a1.toNat (0, 0)).1) : Int) == a2)
            (some true)
            (cond (inside a1 a0.2.length)
              (some ((((a0.2.getD a1.toNat (0, 0)).2) : Int) == a2))
              (none)))
          (none))
        (some false) :=
  (den_eq Γ X 26 rfl _).trans (by kernel_rfl)
theorem impl_multiplicities_eq (a0 : (Int × (List (Int × Int)))) (a1 : (Int × (List (Int × Int)))) (a2 : ((List Int) × (List Int))) (a3 : Int) : impl_multiplicities a0 a1 a2 a3 =
    impl_multiplicities_l0 a3 a0 a1 a2 ([] : List Int) (a1.2.length : Int) 0 :=
  (den_eq Γ X 27 rfl _).trans (by kernel_rfl)
theorem impl_multiplicities_l0_eq (x3 : Int) (x4 : (Int × (List (Int × Int)))) (x5 : (Int × (List (Int × Int)))) (x6 : ((List Int) × (List Int))) (x9 : (List Int)) (x16 : Int) (x17 : Int) : impl_multiplicities_l0 x3 x4 x5 x6 x9 x16 x17 =
    cond (decide (x17 < x16))
      (cond (inside x3 x6.1.length)
        ((impl_isAt x5 x17 (x6.1.getD x3.toNat 0)).bind fun r1 =>
          cond (!r1)
            (impl_multiplicities_l0 x3 x4 x5 x6 x9 x16 (w64 (x17 + 1)))
            (impl_multiplicities_l2 x3 x4 x5 x6 x9 x17 0 x16 x17 x6.2 (x6.2.length : Int) 0))
        (none))
      (some x9) :=
  (at_eq Γ X 27 [1, 1, 0, 1, 0] _).trans (by kernel_rfl)
theorem impl_multiplicities_l2_eq (x3 : Int) (x4 : (Int × (List (Int × Int)))) (x5 : (Int × (List (Int × Int)))) (x6 : ((List Int) × (List Int))) (x9 : (List Int)) (x10 : Int) (x11 : Int) (x16 : Int) (x17 : Int) (x30 : (List Int)) (x31 : Int) (x32 : Int) : impl_multiplicities_l2 x3 x4 x5 x6 x9 x10 x11 x16 x17 x30 x31 x32 =
    cond (decide (x32 < x31))
      (cond (inside x32 x30.length)
        (cond (((x30.getD x32.toNat 0) : Int) == x10)
          ((impl_isAt x4 x32 x3).bind fun r2 =>
            cond (r2)
              (impl_multiplicities_l2 x3 x4 x5 x6 x9 x10 (w64 (x11 + 1)) x16 x17 x30 x31 (w64 (x32 + 1)))
              (impl_multiplicities_l2 x3 x4 x5 x6 x9 x10 x11 x16 x17 x30 x31 (w64 (x32 + 1))))
          (impl_multiplicities_l2 x3 x4 x5 x6 x9 x10 x11 x16 x17 x30 x31 (w64 (x32 + 1))))
        (none))
      (cond (decide (x9.length + ([x11] : List Int).length ≤ room))
        (impl_multiplicities_l0 x3 x4 x5 x6 (x9 ++ ([x11] : List Int)) x16 (w64 (x17 + 1)))
        (none)) :=
  (at_eq Γ X 27 [1, 1, 0, 1, 0, 0, 1, 1, 0, 0, 1, 1, 1, 0, 1, 0] _).trans (by kernel_rfl)
theorem slices_Min_int_int_eq (a0 : (List Int)) : slices_Min_int_int a0 =
    cond (decide ((a0.length : Int) < 1))
      (none)
      (cond (inside 0 a0.length)
        (slices_Min_int_int_l0 a0 (a0.getD 0 0) 1)
        (none)) :=
  (den_eq Γ X 28 rfl _).trans (by kernel_rfl)
theorem slices_Min_int_int_l0_eq (x0 : (List Int)) (x3 : Int) (x4 : Int) : slices_Min_int_int_l0 x0 x3 x4 =
    cond (decide (x4 < (x0.length : Int)))
      (cond (inside x4 x0.length)
        (slices_Min_int_int_l0 x0 (imin x3 (x0.getD x4.toNat 0)) (w64 (x4 + 1)))
        (none))
      (some x3) :=
  (at_eq Γ X 28 [1, 1, 1, 0, 1, 0] _).trans (by kernel_rfl)
theorem slices_Max_int_int_eq (a0 : (List Int)) : slices_Max_int_int a0 =
    cond (decide ((a0.length : Int) < 1))
      (none)
      (cond (inside 0 a0.length)
        (slices_Max_int_int_l0 a0 (a0.getD 0 0) 1)
        (none)) :=
  (den_eq Γ X 29 rfl _).trans (by kernel_rfl)
theorem slices_Max_int_int_l0_eq (x0 : (List Int)) (x3 : Int) (x4 : Int) : slices_Max_int_int_l0 x0 x3 x4 =
    cond (decide (x4 < (x0.length : Int)))
      (cond (inside x4 x0.length)
        (slices_Max_int_int_l0 x0 (imax x3 (x0.getD x4.toNat 0)) (w64 (x4 + 1)))
        (none))
      (some x3) :=
  (at_eq Γ X 29 [1, 1, 1, 0, 1, 0] _).trans (by kernel_rfl)
theorem impl_IsHarmonic_eq (a0 : (Int × (List (Int × Int)))) (a1 : (Int × (List (Int × Int)))) (a2 : ((List Int) × (List Int))) : impl_IsHarmonic a0 a1 a2 =
    (impl_MorphismOk a0 a1 a2).bind fun r1 =>
      cond (!r1)
        (some false)
        (impl_IsHarmonic_l0 a0 a1 a2 (a2.1.length : Int) 0) :=
  (den_eq Γ X 30 rfl _).trans (by kernel_rfl)
theorem impl_IsHarmonic_l0_eq (x3 : (Int × (List (Int × Int)))) (x4 : (Int × (List (Int × Int)))) (x5 : ((List Int) × (List Int))) (x16 : Int) (x17 : Int) : impl_IsHarmonic_l0 x3 x4 x5 x16 x17 =
    cond (decide (x17 < x16))
      ((impl_multiplicities x3 x4 x5 x17).bind fun r2 =>
        cond (decide ((r2.length : Int) > 0))
          ((slices_Min_int_int r2).bind fun r3 =>
            (slices_Max_int_int r2).bind fun r4 =>
              cond ((r3 : Int) != r4)
                (some false)
                (impl_IsHarmonic_l0 x3 x4 x5 x16 (w64 (x17 + 1))))
          (impl_IsHarmonic_l0 x3 x4 x5 x16 (w64 (x17 + 1))))
      (some true) :=
  (at_eq Γ X 30 [1, 1, 0, 1, 0] _).trans (by kernel_rfl)
theorem impl_CountMorphisms_eq (a0 : (Int × (List (Int × Int)))) (a1 : (Int × (List (Int × Int)))) : impl_CountMorphisms a0 a1 = Lb.cm impl_GraphOk impl_IsHarmonic slices_Min_int_int slices_Max_int_int a0 a1 := den_ext Γ X 31 rfl _
theorem laws_eqEdge_eq (a0 : (Int × Int)) (a1 : (Int × Int)) : laws_eqEdge a0 a1 =
    cond ((a0.1 : Int) != a1.1)
      (some false)
      (cond ((a0.2 : Int) != a1.2)
        (some false)
        (some true)) :=
  (den_eq Γ X 32 rfl _).trans (by kernel_rfl)
theorem laws_eqEdgeS_eq (a0 : (List (Int × Int))) (a1 : (List (Int × Int))) : laws_eqEdgeS a0 a1 =
    cond (((a0.length : Int) : Int) != (a1.length : Int))
      (some false)
      (laws_eqEdgeS_l0 a0 a1 0) :=
  (den_eq Γ X 33 rfl _).trans (by kernel_rfl)
theorem laws_eqEdgeS_l0_eq (x0 : (List (Int × Int))) (x1 : (List (Int × Int))) (x5 : Int) : laws_eqEdgeS_l0 x0 x1 x5 =
    cond (decide (x5 < (x0.length : Int)))
      (cond (inside x5 x0.length)
        (cond (inside x5 x1.length)
          ((laws_eqEdge (x0.getD x5.toNat (0, 0)) (x1.getD x5.toNat (0, 0))).bind fun r1 =>
            cond (!r1)
              (some false)
              (laws_eqEdgeS_l0 x0 x1 (w64 (x5 + 1))))
          (none))
        (none))
      (some true) :=
  (at_eq Γ X 33 [1, 1, 0, 1, 0] _).trans (by kernel_rfl)
theorem laws_eqGraph_eq (a0 : (Int × (List (Int × Int)))) (a1 : (Int × (List (Int × Int)))) : laws_eqGraph a0 a1 =
    cond ((a0.1 : Int) != a1.1)
      (some false)
      ((laws_eqEdgeS a0.2 a1.2).bind fun r1 =>
        cond (!r1)
          (some false)
          (some true)) :=
  (den_eq Γ X 34 rfl _).trans (by kernel_rfl)
theorem laws_FnExactCountMorphisms_eq (a0 : (Int × (List (Int × Int)))) (a1 : (Int × (List (Int × Int)))) : laws_FnExactCountMorphisms a0 a1 =
    (laws_szGraph a0 1048576).bind fun r1 =>
      cond (decide (r1 < 0))
        (some true)
        ((laws_szGraph a1 r1).bind fun r2 =>
          cond (decide (r2 < 0))
            (some true)
            ((laws_toGraph a0).bind fun r3 =>
              (laws_toGraph a1).bind fun r4 =>
                (spec_CountMorphisms r3 r4).bind fun r5 =>
                  (laws_toGraph a0).bind fun r6 =>
                    (laws_toGraph a1).bind fun r7 =>
                      (impl_CountMorphisms r6 r7).bind fun r8 =>
                        cond ((r8 : Int) != r5)
                          (some false)
                          ((laws_toGraph a0).bind fun r9 =>
                            (laws_eqGraph r6 r9).bind fun r10 =>
                              cond (!r10)
                                (some false)
                                (laws_FnExactCountMorphisms_c16 a1 r7)))) :=
  (den_eq Γ X 35 rfl _).trans (by kernel_rfl)
theorem laws_FnExactCountMorphisms_c16_eq (x3 : (Int × (List (Int × Int)))) (x8 : (Int × (List (Int × Int)))) : laws_FnExactCountMorphisms_c16 x3 x8 =
    (laws_toGraph x3).bind fun r11 =>
      (laws_eqGraph x8 r11).bind fun r12 =>
        cond (!r12)
          (some false)
          (some true) :=
  (at_eq Γ X 35 [1, 1, 1, 1, 1, 1, 1, 1, 1, 1, 1, 1, 0, 0] _).trans (by kernel_rfl)
theorem spec_l01New_eq (a0 : (List Int)) : spec_l01New a0 =
    spec_l01New_l0 a0 (w64 (2069 + (a0.length : Int))) 0 :=
  (den_eq Γ X 36 rfl _).trans (by kernel_rfl)
theorem spec_l01New_l0_eq (x0 : (List Int)) (x3 : Int) (x4 : Int) : spec_l01New_l0 x0 x3 x4 =
    cond (decide (x4 < (x0.length : Int)))
      (cond (decide (x4 < 4000))
        (cond (inside x4 x0.length)
          (spec_l01New_l0 x0 (bits .and .i64 (w64 ((w64 ((w64 (x3 * 97)) + (w64 (x0.getD x4.toNat 0)))) + 7)) 1073741823) (w64 (x4 + 1)))
          (none))
        (some (x0, 0, x3)))
      (some (x0, 0, x3)) :=
  (at_eq Γ X 36 [1, 1, 0, 1, 0] _).trans (by kernel_rfl)
theorem spec_l01Byte_eq (a0 : ((List Int) × (Int × Int))) : spec_l01Byte a0 =
    cond (decide (a0.2.1 < (a0.1.length : Int)))
      (cond (inside a0.2.1 a0.1.length)
        (spec_l01Byte_c5 (a0.1, a0.2.1, w64 ((w64 (a0.2.2 * 6364136223846793005)) + 1442695040888963407)) (bits .and .i64 (w64 ((bits .and .i64 (bits .xor .i64 (Int.fdiv (w64 ((w64 (a0.2.2 * 6364136223846793005)) + 1442695040888963407)) (2 ^ 33)) (Int.fdiv (w64 ((w64 (a0.2.2 * 6364136223846793005)) + 1442695040888963407)) (2 ^ 45))) 255) + (w64 (a0.1.getD a0.2.1.toNat 0)))) 255))
        (none))
      (some (bits .and .i64 (bits .xor .i64 (Int.fdiv (w64 ((w64 (a0.2.2 * 6364136223846793005)) + 1442695040888963407)) (2 ^ 33)) (Int.fdiv (w64 ((w64 (a0.2.2 * 6364136223846793005)) + 1442695040888963407)) (2 ^ 45))) 255, a0.1, a0.2.1, w64 ((w64 (a0.2.2 * 6364136223846793005)) + 1442695040888963407))) :=
  (den_eq Γ X 37 rfl _).trans (by kernel_rfl)
theorem spec_l01Byte_c5_eq (x0 : ((List Int) × (Int × Int))) (x3 : Int) : spec_l01Byte_c5 x0 x3 =
    some (x3, x0.1, w64 (x0.2.1 + 1), x0.2.2) :=
  (at_eq Γ X 37 [1, 1, 1, 0, 1, 0, 1] _).trans (by kernel_rfl)
theorem spec_l01Below_eq (a0 : ((List Int) × (Int × Int))) (a1 : Int) : spec_l01Below a0 a1 =
    cond (decide (a1 ≤ 0))
      (some (0, a0))
      (cond (decide (a1 ≤ 256))
        ((spec_l01Byte a0).bind fun r1 =>
          cond (decide (a1 = 0))
            (none)
            (some (Int.tmod r1.1 a1, r1.2)))
        ((spec_l01Byte a0).bind fun r2 =>
          (spec_l01Byte r2.2).bind fun r3 =>
            (spec_l01Byte r3.2).bind fun r4 =>
              (spec_l01Byte r4.2).bind fun r5 =>
                cond (decide (a1 = 0))
                  (none)
                  (some (Int.tmod (w64 ((w64 ((w64 ((w64 (r2.1 * 16777216)) + (w64 (r3.1 * 65536)))) + (w64 (r4.1 * 256)))) + r5.1)) a1, r5.2)))) :=
  (den_eq Γ X 38 rfl _).trans (by kernel_rfl)
theorem spec_l02Vert_eq (a0 : (Int × (List (Int × Int)))) (a1 : Int) : spec_l02Vert a0 a1 =
    cond (decide (a1 ≥ 0))
      (some (decide (a1 < a0.1)))
      (some false) :=
  (den_eq Γ X 39 rfl _).trans (by kernel_rfl)
theorem spec_Multiplicity_eq (a0 : (Int × (List (Int × Int)))) (a1 : Int) (a2 : Int) : spec_Multiplicity a0 a1 a2 =
    (spec_l02Vert a0 a1).bind fun r1 =>
      cond (!r1)
        (some 0)
        ((spec_l02Vert a0 a2).bind fun r2 =>
          cond (!r2)
            (some 0)
            (cond ((a1 : Int) == a2)
              (some 0)
              (spec_Multiplicity_l0 a1 a2 0 a0.2 (a0.2.length : Int) 0))) :=
  (den_eq Γ X 40 rfl _).trans (by kernel_rfl)
theorem spec_Multiplicity_l0_eq (x1 : Int) (x2 : Int) (x7 : Int) (x26 : (List (Int × Int))) (x27 : Int) (x28 : Int) : spec_Multiplicity_l0 x1 x2 x7 x26 x27 x28 =
    cond (decide (x28 < x27))
      (cond (inside x28 x26.length)
        (cond ((((x26.getD x28.toNat (0, 0)).1) : Int) == (imin x1 x2))
          (cond ((((x26.getD x28.toNat (0, 0)).2) : Int) == (imax x1 x2))
            (spec_Multiplicity_l0 x1 x2 (w64 (x7 + 1)) x26 x27 (w64 (x28 + 1)))
            (spec_Multiplicity_l0 x1 x2 x7 x26 x27 (w64 (x28 + 1))))
          (spec_Multiplicity_l0 x1 x2 x7 x26 x27 (w64 (x28 + 1))))
        (none))
      (some x7) :=
  (at_eq Γ X 40 [1, 1, 1, 0, 1, 0] _).trans (by kernel_rfl)
theorem spec_AddEdge_eq (a0 : (Int × (List (Int × Int)))) (a1 : Int) (a2 : Int) : spec_AddEdge a0 a1 a2 =
    (spec_GraphOk a0).bind fun r1 =>
      cond (!r1)
        (some ((0, ([] : List (Int × Int))), false))
        ((spec_l01In a1 0 (w64 (a0.1 - 1))).bind fun r2 =>
          cond (!r2)
            (some ((0, ([] : List (Int × Int))), false))
            ((spec_l01In a2 0 (w64 (a0.1 - 1))).bind fun r3 =>
              cond (!r3)
                (some ((0, ([] : List (Int × Int))), false))
                (cond ((a1 : Int) == a2)
                  (some ((0, ([] : List (Int × Int))), false))
                  (cond (((a0.2.length : Int) : Int) == 12)
                    (some ((0, ([] : List (Int × Int))), false))
                    (spec_AddEdge_c4 a0 (0, ([] : List (Int × Int))) (imin a1 a2, imax a1 a2)))))) :=
  (den_eq Γ X 41 rfl _).trans (by kernel_rfl)
theorem spec_AddEdge_l0_eq (x6 : (Int × (List (Int × Int)))) (x8 : (Int × Int)) (x9 : (Int × (List (Int × Int)))) (x10 : Bool) (x55 : (List (Int × Int))) (x56 : Int) (x57 : Int) : spec_AddEdge_l0 x6 x8 x9 x10 x55 x56 x57 =
    cond (decide (x57 < x56))
      (cond (inside x57 x55.length)
        (cond (!x10)
          (cond (decide ((x55.getD x57.toNat (0, 0)).1 > x8.1))
            (cond (decide (x9.2.length + ([x8] : List (Int × Int)).length ≤ room))
              (cond (decide ((x9.2 ++ ([x8] : List (Int × Int))).length + ([x55.getD x57.toNat (0, 0)] : List (Int × Int)).length ≤ room))
                (spec_AddEdge_c13 x6 x8 (x9.1, (x9.2 ++ ([x8] : List (Int × Int))) ++ ([x55.getD x57.toNat (0, 0)] : List (Int × Int))) true x55 x56 x57)
                (none))
              (none))
            (cond ((((x55.getD x57.toNat (0, 0)).1) : Int) == x8.1)
              (cond (decide ((x55.getD x57.toNat (0, 0)).2 > x8.2))
                (cond (decide (x9.2.length + ([x8] : List (Int × Int)).length ≤ room))
                  (cond (decide ((x9.2 ++ ([x8] : List (Int × Int))).length + ([x55.getD x57.toNat (0, 0)] : List (Int × Int)).length ≤ room))
                    (spec_AddEdge_c13 x6 x8 (x9.1, (x9.2 ++ ([x8] : List (Int × Int))) ++ ([x55.getD x57.toNat (0, 0)] : List (Int × Int))) true x55 x56 x57)
                    (none))
                  (none))
                (cond (decide (x9.2.length + ([x55.getD x57.toNat (0, 0)] : List (Int × Int)).length ≤ room))
                  (spec_AddEdge_c13 x6 x8 (x9.1, x9.2 ++ ([x55.getD x57.toNat (0, 0)] : List (Int × Int))) x10 x55 x56 x57)
                  (none)))
              (cond (decide (x9.2.length + ([x55.getD x57.toNat (0, 0)] : List (Int × Int)).length ≤ room))
                (spec_AddEdge_c13 x6 x8 (x9.1, x9.2 ++ ([x55.getD x57.toNat (0, 0)] : List (Int × Int))) x10 x55 x56 x57)
                (none))))
          (cond (decide (x9.2.length + ([x55.getD x57.toNat (0, 0)] : List (Int × Int)).length ≤ room))
            (spec_AddEdge_c13 x6 x8 (x9.1, x9.2 ++ ([x55.getD x57.toNat (0, 0)] : List (Int × Int))) x10 x55 x56 x57)
            (none)))
        (none))
      (cond (!x10)
        (cond (decide (x9.2.length + ([x8] : List (Int × Int)).length ≤ room))
          (some ((x9.1, x9.2 ++ ([x8] : List (Int × Int))), true))
          (none))
        (some (x9, true))) :=
  (at_eq Γ X 41 [1, 1, 1, 1, 1, 0, 1, 0] _).trans (by kernel_rfl)
theorem spec_AddEdge_c4_eq (x3 : (Int × (List (Int × Int)))) (x6 : (Int × (List (Int × Int)))) (x8 : (Int × Int)) : spec_AddEdge_c4 x3 x6 x8 =
    spec_AddEdge_l0 x6 x8 (x3.1, ([] : List (Int × Int))) false x3.2 (x3.2.length : Int) 0 :=
  (at_eq Γ X 41 [1, 1, 1, 0] _).trans (by kernel_rfl)
theorem spec_AddEdge_c13_eq (x6 : (Int × (List (Int × Int)))) (x8 : (Int × Int)) (x9 : (Int × (List (Int × Int)))) (x10 : Bool) (x55 : (List (Int × Int))) (x56 : Int) (x57 : Int) : spec_AddEdge_c13 x6 x8 x9 x10 x55 x56 x57 =
    spec_AddEdge_l0 x6 x8 x9 x10 x55 x56 (w64 (x57 + 1)) :=
  (at_eq Γ X 41 [1, 1, 1, 1, 1, 0, 1, 0, 0, 1, 1, 1] _).trans (by kernel_rfl)
theorem spec_l02Draw_eq (a0 : ((List Int) × (Int × Int))) (a1 : Int) : spec_l02Draw a0 a1 =
    (spec_l01Below a0 (w64 (a1 - 1))).bind fun r1 =>
      spec_l02Draw_l0 r1.2 (0, ([] : List (Int × Int))) (1, ([] : List (Int × Int))) (w64 (2 + r1.1)) 1 :=
  (den_eq Γ X 42 rfl _).trans (by kernel_rfl)
theorem spec_l02Draw_l0_eq (x0 : ((List Int) × (Int × Int))) (x4 : (Int × (List (Int × Int)))) (x5 : (Int × (List (Int × Int)))) (x6 : Int) (x7 : Int) : spec_l02Draw_l0 x0 x4 x5 x6 x7 =
    cond (decide (x7 < x6))
      ((spec_l01Below x0 x7).bind fun r2 =>
        cond (decide (x5.2.length + ([(r2.1, x7)] : List (Int × Int)).length ≤ room))
          (spec_l02Draw_l0 r2.2 x4 (w64 (x7 + 1), x5.2 ++ ([(r2.1, x7)] : List (Int × Int))) x6 (w64 (x7 + 1)))
          (none))
      (spec_l02Draw_l2 x0 x4 x5 x6 (x6, ([] : List (Int × Int))) 0) :=
  (at_eq Γ X 42 [1, 1, 1, 0, 1, 0] _).trans (by kernel_rfl)
theorem spec_l02Draw_l2_eq (x0 : ((List Int) × (Int × Int))) (x4 : (Int × (List (Int × Int)))) (x5 : (Int × (List (Int × Int)))) (x6 : Int) (x9 : (Int × (List (Int × Int)))) (x10 : Int) : spec_l02Draw_l2 x0 x4 x5 x6 x9 x10 =
    cond (decide (x10 < x6))
      (spec_l02Draw_l4 x0 x4 x5 x6 x9 x10 (w64 (x10 + 1)))
      ((spec_l01Below x0 5).bind fun r4 =>
        spec_l02Draw_l8 r4.2 x4 x6 x9 r4.1) :=
  (at_eq Γ X 42 [1, 1, 1, 1, 1, 0, 1, 0] _).trans (by kernel_rfl)
theorem spec_l02Draw_l4_eq (x0 : ((List Int) × (Int × Int))) (x4 : (Int × (List (Int × Int)))) (x5 : (Int × (List (Int × Int)))) (x6 : Int) (x9 : (Int × (List (Int × Int)))) (x10 : Int) (x11 : Int) : spec_l02Draw_l4 x0 x4 x5 x6 x9 x10 x11 =
    cond (decide (x11 < x6))
      ((spec_Multiplicity x5 x10 x11).bind fun r3 =>
        spec_l02Draw_l6 x0 x4 x5 x6 x9 x10 x11 r3)
      (spec_l02Draw_l2 x0 x4 x5 x6 x9 (w64 (x10 + 1))) :=
  (at_eq Γ X 42 [1, 1, 1, 1, 1, 0, 1, 0, 0, 1, 0, 0, 1, 0] _).trans (by kernel_rfl)
theorem spec_l02Draw_l6_eq (x0 : ((List Int) × (Int × Int))) (x4 : (Int × (List (Int × Int)))) (x5 : (Int × (List (Int × Int)))) (x6 : Int) (x9 : (Int × (List (Int × Int)))) (x10 : Int) (x11 : Int) (x12 : Int) : spec_l02Draw_l6 x0 x4 x5 x6 x9 x10 x11 x12 =
    cond (decide (x12 > 0))
      (cond (decide (x9.2.length + ([(x10, x11)] : List (Int × Int)).length ≤ room))
        (spec_l02Draw_l6 x0 x4 x5 x6 (x9.1, x9.2 ++ ([(x10, x11)] : List (Int × Int))) x10 x11 (w64 (x12 - 1)))
        (none))
      (spec_l02Draw_l4 x0 x4 x5 x6 x9 x10 (w64 (x11 + 1))) :=
  (at_eq Γ X 42 [1, 1, 1, 1, 1, 0, 1, 0, 0, 1, 0, 0, 1, 0, 0, 1, 0, 0, 1, 0] _).trans (by kernel_rfl)
theorem spec_l02Draw_l8_eq (x0 : ((List Int) × (Int × Int))) (x4 : (Int × (List (Int × Int)))) (x6 : Int) (x9 : (Int × (List (Int × Int)))) (x13 : Int) : spec_l02Draw_l8 x0 x4 x6 x9 x13 =
    cond (decide (x13 > 0))
      ((spec_l01Below x0 x6).bind fun r5 =>
        (spec_l01Below r5.2 (w64 (x6 - 1))).bind fun r6 =>
          cond (decide (x6 = 0))
            (none)
            ((spec_AddEdge x9 r5.1 (Int.tmod (w64 ((w64 (r5.1 + 1)) + r6.1)) x6)).bind fun r7 =>
              cond (r7.2)
                (spec_l02Draw_l8 r6.2 x4 x6 r7.1 (w64 (x13 - 1)))
                (spec_l02Draw_l8 r6.2 x4 x6 x9 (w64 (x13 - 1)))))
      (some (x9, x0)) :=
  (at_eq Γ X 42 [1, 1, 1, 1, 1, 1, 0, 1, 0] _).trans (by kernel_rfl)
theorem spec_MakeSmall_eq (a0 : (List Int)) : spec_MakeSmall a0 =
    (spec_l01New a0).bind fun r1 =>
      (spec_l02Draw r1 4).bind fun r2 =>
        some r2.1 :=
  (den_eq Γ X 43 rfl _).trans (by kernel_rfl)
theorem impl_IdentityMorphism_eq (a0 : (Int × (List (Int × Int)))) : impl_IdentityMorphism a0 =
    (impl_GraphOk a0).bind fun r1 =>
      cond (!r1)
        (some ((([] : List Int), ([] : List Int)), false))
        (impl_IdentityMorphism_l0 a0 (([] : List Int), ([] : List Int)) (([] : List Int), ([] : List Int)) 0) :=
  (den_eq Γ X 44 rfl _).trans (by kernel_rfl)
theorem impl_IdentityMorphism_l0_eq (x1 : (Int × (List (Int × Int)))) (x2 : ((List Int) × (List Int))) (x4 : ((List Int) × (List Int))) (x5 : Int) : impl_IdentityMorphism_l0 x1 x2 x4 x5 =
    cond (decide (x5 < x1.1))
      (cond (decide (x4.1.length + ([x5] : List Int).length ≤ room))
        (impl_IdentityMorphism_l0 x1 x2 (x4.1 ++ ([x5] : List Int), x4.2) (w64 (x5 + 1)))
        (none))
      (impl_IdentityMorphism_l2 x2 x4 (x1.2.length : Int) 0) :=
  (at_eq Γ X 44 [1, 1, 1, 0, 1, 0] _).trans (by kernel_rfl)
theorem impl_IdentityMorphism_l2_eq (x2 : ((List Int) × (List Int))) (x4 : ((List Int) × (List Int))) (x25 : Int) (x26 : Int) : impl_IdentityMorphism_l2 x2 x4 x25 x26 =
    cond (decide (x26 < x25))
      (cond (decide (x4.2.length + ([x26] : List Int).length ≤ room))
        (impl_IdentityMorphism_l2 x2 (x4.1, x4.2 ++ ([x26] : List Int)) x25 (w64 (x26 + 1)))
        (none))
      (some (x4, true)) :=
  (at_eq Γ X 44 [1, 1, 1, 1, 0, 1, 0] _).trans (by kernel_rfl)
theorem spec_l21New_eq (a0 : (List Int)) (a1 : Int) : spec_l21New a0 a1 =
    (spec_l01New a0).bind fun r1 =>
      spec_l21New_l0 a1 0 r1 :=
  (den_eq Γ X 45 rfl _).trans (by kernel_rfl)
theorem spec_l21New_l0_eq (x1 : Int) (x6 : Int) (x8 : ((List Int) × (Int × Int))) : spec_l21New_l0 x1 x6 x8 =
    cond (decide (x6 < x1))
      ((spec_l01Byte x8).bind fun r2 =>
        spec_l21New_l0 x1 (w64 (x6 + 1)) r2.2)
      (some x8) :=
  (at_eq Γ X 45 [1, 1, 0, 1, 0] _).trans (by kernel_rfl)
theorem spec_l01Pick_eq (a0 : ((List Int) × (Int × Int))) (a1 : (List Int)) : spec_l01Pick a0 a1 =
    (spec_l01Below a0 (a1.length : Int)).bind fun r1 =>
      cond (inside r1.1 a1.length)
        (some (a1.getD r1.1.toNat 0, r1.2))
        (none) :=
  (den_eq Γ X 46 rfl _).trans (by kernel_rfl)
theorem spec_l04Draw_eq (a0 : ((List Int) × (Int × Int))) (a1 : (Int × (List (Int × Int)))) : spec_l04Draw a0 a1 =
    spec_l04Draw_l0 a0 a1 ([] : List Int) 0 :=
  (den_eq Γ X 47 rfl _).trans (by kernel_rfl)
theorem spec_l04Draw_l0_eq (x0 : ((List Int) × (Int × Int))) (x3 : (Int × (List (Int × Int)))) (x5 : (List Int)) (x6 : Int) : spec_l04Draw_l0 x0 x3 x5 x6 =
    cond (decide (x6 < x3.1))
      ((spec_l01Below x0 7).bind fun r1 =>
        (spec_l01Pick r1.2 ([0, 1, 2, (-1), 3, (-2), r1.1] : List Int)).bind fun r2 =>
          cond (decide (x5.length + ([r2.1] : List Int).length ≤ room))
            (spec_l04Draw_l0 r2.2 x3 (x5 ++ ([r2.1] : List Int)) (w64 (x6 + 1)))
            (none))
      (some (x5, x0)) :=
  (at_eq Γ X 47 [1, 1, 0, 1, 0] _).trans (by kernel_rfl)
theorem spec_MakeDivisor_eq (a0 : (List Int)) (a1 : Int) (a2 : (Int × (List (Int × Int)))) : spec_MakeDivisor a0 a1 a2 =
    (spec_l21New a0 a1).bind fun r1 =>
      (spec_l04Draw r1 a2).bind fun r2 =>
        some r2.1 :=
  (den_eq Γ X 48 rfl _).trans (by kernel_rfl)
theorem impl_DivisorOk_eq (a0 : (Int × (List (Int × Int)))) (a1 : (List Int)) : impl_DivisorOk a0 a1 =
    (impl_GraphOk a0).bind fun r1 =>
      cond (r1)
        (cond (((a1.length : Int) : Int) == a0.1)
          ((impl_allWithin a1 (-60) 60).bind fun r2 =>
            some r2)
          (some false))
        (some false) :=
  (den_eq Γ X 49 rfl _).trans (by kernel_rfl)
theorem impl_PushForward_eq (a0 : (Int × (List (Int × Int)))) (a1 : (Int × (List (Int × Int)))) (a2 : ((List Int) × (List Int))) (a3 : (List Int)) : impl_PushForward a0 a1 a2 a3 =
    (impl_IsHarmonic a0 a1 a2).bind fun r1 =>
      cond (!r1)
        (some (([] : List Int), false))
        ((impl_DivisorOk a0 a3).bind fun r2 =>
          cond (!r2)
            (some (([] : List Int), false))
            (cond (decide (0 ≤ a1.1) && decide (a1.1 ≤ (room : Int)))
              (impl_PushForward_l0 a2 (List.replicate a1.1.toNat (0 : Int)) a3 (a3.length : Int) 0)
              (none))) :=
  (den_eq Γ X 50 rfl _).trans (by kernel_rfl)
theorem impl_PushForward_l0_eq (x6 : ((List Int) × (List Int))) (x10 : (List Int)) (x27 : (List Int)) (x28 : Int) (x29 : Int) : impl_PushForward_l0 x6 x10 x27 x28 x29 =
    cond (decide (x29 < x28))
      (cond (inside x29 x27.length)
        (cond (inside x29 x6.1.length)
          (cond (inside (x6.1.getD x29.toNat 0) x10.length)
            (cond (inside (x6.1.getD x29.toNat 0) x10.length)
              (impl_PushForward_l0 x6 (x10.set ((x6.1.getD x29.toNat 0).toNat) (w64 ((x10.getD ((x6.1.getD x29.toNat 0).toNat) 0) + (x27.getD x29.toNat 0)))) x27 x28 (w64 (x29 + 1)))
              (none))
            (none))
          (none))
        (none))
      (some (x10, true)) :=
  (at_eq Γ X 50 [1, 1, 1, 0, 1, 0] _).trans (by kernel_rfl)
theorem impl_HorizontalOf_eq (a0 : (Int × (List (Int × Int)))) (a1 : (Int × (List (Int × Int)))) (a2 : ((List Int) × (List Int))) (a3 : Int) : impl_HorizontalOf a0 a1 a2 a3 =
    (impl_IsHarmonic a0 a1 a2).bind fun r1 =>
      cond (!r1)
        (some (-1))
        ((impl_within a3 0 (w64 (a0.1 - 1))).bind fun r2 =>
          cond (!r2)
            (some (-1))
            ((impl_multiplicities a0 a1 a2 a3).bind fun r3 =>
              cond (((r3.length : Int) : Int) == 0)
                (some 0)
                (cond (inside 0 r3.length)
                  (some (r3.getD 0 0))
                  (none)))) :=
  (den_eq Γ X 51 rfl _).trans (by kernel_rfl)
theorem impl_PullBack_eq (a0 : (Int × (List (Int × Int)))) (a1 : (Int × (List (Int × Int)))) (a2 : ((List Int) × (List Int))) (a3 : (List Int)) : impl_PullBack a0 a1 a2 a3 =
    (impl_IsHarmonic a0 a1 a2).bind fun r1 =>
      cond (!r1)
        (some (([] : List Int), false))
        ((impl_DivisorOk a1 a3).bind fun r2 =>
          cond (!r2)
            (some (([] : List Int), false))
            (impl_PullBack_l0 a3 a0 a1 a2 ([] : List Int) a2.1 (a2.1.length : Int) 0)) :=
  (den_eq Γ X 52 rfl _).trans (by kernel_rfl)
theorem impl_PullBack_l0_eq (x3 : (List Int)) (x4 : (Int × (List (Int × Int)))) (x5 : (Int × (List (Int × Int)))) (x6 : ((List Int) × (List Int))) (x10 : (List Int)) (x25 : (List Int)) (x26 : Int) (x27 : Int) : impl_PullBack_l0 x3 x4 x5 x6 x10 x25 x26 x27 =
    cond (decide (x27 < x26))
      (cond (inside x27 x25.length)
        ((impl_HorizontalOf x4 x5 x6 x27).bind fun r3 =>
          cond (inside (x25.getD x27.toNat 0) x3.length)
            (cond (decide (x10.length + ([w64 (r3 * (x3.getD ((x25.getD x27.toNat 0).toNat) 0))] : List Int).length ≤ room))
              (impl_PullBack_l0 x3 x4 x5 x6 (x10 ++ ([w64 (r3 * (x3.getD ((x25.getD x27.toNat 0).toNat) 0))] : List Int)) x25 x26 (w64 (x27 + 1)))
              (none))
            (none))
        (none))
      (some (x10, true)) :=
  (at_eq Γ X 52 [1, 1, 1, 0, 1, 0] _).trans (by kernel_rfl)
theorem impl_DegreeOfMorphism_eq (a0 : (Int × (List (Int × Int)))) (a1 : (Int × (List (Int × Int)))) (a2 : ((List Int) × (List Int))) : impl_DegreeOfMorphism a0 a1 a2 =
    (impl_IsHarmonic a0 a1 a2).bind fun r1 =>
      cond (!r1)
        (some (-1))
        (impl_DegreeOfMorphism_l0 0 a2.2 (a2.2.length : Int) 0) :=
  (den_eq Γ X 53 rfl _).trans (by kernel_rfl)
theorem impl_DegreeOfMorphism_l0_eq (x7 : Int) (x16 : (List Int)) (x17 : Int) (x18 : Int) : impl_DegreeOfMorphism_l0 x7 x16 x17 x18 =
    cond (decide (x18 < x17))
      (cond (inside x18 x16.length)
        (cond (((x16.getD x18.toNat 0) : Int) == 0)
          (impl_DegreeOfMorphism_l0 (w64 (x7 + 1)) x16 x17 (w64 (x18 + 1)))
          (impl_DegreeOfMorphism_l0 x7 x16 x17 (w64 (x18 + 1))))
        (none))
      (some x7) :=
  (at_eq Γ X 53 [1, 1, 1, 0, 1, 0] _).trans (by kernel_rfl)
theorem laws_same_eq (a0 : (List Int)) (a1 : (List Int)) : laws_same a0 a1 =
    cond (((a0.length : Int) : Int) != (a1.length : Int))
      (some false)
      (laws_same_l0 a1 a0 (a0.length : Int) 0) :=
  (den_eq Γ X 54 rfl _).trans (by kernel_rfl)
theorem laws_same_l0_eq (x1 : (List Int)) (x12 : (List Int)) (x13 : Int) (x14 : Int) : laws_same_l0 x1 x12 x13 x14 =
    cond (decide (x14 < x13))
      (cond (inside x14 x12.length)
        (cond (inside x14 x1.length)
          (cond (((x12.getD x14.toNat 0) : Int) != (x1.getD x14.toNat 0))
            (some false)
            (laws_same_l0 x1 x12 x13 (w64 (x14 + 1))))
          (none))
        (none))
      (some true) :=
  (at_eq Γ X 54 [1, 1, 0, 1, 0] _).trans (by kernel_rfl)
theorem laws_FnIdentity_eq (a0 : (List Int)) : laws_FnIdentity a0 =
    cond (decide ((a0.length : Int) > 1048576))
      (some true)
      ((spec_MakeSmall a0).bind fun r1 =>
        (impl_IdentityMorphism r1).bind fun r2 =>
          (spec_MakeDivisor a0 20 r1).bind fun r3 =>
            (impl_PushForward r1 r1 r2.1 r3).bind fun r4 =>
              (impl_PullBack r1 r1 r2.1 r3).bind fun r5 =>
                (impl_CountMorphisms r1 r1).bind fun r6 =>
                  laws_FnIdentity_c9 r1 r2.1 r2.2 r3 r4.1 r4.2 r5.1 r5.2 r6) :=
  (den_eq Γ X 55 rfl _).trans (by kernel_rfl)
theorem laws_FnIdentity_c9_eq (x3 : (Int × (List (Int × Int)))) (x4 : ((List Int) × (List Int))) (x5 : Bool) (x6 : (List Int)) (x7 : (List Int)) (x8 : Bool) (x9 : (List Int)) (x10 : Bool) (x11 : Int) : laws_FnIdentity_c9 x3 x4 x5 x6 x7 x8 x9 x10 x11 =
    cond (decide (x3.1 ≤ 3))
      (cond (x5)
        (cond (x8)
          (cond (x10)
            ((impl_IsHarmonic x3 x3 x4).bind fun r7 =>
              cond (r7)
                ((impl_DegreeOfMorphism x3 x3 x4).bind fun r8 =>
                  cond ((r8 : Int) == 1)
                    ((laws_same x7 x6).bind fun r9 =>
                      cond (r9)
                        ((laws_same x9 x6).bind fun r10 =>
                          cond (r10)
                            (cond (((decide (x11 ≥ 1)) : Bool) == (decide ((x3.2.length : Int) ≤ 3)))
                              (some ((((x11 : Int) == (-1)) : Bool) == (!(decide ((x3.2.length : Int) ≤ 3)))))
                              (some false))
                            (some false))
                        (some false))
                    (some false))
                (some false))
            (some false))
          (some false))
        (some false))
      (cond (x5)
        (cond (x8)
          (cond (x10)
            ((impl_IsHarmonic x3 x3 x4).bind fun r11 =>
              cond (r11)
                ((impl_DegreeOfMorphism x3 x3 x4).bind fun r12 =>
                  cond ((r12 : Int) == 1)
                    ((laws_same x7 x6).bind fun r13 =>
                      cond (r13)
                        ((laws_same x9 x6).bind fun r14 =>
                          cond (r14)
                            (cond (((decide (x11 ≥ 1)) : Bool) == false)
                              (some ((((x11 : Int) == (-1)) : Bool) == true))
                              (some false))
                            (some false))
                        (some false))
                    (some false))
                (some false))
            (some false))
          (some false))
        (some false)) :=
  (at_eq Γ X 55 [1, 1, 1, 1, 1, 1, 1, 1, 0] _).trans (by kernel_rfl)
end Go.Proofs.Ytgncajnfphlgeaa.D

/-
  Each function and each loop by its equation: what the evaluator tells of it, for all arguments.
-/
import Derived.Test.YthmddgkpebneoaaCtx
import Derived.KernelRfl
namespace Go.Proofs.Ythmddgkpebneoaa.D
open Go Go.Den
set_option linter.unusedVariables false
set_option maxRecDepth 100000
theorem laws_szEdgeS_eq (a0 : (List (Int × Int))) (a1 : Int) : laws_szEdgeS a0 a1 =
    cond (decide (w64 (a1 - (a0.length : Int)) < 0))
      (some (-1))
      (some (w64 (a1 - (a0.length : Int)))) :=
  (den_eq Γ X 0 rfl _).trans (by kernel_rfl)
theorem laws_szGraph_eq (a0 : (Int × (List (Int × Int)))) (a1 : Int) : laws_szGraph a0 a1 =
    (laws_szEdgeS a0.2 a1).bind fun r1 =>
      cond (decide (r1 < 0))
        (some (-1))
        (some r1) :=
  (den_eq Γ X 1 rfl _).trans (by kernel_rfl)
theorem laws_toEdge_eq (a0 : (Int × Int)) : laws_toEdge a0 =
    some (a0.1, a0.2) :=
  (den_eq Γ X 2 rfl _).trans (by kernel_rfl)
theorem laws_toEdgeS_eq (a0 : (List (Int × Int))) : laws_toEdgeS a0 =
    cond (decide (0 ≤ (a0.length : Int)) && decide ((a0.length : Int) ≤ (room : Int)))
      (laws_toEdgeS_l0 a0 (List.replicate (a0.length : Int).toNat (0, 0)) 0)
      (none) :=
  (den_eq Γ X 3 rfl _).trans (by kernel_rfl)
theorem laws_toEdgeS_l0_eq (x0 : (List (Int × Int))) (x3 : (List (Int × Int))) (x4 : Int) : laws_toEdgeS_l0 x0 x3 x4 =
    cond (decide (x4 < (x0.length : Int)))
      (cond (inside x4 x0.length)
        ((laws_toEdge (x0.getD x4.toNat (0, 0))).bind fun r1 =>
          cond (inside x4 x3.length)
            (laws_toEdgeS_l0 x0 (x3.set x4.toNat r1) (w64 (x4 + 1)))
            (none))
        (none))
      (some x3) :=
  (at_eq Γ X 3 [1, 1, 0, 1, 0] _).trans (by kernel_rfl)
theorem laws_toGraph_eq (a0 : (Int × (List (Int × Int)))) : laws_toGraph a0 =
    (laws_toEdgeS a0.2).bind fun r1 =>
      some (a0.1, r1) :=
  (den_eq Γ X 4 rfl _).trans (by kernel_rfl)
theorem laws_toIntS_eq (a0 : (List Int)) : laws_toIntS a0 =
    cond (decide (0 ≤ (a0.length : Int)) && decide ((a0.length : Int) ≤ (room : Int)))
      (laws_toIntS_l0 a0 (List.replicate (a0.length : Int).toNat (0 : Int)) 0)
      (none) :=
  (den_eq Γ X 5 rfl _).trans (by kernel_rfl)
theorem laws_toIntS_l0_eq (x0 : (List Int)) (x3 : (List Int)) (x4 : Int) : laws_toIntS_l0 x0 x3 x4 =
    cond (decide (x4 < (x0.length : Int)))
      (cond (inside x4 x0.length)
        (cond (inside x4 x3.length)
          (laws_toIntS_l0 x0 (x3.set x4.toNat (x0.getD x4.toNat 0)) (w64 (x4 + 1)))
          (none))
        (none))
      (some x3) :=
  (at_eq Γ X 5 [1, 1, 0, 1, 0] _).trans (by kernel_rfl)
theorem spec_l01In_eq (a0 : Int) (a1 : Int) (a2 : Int) : spec_l01In a0 a1 a2 =
    cond (decide (a0 ≥ a1))
      (some (decide (a0 ≤ a2)))
      (some false) :=
  (den_eq Γ X 6 rfl _).trans (by kernel_rfl)
theorem spec_EdgesOk_eq (a0 : (Int × (List (Int × Int)))) : spec_EdgesOk a0 =
    (spec_l01In a0.1 1 6).bind fun r1 =>
      cond (!r1)
        (some false)
        (cond (decide ((a0.2.length : Int) > 12))
          (some false)
          (spec_EdgesOk_l0 a0 a0.2 (a0.2.length : Int) 0)) :=
  (den_eq Γ X 7 rfl _).trans (by kernel_rfl)
theorem spec_EdgesOk_l0_eq (x1 : (Int × (List (Int × Int)))) (x16 : (List (Int × Int))) (x17 : Int) (x18 : Int) : spec_EdgesOk_l0 x1 x16 x17 x18 =
    cond (decide (x18 < x17))
      (cond (inside x18 x16.length)
        ((spec_l01In ((x16.getD x18.toNat (0, 0)).1) 0 (w64 (x1.1 - 1))).bind fun r2 =>
          cond (!r2)
            (some false)
            ((spec_l01In ((x16.getD x18.toNat (0, 0)).2) (w64 (((x16.getD x18.toNat (0, 0)).1) + 1)) (w64 (x1.1 - 1))).bind fun r3 =>
              cond (!r3)
                (some false)
                (spec_EdgesOk_l0 x1 x16 x17 (w64 (x18 + 1)))))
        (none))
      (some true) :=
  (at_eq Γ X 7 [1, 1, 0, 1, 0] _).trans (by kernel_rfl)
theorem spec_l02Has_eq (a0 : (List Int)) (a1 : Int) : spec_l02Has a0 a1 =
    spec_l02Has_l0 a1 a0 (a0.length : Int) 0 :=
  (den_eq Γ X 8 rfl _).trans (by kernel_rfl)
theorem spec_l02Has_l0_eq (x1 : Int) (x7 : (List Int)) (x8 : Int) (x9 : Int) : spec_l02Has_l0 x1 x7 x8 x9 =
    cond (decide (x9 < x8))
      (cond (inside x9 x7.length)
        (cond (((x7.getD x9.toNat 0) : Int) == x1)
          (some true)
          (spec_l02Has_l0 x1 x7 x8 (w64 (x9 + 1))))
        (none))
      (some false) :=
  (at_eq Γ X 8 [1, 0, 1, 0] _).trans (by kernel_rfl)
theorem spec_l02Reach_eq (a0 : (Int × (List (Int × Int)))) : spec_l02Reach a0 =
    spec_l02Reach_l0 a0 ([0] : List Int) 0 :=
  (den_eq Γ X 9 rfl _).trans (by kernel_rfl)
theorem spec_l02Reach_l0_eq (x1 : (Int × (List (Int × Int)))) (x3 : (List Int)) (x4 : Int) : spec_l02Reach_l0 x1 x3 x4 =
    cond (decide (x4 < (x3.length : Int)))
      (spec_l02Reach_l2 x1 x3 x4 x1.2 (x1.2.length : Int) 0)
      (some x3) :=
  (at_eq Γ X 9 [1, 1, 0, 1, 0] _).trans (by kernel_rfl)
theorem spec_l02Reach_l2_eq (x1 : (Int × (List (Int × Int)))) (x3 : (List Int)) (x4 : Int) (x15 : (List (Int × Int))) (x16 : Int) (x17 : Int) : spec_l02Reach_l2 x1 x3 x4 x15 x16 x17 =
    cond (decide (x17 < x16))
      (cond (inside x17 x15.length)
        (cond (inside x4 x3.length)
          (cond ((((x15.getD x17.toNat (0, 0)).1) : Int) == (x3.getD x4.toNat 0))
            ((spec_l02Has x3 ((x15.getD x17.toNat (0, 0)).2)).bind fun r1 =>
              cond (!r1)
                (cond (decide (x3.length + ([(x15.getD x17.toNat (0, 0)).2] : List Int).length ≤ room))
                  (cond (inside x4 (x3 ++ ([(x15.getD x17.toNat (0, 0)).2] : List Int)).length)
                    (cond ((((x15.getD x17.toNat (0, 0)).2) : Int) == ((x3 ++ ([(x15.getD x17.toNat (0, 0)).2] : List Int)).getD x4.toNat 0))
                      ((spec_l02Has (x3 ++ ([(x15.getD x17.toNat (0, 0)).2] : List Int)) ((x15.getD x17.toNat (0, 0)).1)).bind fun r2 =>
                        cond (!r2)
                          (spec_l02Reach_c11 x1 (x3 ++ ([(x15.getD x17.toNat (0, 0)).2] : List Int)) x4 (x15.getD x17.toNat (0, 0)) x15 x16 x17)
                          (spec_l02Reach_c12 x1 (x3 ++ ([(x15.getD x17.toNat (0, 0)).2] : List Int)) x4 x15 x16 x17))
                      (spec_l02Reach_c12 x1 (x3 ++ ([(x15.getD x17.toNat (0, 0)).2] : List Int)) x4 x15 x16 x17))
                    (none))
                  (none))
                (cond (inside x4 x3.length)
                  (cond ((((x15.getD x17.toNat (0, 0)).2) : Int) == (x3.getD x4.toNat 0))
                    ((spec_l02Has x3 ((x15.getD x17.toNat (0, 0)).1)).bind fun r3 =>
                      cond (!r3)
                        (spec_l02Reach_c11 x1 x3 x4 (x15.getD x17.toNat (0, 0)) x15 x16 x17)
                        (spec_l02Reach_c12 x1 x3 x4 x15 x16 x17))
                    (spec_l02Reach_c12 x1 x3 x4 x15 x16 x17))
                  (none)))
            (cond (inside x4 x3.length)
              (cond ((((x15.getD x17.toNat (0, 0)).2) : Int) == (x3.getD x4.toNat 0))
                ((spec_l02Has x3 ((x15.getD x17.toNat (0, 0)).1)).bind fun r4 =>
                  cond (!r4)
                    (spec_l02Reach_c11 x1 x3 x4 (x15.getD x17.toNat (0, 0)) x15 x16 x17)
                    (spec_l02Reach_c12 x1 x3 x4 x15 x16 x17))
                (spec_l02Reach_c12 x1 x3 x4 x15 x16 x17))
              (none)))
          (none))
        (none))
      (spec_l02Reach_l0 x1 x3 (w64 (x4 + 1))) :=
  (at_eq Γ X 9 [1, 1, 0, 1, 0, 0, 1, 0, 0, 1, 0] _).trans (by kernel_rfl)
theorem spec_l02Reach_c11_eq (x1 : (Int × (List (Int × Int)))) (x3 : (List Int)) (x4 : Int) (x6 : (Int × Int)) (x15 : (List (Int × Int))) (x16 : Int) (x17 : Int) : spec_l02Reach_c11 x1 x3 x4 x6 x15 x16 x17 =
    cond (decide (x3.length + ([x6.1] : List Int).length ≤ room))
      (spec_l02Reach_c12 x1 (x3 ++ ([x6.1] : List Int)) x4 x15 x16 x17)
      (none) :=
  (at_eq Γ X 9 [1, 1, 0, 1, 0, 0, 1, 0, 0, 1, 0, 0, 1, 1, 0, 0, 1, 1, 1, 0] _).trans (by kernel_rfl)
theorem spec_l02Reach_c12_eq (x1 : (Int × (List (Int × Int)))) (x3 : (List Int)) (x4 : Int) (x15 : (List (Int × Int))) (x16 : Int) (x17 : Int) : spec_l02Reach_c12 x1 x3 x4 x15 x16 x17 =
    spec_l02Reach_l2 x1 x3 x4 x15 x16 (w64 (x17 + 1)) :=
  (at_eq Γ X 9 [1, 1, 0, 1, 0, 0, 1, 0, 0, 1, 0, 0, 1, 1, 1] _).trans (by kernel_rfl)
theorem spec_GraphOk_eq (a0 : (Int × (List (Int × Int)))) : spec_GraphOk a0 =
    (spec_EdgesOk a0).bind fun r1 =>
      cond (!r1)
        (some false)
        (spec_GraphOk_l0 a0 a0.2 (a0.2.length : Int) 0) :=
  (den_eq Γ X 10 rfl _).trans (by kernel_rfl)
theorem spec_GraphOk_l0_eq (x1 : (Int × (List (Int × Int)))) (x9 : (List (Int × Int))) (x10 : Int) (x11 : Int) : spec_GraphOk_l0 x1 x9 x10 x11 =
    cond (decide (x11 < x10))
      (cond (inside x11 x9.length)
        (cond (decide (x11 > 0))
          (cond (inside (w64 (x11 - 1)) x1.2.length)
            (cond (decide ((x9.getD x11.toNat (0, 0)).1 < (x1.2.getD ((w64 (x11 - 1)).toNat) (0, 0)).1))
              (some false)
              (cond (inside (w64 (x11 - 1)) x1.2.length)
                (cond ((((x9.getD x11.toNat (0, 0)).1) : Int) == ((x1.2.getD ((w64 (x11 - 1)).toNat) (0, 0)).1))
                  (cond (inside (w64 (x11 - 1)) x1.2.length)
                    (cond (decide ((x9.getD x11.toNat (0, 0)).2 < (x1.2.getD ((w64 (x11 - 1)).toNat) (0, 0)).2))
                      (some false)
                      (spec_GraphOk_c8 x1 x9 x10 x11))
                    (none))
                  (spec_GraphOk_c8 x1 x9 x10 x11))
                (none)))
            (none))
          (spec_GraphOk_c8 x1 x9 x10 x11))
        (none))
      ((spec_l02Reach x1).bind fun r2 =>
        some (((r2.length : Int) : Int) == x1.1)) :=
  (at_eq Γ X 10 [1, 1, 0, 1, 0] _).trans (by kernel_rfl)
theorem spec_GraphOk_c8_eq (x1 : (Int × (List (Int × Int)))) (x9 : (List (Int × Int))) (x10 : Int) (x11 : Int) : spec_GraphOk_c8 x1 x9 x10 x11 =
    spec_GraphOk_l0 x1 x9 x10 (w64 (x11 + 1)) :=
  (at_eq Γ X 10 [1, 1, 0, 1, 0, 0, 1, 1, 1] _).trans (by kernel_rfl)
theorem spec_RotorsOk_eq (a0 : (Int × (List (Int × Int)))) (a1 : (List Int)) (a2 : Int) : spec_RotorsOk a0 a1 a2 =
    (spec_GraphOk a0).bind fun r1 =>
      cond (!r1)
        (some false)
        ((spec_l01In a2 0 (w64 (a0.1 - 1))).bind fun r2 =>
          cond (!r2)
            (some false)
            (cond (((a1.length : Int) : Int) != a0.1)
              (some false)
              (cond (inside a2 a1.length)
                (cond (((a1.getD a2.toNat 0) : Int) != (-1))
                  (some false)
                  (spec_RotorsOk_l0 a2 a0 a1 (a1.length : Int) 0))
                (none)))) :=
  (den_eq Γ X 11 rfl _).trans (by kernel_rfl)
theorem spec_RotorsOk_l0_eq (x2 : Int) (x3 : (Int × (List (Int × Int)))) (x34 : (List Int)) (x35 : Int) (x36 : Int) : spec_RotorsOk_l0 x2 x3 x34 x35 x36 =
    cond (decide (x36 < x35))
      (cond (inside x36 x34.length)
        (cond ((x36 : Int) != x2)
          ((spec_l01In (x34.getD x36.toNat 0) 0 (w64 ((x3.2.length : Int) - 1))).bind fun r3 =>
            cond (!r3)
              (some false)
              (cond (inside (x34.getD x36.toNat 0) x3.2.length)
                (cond ((((x3.2.getD ((x34.getD x36.toNat 0).toNat) (0, 0)).1) : Int) != x36)
                  (cond (inside (x34.getD x36.toNat 0) x3.2.length)
                    (cond ((((x3.2.getD ((x34.getD x36.toNat 0).toNat) (0, 0)).2) : Int) != x36)
                      (some false)
                      (spec_RotorsOk_c8 x2 x3 x34 x35 x36))
                    (none))
                  (spec_RotorsOk_c8 x2 x3 x34 x35 x36))
                (none)))
          (spec_RotorsOk_c8 x2 x3 x34 x35 x36))
        (none))
      (some true) :=
  (at_eq Γ X 11 [1, 1, 0, 1, 0] _).trans (by kernel_rfl)
theorem spec_RotorsOk_c8_eq (x2 : Int) (x3 : (Int × (List (Int × Int)))) (x34 : (List Int)) (x35 : Int) (x36 : Int) : spec_RotorsOk_c8 x2 x3 x34 x35 x36 =
    spec_RotorsOk_l0 x2 x3 x34 x35 (w64 (x36 + 1)) :=
  (at_eq Γ X 11 [1, 1, 0, 1, 0, 0, 1, 1, 1] _).trans (by kernel_rfl)
theorem spec_l15Other_eq (a0 : (Int × Int)) (a1 : Int) : spec_l15Other a0 a1 =
    some (w64 ((w64 (a0.1 + a0.2)) - a1)) :=
  (den_eq Γ X 12 rfl _).trans (by kernel_rfl)
theorem spec_IsTreeState_eq (a0 : (Int × (List (Int × Int)))) (a1 : (List Int)) (a2 : Int) : spec_IsTreeState a0 a1 a2 =
    (spec_RotorsOk a0 a1 a2).bind fun r1 =>
      cond (!r1)
        (some false)
        (spec_IsTreeState_l0 a1 a2 a0 0) :=
  (den_eq Γ X 13 rfl _).trans (by kernel_rfl)
theorem spec_IsTreeState_l0_eq (x1 : (List Int)) (x2 : Int) (x3 : (Int × (List (Int × Int)))) (x7 : Int) : spec_IsTreeState_l0 x1 x2 x3 x7 =
    cond (decide (x7 < x3.1))
      (spec_IsTreeState_l2 x1 x2 x3 x7 x7 0)
      (some true) :=
  (at_eq Γ X 13 [1, 1, 0, 1, 0] _).trans (by kernel_rfl)
theorem spec_IsTreeState_l2_eq (x1 : (List Int)) (x2 : Int) (x3 : (Int × (List (Int × Int)))) (x7 : Int) (x8 : Int) (x9 : Int) : spec_IsTreeState_l2 x1 x2 x3 x7 x8 x9 =
    cond (decide (x9 < x3.1))
      (cond ((x8 : Int) != x2)
        (cond (inside x8 x1.length)
          (cond (inside (x1.getD x8.toNat 0) x3.2.length)
            ((spec_l15Other (x3.2.getD ((x1.getD x8.toNat 0).toNat) (0, 0)) x8).bind fun r2 =>
              spec_IsTreeState_l2 x1 x2 x3 x7 r2 (w64 (x9 + 1)))
            (none))
          (none))
        (cond ((x8 : Int) != x2)
          (some false)
          (spec_IsTreeState_l0 x1 x2 x3 (w64 (x7 + 1)))))
      (cond ((x8 : Int) != x2)
        (some false)
        (spec_IsTreeState_l0 x1 x2 x3 (w64 (x7 + 1)))) :=
  (at_eq Γ X 13 [1, 1, 0, 1, 0, 0, 1, 0, 0, 1, 0, 1, 0] _).trans (by kernel_rfl)
theorem spec_l12Sorted_eq (a0 : (List Int)) : spec_l12Sorted a0 =
    spec_l12Sorted_l0 ([] : List Int) a0 (a0.length : Int) 0 :=
  (den_eq Γ X 14 rfl _).trans (by kernel_rfl)
theorem spec_l12Sorted_l0_eq (x3 : (List Int)) (x8 : (List Int)) (x9 : Int) (x10 : Int) : spec_l12Sorted_l0 x3 x8 x9 x10 =
    cond (decide (x10 < x9))
      (cond (inside x10 x8.length)
        (cond (decide (x3.length + ([0] : List Int).length ≤ room))
          (spec_l12Sorted_l2 (x3 ++ ([0] : List Int)) (x8.getD x10.toNat 0) (w64 (((x3 ++ ([0] : List Int)).length : Int) - 1)) x8 x9 x10)
          (none))
        (none))
      (some x3) :=
  (at_eq Γ X 14 [1, 1, 0, 1, 0] _).trans (by kernel_rfl)
theorem spec_l12Sorted_l2_eq (x3 : (List Int)) (x5 : Int) (x6 : Int) (x8 : (List Int)) (x9 : Int) (x10 : Int) : spec_l12Sorted_l2 x3 x5 x6 x8 x9 x10 =
    cond (decide (x6 > 0))
      (cond (inside (w64 (x6 - 1)) x3.length)
        (cond (decide (x3.getD ((w64 (x6 - 1)).toNat) 0 > x5))
          (cond (inside (w64 (x6 - 1)) x3.length)
            (cond (inside x6 x3.length)
              (spec_l12Sorted_l2 (x3.set x6.toNat (x3.getD ((w64 (x6 - 1)).toNat) 0)) x5 (w64 (x6 - 1)) x8 x9 x10)
              (none))
            (none))
          (cond (inside x6 x3.length)
            (spec_l12Sorted_l0 (x3.set x6.toNat x5) x8 x9 (w64 (x10 + 1)))
            (none)))
        (none))
      (cond (inside x6 x3.length)
        (spec_l12Sorted_l0 (x3.set x6.toNat x5) x8 x9 (w64 (x10 + 1)))
        (none)) :=
  (at_eq Γ X 14 [1, 1, 0, 1, 0, 0, 1, 1, 0, 0, 1, 1, 1, 0, 0] _).trans (by kernel_rfl)
theorem spec_TreeOfState_eq (a0 : (Int × (List (Int × Int)))) (a1 : (List Int)) (a2 : Int) : spec_TreeOfState a0 a1 a2 =
    (spec_IsTreeState a0 a1 a2).bind fun r1 =>
      cond (!r1)
        (some (([] : List Int), false))
        (spec_TreeOfState_l0 a2 ([] : List Int) a1 (a1.length : Int) 0) :=
  (den_eq Γ X 15 rfl _).trans (by kernel_rfl)
theorem spec_TreeOfState_l0_eq (x2 : Int) (x8 : (List Int)) (x17 : (List Int)) (x18 : Int) (x19 : Int) : spec_TreeOfState_l0 x2 x8 x17 x18 x19 =
    cond (decide (x19 < x18))
      (cond (inside x19 x17.length)
        (cond ((x19 : Int) != x2)
          (cond (decide (x8.length + ([x17.getD x19.toNat 0] : List Int).length ≤ room))
            (spec_TreeOfState_l0 x2 (x8 ++ ([x17.getD x19.toNat 0] : List Int)) x17 x18 (w64 (x19 + 1)))
            (none))
          (spec_TreeOfState_l0 x2 x8 x17 x18 (w64 (x19 + 1))))
        (none))
      ((spec_l12Sorted x8).bind fun r2 =>
        some (r2, true)) :=
  (at_eq Γ X 15 [1, 1, 1, 0, 1, 0] _).trans (by kernel_rfl)
theorem impl_within_eq (a0 : Int) (a1 : Int) (a2 : Int) : impl_within a0 a1 a2 =
    cond (decide (a0 ≥ a1))
      (some (decide (a0 ≤ a2)))
      (some false) :=
  (den_eq Γ X 16 rfl _).trans (by kernel_rfl)
theorem impl_EdgesOk_eq (a0 : (Int × (List (Int × Int)))) : impl_EdgesOk a0 =
    (impl_within a0.1 1 6).bind fun r1 =>
      cond (!r1)
        (some false)
        (cond (decide ((a0.2.length : Int) > 12))
          (some false)
          (impl_EdgesOk_l0 a0 a0.2 (a0.2.length : Int) 0)) :=
  (den_eq Γ X 17 rfl _).trans (by kernel_rfl)
theorem impl_EdgesOk_l0_eq (x1 : (Int × (List (Int × Int)))) (x16 : (List (Int × Int))) (x17 : Int) (x18 : Int) : impl_EdgesOk_l0 x1 x16 x17 x18 =
    cond (decide (x18 < x17))
      (cond (inside x18 x16.length)
        (cond (decide ((x16.getD x18.toNat (0, 0)).1 < 0))
          (some false)
          (cond (decide ((x16.getD x18.toNat (0, 0)).1 ≥ (x16.getD x18.toNat (0, 0)).2))
            (some false)
            (cond (decide ((x16.getD x18.toNat (0, 0)).2 ≥ x1.1))
              (some false)
              (impl_EdgesOk_l0 x1 x16 x17 (w64 (x18 + 1))))))
        (none))
      (some true) :=
  (at_eq Γ X 17 [1, 1, 0, 1, 0] _).trans (by kernel_rfl)
theorem cmp_isNaN_int_eq (a0 : Int) : cmp_isNaN_int a0 =
    some ((a0 : Int) != a0) :=
  (den_eq Γ X 18 rfl _).trans (by kernel_rfl)
theorem cmp_Compare_int_eq (a0 : Int) (a1 : Int) : cmp_Compare_int a0 a1 =
    (cmp_isNaN_int a0).bind fun r1 =>
      (cmp_isNaN_int a1).bind fun r2 =>
        cond (r1)
          (cond (r2)
            (some 0)
            (some (-1)))
          (cond (r2)
            (some 1)
            (cond (decide (a0 < a1))
              (some (-1))
              (cond (decide (a0 > a1))
                (some 1)
                (some 0)))) :=
  (den_eq Γ X 19 rfl _).trans (by kernel_rfl)
theorem impl_compareEdges_eq (a0 : (Int × Int)) (a1 : (Int × Int)) : impl_compareEdges a0 a1 =
    (cmp_Compare_int a0.1 a1.1).bind fun r1 =>
      cond ((r1 : Int) != 0)
        (some r1)
        ((cmp_Compare_int a0.2 a1.2).bind fun r2 =>
          some r2) :=
  (den_eq Γ X 20 rfl _).trans (by kernel_rfl)
theorem impl_Edge__compareEdges_eq (a0 : (List (Int × Int))) : impl_Edge__compareEdges a0 =
    impl_Edge__compareEdges_l0 a0 (w64 ((a0.length : Int) - 1)) :=
  (den_eq Γ X 21 rfl _).trans (by kernel_rfl)
theorem impl_Edge__compareEdges_l0_eq (x0 : (List (Int × Int))) (x5 : Int) : impl_Edge__compareEdges_l0 x0 x5 =
    cond (decide (x5 > 0))
      (cond (inside x5 x0.length)
        (cond (inside (w64 (x5 - 1)) x0.length)
          ((impl_compareEdges (x0.getD x5.toNat (0, 0)) (x0.getD ((w64 (x5 - 1)).toNat) (0, 0))).bind fun r1 =>
            cond (decide (r1 < 0))
              (some false)
              (impl_Edge__compareEdges_l0 x0 (w64 (x5 - 1))))
          (none))
        (none))
      (some true) :=
  (at_eq Γ X 21 [1, 0, 1, 0] _).trans (by kernel_rfl)
theorem impl_connected_eq (a0 : Int) (a1 : (List (Int × Int))) : impl_connected a0 a1 =
    impl_connected_l0 a0 a1 1 a0 0 :=
  (den_eq Γ X 22 rfl _).trans (by kernel_rfl)
theorem impl_connected_l0_eq (x0 : Int) (x1 : (List (Int × Int))) (x5 : Int) (x8 : Int) (x9 : Int) : impl_connected_l0 x0 x1 x5 x8 x9 =
    cond (decide (x9 < x8))
      (impl_connected_l2 x0 x1 x5 x8 x9 x1 (x1.length : Int) 0)
      (cond (decide (x0 < 0))
        (none)
        (some ((x5 : Int) == (w64 ((w64 (1 * 2 ^ (min x0.toNat 64))) - 1))))) :=
  (at_eq Γ X 22 [1, 1, 0, 1, 0] _).trans (by kernel_rfl)
theorem impl_connected_l2_eq (x0 : Int) (x1 : (List (Int × Int))) (x5 : Int) (x8 : Int) (x9 : Int) (x11 : (List (Int × Int))) (x12 : Int) (x13 : Int) : impl_connected_l2 x0 x1 x5 x8 x9 x11 x12 x13 =
    cond (decide (x13 < x12))
      (cond (inside x13 x11.length)
        (cond (decide ((x11.getD x13.toNat (0, 0)).1 < 0))
          (none)
          (cond (((bits .and .i64 (Int.fdiv x5 (2 ^ (min ((x11.getD x13.toNat (0, 0)).1).toNat 64))) 1) : Int) == 1)
            (cond (decide ((x11.getD x13.toNat (0, 0)).1 < 0))
              (none)
              (cond (decide ((x11.getD x13.toNat (0, 0)).2 < 0))
                (none)
                (impl_connected_l2 x0 x1 (bits .or .i64 x5 (bits .or .i64 (w64 (1 * 2 ^ (min ((x11.getD x13.toNat (0, 0)).1).toNat 64))) (w64 (1 * 2 ^ (min ((x11.getD x13.toNat (0, 0)).2).toNat 64))))) x8 x9 x11 x12 (w64 (x13 + 1)))))
            (cond (decide ((x11.getD x13.toNat (0, 0)).2 < 0))
              (none)
              (cond (((bits .and .i64 (Int.fdiv x5 (2 ^ (min ((x11.getD x13.toNat (0, 0)).2).toNat 64))) 1) : Int) == 1)
                (cond (decide ((x11.getD x13.toNat (0, 0)).1 < 0))
                  (none)
                  (cond (decide ((x11.getD x13.toNat (0, 0)).2 < 0))
                    (none)
                    (impl_connected_l2 x0 x1 (bits .or .i64 x5 (bits .or .i64 (w64 (1 * 2 ^ (min ((x11.getD x13.toNat (0, 0)).1).toNat 64))) (w64 (1 * 2 ^ (min ((x11.getD x13.toNat (0, 0)).2).toNat 64))))) x8 x9 x11 x12 (w64 (x13 + 1)))))
                (impl_connected_l2 x0 x1 x5 x8 x9 x11 x12 (w64 (x13 + 1)))))))
        (none))
      (impl_connected_l0 x0 x1 x5 x8 (w64 (x9 + 1))) :=
  (at_eq Γ X 22 [1, 1, 0, 1, 0, 0, 1, 1, 0, 0, 1, 0] _).trans (by kernel_rfl)
theorem impl_GraphOk_eq (a0 : (Int × (List (Int × Int)))) : impl_GraphOk a0 =
    (impl_EdgesOk a0).bind fun r1 =>
      cond (r1)
        ((impl_Edge__compareEdges a0.2).bind fun r2 =>
          cond (r2)
            ((impl_connected a0.1 a0.2).bind fun r3 =>
              some r3)
            (some false))
        (some false) :=
  (den_eq Γ X 23 rfl _).trans (by kernel_rfl)
theorem impl_isVertex_eq (a0 : (Int × (List (Int × Int)))) (a1 : Int) : impl_isVertex a0 a1 =
    (impl_GraphOk a0).bind fun r1 =>
      cond (r1)
        ((impl_within a1 0 (w64 (a0.1 - 1))).bind fun r2 =>
          some r2)
        (some false) :=
  (den_eq Γ X 24 rfl _).trans (by kernel_rfl)
theorem impl_isAt_eq (a0 : (Int × (List (Int × Int)))) (a1 : Int) (a2 : Int) : impl_isAt a0 a1 a2 =
    (impl_within a1 0 (w64 ((a0.2.length : Int) - 1))).bind fun r1 =>
      cond (r1)
        (cond (inside a1 a0.2.length)
          (cond ((((a0.2.getD a1.toNat (0, 0)).1) : Int) == a2)
            (some true)
            (cond (inside a1 a0.2.length)
              (some ((((a0.2.getD a1.toNat (0, 0)).2) : Int) == a2))
              (none)))
          (none))
        (some false) :=
  (den_eq Γ X 25 rfl _).trans (by kernel_rfl)
theorem impl_RotorsOk_eq (a0 : (Int × (List (Int × Int)))) (a1 : (List Int)) (a2 : Int) : impl_RotorsOk a0 a1 a2 =
    (impl_isVertex a0 a2).bind fun r1 =>
      cond (!r1)
        (some false)
        (cond (((a1.length : Int) : Int) != a0.1)
          (some false)
          (cond (inside a2 a1.length)
            (cond (((a1.getD a2.toNat 0) : Int) != (-1))
              (some false)
              (impl_RotorsOk_l0 a2 a0 a1 (a1.length : Int) 0))
            (none))) :=
  (den_eq Γ X 26 rfl _).trans (by kernel_rfl)
theorem impl_RotorsOk_l0_eq (x2 : Int) (x3 : (Int × (List (Int × Int)))) (x27 : (List Int)) (x28 : Int) (x29 : Int) : impl_RotorsOk_l0 x2 x3 x27 x28 x29 =
    cond (decide (x29 < x28))
      (cond (inside x29 x27.length)
        (cond ((x29 : Int) != x2)
          ((impl_isAt x3 (x27.getD x29.toNat 0) x29).bind fun r2 =>
            cond (!r2)
              (some false)
              (impl_RotorsOk_l0 x2 x3 x27 x28 (w64 (x29 + 1))))
          (impl_RotorsOk_l0 x2 x3 x27 x28 (w64 (x29 + 1))))
        (none))
      (some true) :=
  (at_eq Γ X 26 [1, 1, 0, 1, 0] _).trans (by kernel_rfl)
theorem impl_across_eq (a0 : (Int × (List (Int × Int)))) (a1 : Int) (a2 : Int) : impl_across a0 a1 a2 =
    cond (inside a1 a0.2.length)
      (cond (inside a1 a0.2.length)
        (some (w64 ((w64 (((a0.2.getD a1.toNat (0, 0)).1) + ((a0.2.getD a1.toNat (0, 0)).2))) - a2)))
        (none))
      (none) :=
  (den_eq Γ X 27 rfl _).trans (by kernel_rfl)
theorem impl_IsTreeState_eq (a0 : (Int × (List (Int × Int)))) (a1 : (List Int)) (a2 : Int) : impl_IsTreeState a0 a1 a2 =
    (impl_RotorsOk a0 a1 a2).bind fun r1 =>
      cond (!r1)
        (some false)
        (impl_IsTreeState_l0 a1 a2 a0 (a1.length : Int) 0) :=
  (den_eq Γ X 28 rfl _).trans (by kernel_rfl)
theorem impl_IsTreeState_l0_eq (x1 : (List Int)) (x2 : Int) (x3 : (Int × (List (Int × Int)))) (x16 : Int) (x17 : Int) : impl_IsTreeState_l0 x1 x2 x3 x16 x17 =
    cond (decide (x17 < x16))
      (impl_IsTreeState_l2 x1 x2 x3 x17 0 x16 x17)
      (some true) :=
  (at_eq Γ X 28 [1, 1, 0, 1, 0] _).trans (by kernel_rfl)
theorem impl_IsTreeState_l2_eq (x1 : (List Int)) (x2 : Int) (x3 : (Int × (List (Int × Int)))) (x8 : Int) (x9 : Int) (x16 : Int) (x17 : Int) : impl_IsTreeState_l2 x1 x2 x3 x8 x9 x16 x17 =
    cond (decide (x9 < x3.1))
      (cond ((x8 : Int) != x2)
        (cond (inside x8 x1.length)
          ((impl_across x3 (x1.getD x8.toNat 0) x8).bind fun r2 =>
            impl_IsTreeState_l2 x1 x2 x3 r2 (w64 (x9 + 1)) x16 x17)
          (none))
        (cond ((x8 : Int) != x2)
          (some false)
          (impl_IsTreeState_l0 x1 x2 x3 x16 (w64 (x17 + 1)))))
      (cond ((x8 : Int) != x2)
        (some false)
        (impl_IsTreeState_l0 x1 x2 x3 x16 (w64 (x17 + 1)))) :=
  (at_eq Γ X 28 [1, 1, 0, 1, 0, 0, 1, 1, 0, 0, 1, 1, 0, 1, 0] _).trans (by kernel_rfl)
theorem slices_Sort_int_int_eq (a0 : (List Int)) : slices_Sort_int_int a0 = Lb.sortInts a0 := den_ext Γ X 29 rfl _
theorem impl_TreeOfState_eq (a0 : (Int × (List (Int × Int)))) (a1 : (List Int)) (a2 : Int) : impl_TreeOfState a0 a1 a2 =
    (impl_IsTreeState a0 a1 a2).bind fun r1 =>
      cond (!r1)
        (some (([] : List Int), false))
        (impl_TreeOfState_l0 a2 ([] : List Int) a1 (a1.length : Int) 0) :=
  (den_eq Γ X 30 rfl _).trans (by kernel_rfl)
theorem impl_TreeOfState_l0_eq (x2 : Int) (x8 : (List Int)) (x16 : (List Int)) (x17 : Int) (x18 : Int) : impl_TreeOfState_l0 x2 x8 x16 x17 x18 =
    cond (decide (x18 < x17))
      (cond (inside x18 x16.length)
        (cond ((x18 : Int) != x2)
          (cond (decide (x8.length + ([x16.getD x18.toNat 0] : List Int).length ≤ room))
            (impl_TreeOfState_l0 x2 (x8 ++ ([x16.getD x18.toNat 0] : List Int)) x16 x17 (w64 (x18 + 1)))
            (none))
          (impl_TreeOfState_l0 x2 x8 x16 x17 (w64 (x18 + 1))))
        (none))
      ((slices_Sort_int_int x8).bind fun r2 =>
        some (r2, true)) :=
  (at_eq Γ X 30 [1, 1, 1, 0, 1, 0] _).trans (by kernel_rfl)
theorem laws_eqIntS_eq (a0 : (List Int)) (a1 : (List Int)) : laws_eqIntS a0 a1 =
    cond (((a0.length : Int) : Int) != (a1.length : Int))
      (some false)
      (laws_eqIntS_l0 a0 a1 0) :=
  (den_eq Γ X 31 rfl _).trans (by kernel_rfl)
theorem laws_eqIntS_l0_eq (x0 : (List Int)) (x1 : (List Int)) (x5 : Int) : laws_eqIntS_l0 x0 x1 x5 =
    cond (decide (x5 < (x0.length : Int)))
      (cond (inside x5 x0.length)
        (cond (inside x5 x1.length)
          (cond (((x0.getD x5.toNat 0) : Int) != (x1.getD x5.toNat 0))
            (some false)
            (laws_eqIntS_l0 x0 x1 (w64 (x5 + 1))))
          (none))
        (none))
      (some true) :=
  (at_eq Γ X 31 [1, 1, 0, 1, 0] _).trans (by kernel_rfl)
theorem laws_eqEdge_eq (a0 : (Int × Int)) (a1 : (Int × Int)) : laws_eqEdge a0 a1 =
    cond ((a0.1 : Int) != a1.1)
      (some false)
      (cond ((a0.2 : Int) != a1.2)
        (some false)
        (some true)) :=
  (den_eq Γ X 32 rfl _).trans (by kernel_rfl)
theorem laws_eqEdgeS_eq (a0 : (List (Int × Int))) (a1 : (List (Int × Int))) : laws_eqEdgeS a0 a1 =
    cond (((a0.length : Int) : Int) != (a1.length : Int))
      (some false)
      (laws_eqEdgeS_l0 a0 a1 0) :=
  (den_eq Γ X 33 rfl _).trans (by kernel_rfl)
theorem laws_eqEdgeS_l0_eq (x0 : (List (Int × Int))) (x1 : (List (Int × Int))) (x5 : Int) : laws_eqEdgeS_l0 x0 x1 x5 =
    cond (decide (x5 < (x0.length : Int)))
      (cond (inside x5 x0.length)
        (cond (inside x5 x1.length)
          ((laws_eqEdge (x0.getD x5.toNat (0, 0)) (x1.getD x5.toNat (0, 0))).bind fun r1 =>
            cond (!r1)
              (some false)
              (laws_eqEdgeS_l0 x0 x1 (w64 (x5 + 1))))
          (none))
        (none))
      (some true) :=
  (at_eq Γ X 33 [1, 1, 0, 1, 0] _).trans (by kernel_rfl)
theorem laws_eqGraph_eq (a0 : (Int × (List (Int × Int)))) (a1 : (Int × (List (Int × Int)))) : laws_eqGraph a0 a1 =
    cond ((a0.1 : Int) != a1.1)
      (some false)
      ((laws_eqEdgeS a0.2 a1.2).bind fun r1 =>
        cond (!r1)
          (some false)
          (some true)) :=
  (den_eq Γ X 34 rfl _).trans (by kernel_rfl)
theorem laws_markEdgeS_eq (a0 : (List (Int × Int))) (a1 : Int) : laws_markEdgeS a0 a1 =
    laws_markEdgeS_l0 a0 a1 0 :=
  (den_eq Γ X 35 rfl _).trans (by kernel_rfl)
theorem laws_markEdgeS_l0_eq (x0 : (List (Int × Int))) (x1 : Int) (x5 : Int) : laws_markEdgeS_l0 x0 x1 x5 =
    cond (decide (x5 < (x0.length : Int)))
      (cond (inside x5 x0.length)
        (cond (inside x5 (x0.set x5.toNat (x1, (x0.getD x5.toNat (0, 0)).2)).length)
          (laws_markEdgeS_l0 ((x0.set x5.toNat (x1, (x0.getD x5.toNat (0, 0)).2)).set x5.toNat (((x0.set x5.toNat (x1, (x0.getD x5.toNat (0, 0)).2)).getD x5.toNat (0, 0)).1, w64 (x1 + 1))) (w64 ((w64 (x1 + 1)) + 1)) (w64 (x5 + 1)))
          (none))
        (none))
      (some (x1, x0)) :=
  (at_eq Γ X 35 [1, 0, 1, 0] _).trans (by kernel_rfl)
theorem laws_markGraph_eq (a0 : (Int × (List (Int × Int)))) (a1 : Int) : laws_markGraph a0 a1 =
    (laws_markEdgeS a0.2 a1).bind fun r1 =>
      some (r1.1, a0.1, r1.2) :=
  (den_eq Γ X 36 rfl _).trans (by kernel_rfl)
theorem laws_markIntS_eq (a0 : (List Int)) (a1 : Int) : laws_markIntS a0 a1 =
    laws_markIntS_l0 a0 a1 0 :=
  (den_eq Γ X 37 rfl _).trans (by kernel_rfl)
theorem laws_markIntS_l0_eq (x0 : (List Int)) (x1 : Int) (x5 : Int) : laws_markIntS_l0 x0 x1 x5 =
    cond (decide (x5 < (x0.length : Int)))
      (cond (inside x5 x0.length)
        (laws_markIntS_l0 (x0.set x5.toNat x1) (w64 (x1 + 1)) (w64 (x5 + 1)))
        (none))
      (some (x1, x0)) :=
  (at_eq Γ X 37 [1, 0, 1, 0] _).trans (by kernel_rfl)
theorem laws_heldIntS_eq (a0 : (List Int)) (a1 : Int) : laws_heldIntS a0 a1 =
    laws_heldIntS_l0 a0 a1 0 :=
  (den_eq Γ X 38 rfl _).trans (by kernel_rfl)
theorem laws_heldIntS_l0_eq (x0 : (List Int)) (x1 : Int) (x5 : Int) : laws_heldIntS_l0 x0 x1 x5 =
    cond (decide (x5 < (x0.length : Int)))
      (cond (inside x5 x0.length)
        (cond (((x0.getD x5.toNat 0) : Int) != x1)
          (some (-1))
          (laws_heldIntS_l0 x0 (w64 (x1 + 1)) (w64 (x5 + 1))))
        (none))
      (some x1) :=
  (at_eq Γ X 38 [1, 0, 1, 0] _).trans (by kernel_rfl)
theorem laws_FnExactTreeOfState_eq (a0 : (Int × (List (Int × Int)))) (a1 : (List Int)) (a2 : Int) : laws_FnExactTreeOfState a0 a1 a2 =
    cond (decide ((a1.length : Int) > 1048576))
      (some true)
      ((laws_szGraph a0 1048576).bind fun r1 =>
        cond (decide (r1 < 0))
          (some true)
          ((laws_toGraph a0).bind fun r2 =>
            (laws_toIntS a1).bind fun r3 =>
              (spec_TreeOfState r2 r3 a2).bind fun r4 =>
                (laws_toGraph a0).bind fun r5 =>
                  (laws_toIntS a1).bind fun r6 =>
                    (impl_TreeOfState r5 r6 a2).bind fun r7 =>
                      (laws_eqIntS r7.1 r4.1).bind fun r8 =>
                        cond (!r8)
                          (some false)
                          (cond (!((r7.2 : Bool) == r4.2))
                            (some false)
                            (laws_FnExactTreeOfState_c13 a1 a2 a0 r4.1 r4.2 r5 r6 r7.1 r7.2)))) :=
  (den_eq Γ X 39 rfl _).trans (by kernel_rfl)
theorem laws_FnExactTreeOfState_c13_eq (x1 : (List Int)) (x2 : Int) (x3 : (Int × (List (Int × Int)))) (x8 : (List Int)) (x9 : Bool) (x10 : (Int × (List (Int × Int)))) (x11 : (List Int)) (x12 : (List Int)) (x13 : Bool) : laws_FnExactTreeOfState_c13 x1 x2 x3 x8 x9 x10 x11 x12 x13 =
    (laws_toGraph x3).bind fun r9 =>
      (laws_eqGraph x10 r9).bind fun r10 =>
        cond (!r10)
          (some false)
          ((laws_toIntS x1).bind fun r11 =>
            (laws_eqIntS x11 r11).bind fun r12 =>
              cond (!r12)
                (some false)
                ((laws_markGraph x10 1).bind fun r13 =>
                  (laws_markIntS x11 r13.1).bind fun r14 =>
                    cond (decide (r14.1 < 0))
                      (some false)
                      ((laws_eqIntS x12 x8).bind fun r15 =>
                        cond (!r15)
                          (some false)
                          (cond (!((x13 : Bool) == x9))
                            (some false)
                            ((laws_markIntS x12 1).bind fun r16 =>
                              (laws_heldIntS r16.2 1).bind fun r17 =>
                                laws_FnExactTreeOfState_c26 x1 x2 x3 x8 x9 r16.2 r16.1 r17))))) :=
  (at_eq Γ X 39 [1, 1, 1, 1, 1, 1, 1, 1, 1, 1, 0, 0] _).trans (by kernel_rfl)
theorem laws_FnExactTreeOfState_c26_eq (x1 : (List Int)) (x2 : Int) (x3 : (Int × (List (Int × Int)))) (x8 : (List Int)) (x9 : Bool) (x12 : (List Int)) (x15 : Int) (x16 : Int) : laws_FnExactTreeOfState_c26 x1 x2 x3 x8 x9 x12 x15 x16 =
    cond (decide (x16 < 0))
      (some false)
      (cond ((x16 : Int) != x15)
        (some false)
        ((laws_toGraph x3).bind fun r18 =>
          (laws_toIntS x1).bind fun r19 =>
            (impl_TreeOfState r18 r19 x2).bind fun r20 =>
              (laws_eqIntS r20.1 x8).bind fun r21 =>
                cond (!r21)
                  (some false)
                  (cond (!((r20.2 : Bool) == x9))
                    (some false)
                    ((laws_heldIntS x12 1).bind fun r22 =>
                      cond (decide (r22 < 0))
                        (some false)
                        (cond ((r22 : Int) != x15)
                          (some false)
                          (some true)))))) :=
  (at_eq Γ X 39 [1, 1, 1, 1, 1, 1, 1, 1, 1, 1, 1, 1, 1, 1, 1, 1, 1, 1, 1, 1, 0, 0] _).trans (by kernel_rfl)
theorem spec_l12Joins_eq (a0 : (Int × (List (Int × Int)))) (a1 : (List Int)) : spec_l12Joins a0 a1 =
    spec_l12Joins_l0 a0 (a0.1, ([] : List (Int × Int))) a1 (a1.length : Int) 0 :=
  (den_eq Γ X 40 rfl _).trans (by kernel_rfl)
theorem spec_l12Joins_l0_eq (x2 : (Int × (List (Int × Int)))) (x5 : (Int × (List (Int × Int)))) (x11 : (List Int)) (x12 : Int) (x13 : Int) : spec_l12Joins_l0 x2 x5 x11 x12 x13 =
    cond (decide (x13 < x12))
      (cond (inside x13 x11.length)
        (cond (inside (x11.getD x13.toNat 0) x2.2.length)
          (cond (decide (x5.2.length + ([x2.2.getD ((x11.getD x13.toNat 0).toNat) (0, 0)] : List (Int × Int)).length ≤ room))
            (spec_l12Joins_l0 x2 (x5.1, x5.2 ++ ([x2.2.getD ((x11.getD x13.toNat 0).toNat) (0, 0)] : List (Int × Int))) x11 x12 (w64 (x13 + 1)))
            (none))
          (none))
        (none))
      ((spec_l02Reach x5).bind fun r1 =>
        some (((r1.length : Int) : Int) == x2.1)) :=
  (at_eq Γ X 40 [1, 1, 0, 1, 0] _).trans (by kernel_rfl)
theorem spec_IsTree_eq (a0 : (Int × (List (Int × Int)))) (a1 : (List Int)) : spec_IsTree a0 a1 =
    (spec_GraphOk a0).bind fun r1 =>
      cond (!r1)
        (some false)
        (cond (((a1.length : Int) : Int) != (w64 (a0.1 - 1)))
          (some false)
          (spec_IsTree_l0 a1 a0 a1 (a1.length : Int) 0)) :=
  (den_eq Γ X 41 rfl _).trans (by kernel_rfl)
theorem spec_IsTree_l0_eq (x1 : (List Int)) (x2 : (Int × (List (Int × Int)))) (x18 : (List Int)) (x19 : Int) (x20 : Int) : spec_IsTree_l0 x1 x2 x18 x19 x20 =
    cond (decide (x20 < x19))
      (cond (inside x20 x18.length)
        ((spec_l01In (x18.getD x20.toNat 0) 0 (w64 ((x2.2.length : Int) - 1))).bind fun r2 =>
          cond (!r2)
            (some false)
            (cond (decide (x20 > 0))
              (cond (inside (w64 (x20 - 1)) x1.length)
                (cond (decide (x18.getD x20.toNat 0 ≤ x1.getD ((w64 (x20 - 1)).toNat) 0))
                  (some false)
                  (spec_IsTree_l0 x1 x2 x18 x19 (w64 (x20 + 1))))
                (none))
              (spec_IsTree_l0 x1 x2 x18 x19 (w64 (x20 + 1)))))
        (none))
      ((spec_l12Joins x2 x1).bind fun r3 =>
        some r3) :=
  (at_eq Γ X 41 [1, 1, 0, 1, 0] _).trans (by kernel_rfl)
theorem spec_l15State_eq (a0 : (Int × (List (Int × Int)))) (a1 : (List Int)) (a2 : Int) : spec_l15State a0 a1 a2 =
    spec_l15State_l0 a1 a2 a0 ([] : List Int) 0 :=
  (den_eq Γ X 42 rfl _).trans (by kernel_rfl)
theorem spec_l15State_l0_eq (x1 : (List Int)) (x2 : Int) (x3 : (Int × (List (Int × Int)))) (x7 : (List Int)) (x8 : Int) : spec_l15State_l0 x1 x2 x3 x7 x8 =
    cond (decide (x8 < x3.1))
      (cond (decide (x7.length + ([(-1)] : List Int).length ≤ room))
        (spec_l15State_l0 x1 x2 x3 (x7 ++ ([(-1)] : List Int)) (w64 (x8 + 1)))
        (none))
      (spec_l15State_l2 x1 x3 x7 ([x2] : List Int) 0) :=
  (at_eq Γ X 42 [1, 1, 0, 1, 0] _).trans (by kernel_rfl)
theorem spec_l15State_l2_eq (x1 : (List Int)) (x3 : (Int × (List (Int × Int)))) (x7 : (List Int)) (x9 : (List Int)) (x10 : Int) : spec_l15State_l2 x1 x3 x7 x9 x10 =
    cond (decide (x10 < (x9.length : Int)))
      (spec_l15State_l4 x1 x3 x7 x9 x10 x1 (x1.length : Int) 0)
      (some x7) :=
  (at_eq Γ X 42 [1, 1, 1, 1, 0, 1, 0] _).trans (by kernel_rfl)
theorem spec_l15State_l4_eq (x1 : (List Int)) (x3 : (Int × (List (Int × Int)))) (x7 : (List Int)) (x9 : (List Int)) (x10 : Int) (x33 : (List Int)) (x34 : Int) (x35 : Int) : spec_l15State_l4 x1 x3 x7 x9 x10 x33 x34 x35 =
    cond (decide (x35 < x34))
      (cond (inside x35 x33.length)
        (cond (inside (x33.getD x35.toNat 0) x3.2.length)
          (cond (inside x10 x9.length)
            (cond ((((x3.2.getD ((x33.getD x35.toNat 0).toNat) (0, 0)).1) : Int) != (x9.getD x10.toNat 0))
              (cond (inside x10 x9.length)
                (cond ((((x3.2.getD ((x33.getD x35.toNat 0).toNat) (0, 0)).2) : Int) != (x9.getD x10.toNat 0))
                  (spec_l15State_l4 x1 x3 x7 x9 x10 x33 x34 (w64 (x35 + 1)))
                  (cond (inside x10 x9.length)
                    ((spec_l15Other (x3.2.getD ((x33.getD x35.toNat 0).toNat) (0, 0)) (x9.getD x10.toNat 0)).bind fun r1 =>
                      (spec_l02Has x9 r1).bind fun r2 =>
                        cond (!r2)
                          (cond (inside r1 x7.length)
                            (spec_l15State_c18 x1 x3 (x7.set r1.toNat (x33.getD x35.toNat 0)) x9 x10 r1 x33 x34 x35)
                            (none))
                          (spec_l15State_l4 x1 x3 x7 x9 x10 x33 x34 (w64 (x35 + 1))))
                    (none)))
                (none))
              (cond (inside x10 x9.length)
                ((spec_l15Other (x3.2.getD ((x33.getD x35.toNat 0).toNat) (0, 0)) (x9.getD x10.toNat 0)).bind fun r3 =>
                  (spec_l02Has x9 r3).bind fun r4 =>
                    cond (!r4)
                      (cond (inside r3 x7.length)
                        (spec_l15State_c18 x1 x3 (x7.set r3.toNat (x33.getD x35.toNat 0)) x9 x10 r3 x33 x34 x35)
                        (none))
                      (spec_l15State_l4 x1 x3 x7 x9 x10 x33 x34 (w64 (x35 + 1))))
                (none)))
            (none))
          (none))
        (none))
      (spec_l15State_l2 x1 x3 x7 x9 (w64 (x10 + 1))) :=
  (at_eq Γ X 42 [1, 1, 1, 1, 0, 1, 0, 0, 1, 0, 0, 1, 0] _).trans (by kernel_rfl)
theorem spec_l15State_c18_eq (x1 : (List Int)) (x3 : (Int × (List (Int × Int)))) (x7 : (List Int)) (x9 : (List Int)) (x10 : Int) (x14 : Int) (x33 : (List Int)) (x34 : Int) (x35 : Int) : spec_l15State_c18 x1 x3 x7 x9 x10 x14 x33 x34 x35 =
    cond (decide (x9.length + ([x14] : List Int).length ≤ room))
      (spec_l15State_l4 x1 x3 x7 (x9 ++ ([x14] : List Int)) x10 x33 x34 (w64 (x35 + 1)))
      (none) :=
  (at_eq Γ X 42 [1, 1, 1, 1, 0, 1, 0, 0, 1, 0, 0, 1, 0, 0, 1, 1, 0, 0, 1, 1, 1, 1, 1, 0, 1] _).trans (by kernel_rfl)
theorem spec_StateOfTree_eq (a0 : (Int × (List (Int × Int)))) (a1 : (List Int)) (a2 : Int) : spec_StateOfTree a0 a1 a2 =
    (spec_IsTree a0 a1).bind fun r1 =>
      cond (!r1)
        (some (([] : List Int), false))
        ((spec_l01In a2 0 (w64 (a0.1 - 1))).bind fun r2 =>
          cond (!r2)
            (some (([] : List Int), false))
            ((spec_l15State a0 a1 a2).bind fun r3 =>
              some (r3, true))) :=
  (den_eq Γ X 43 rfl _).trans (by kernel_rfl)
theorem spec_DivisorOk_eq (a0 : (Int × (List (Int × Int)))) (a1 : (List Int)) : spec_DivisorOk a0 a1 =
    (spec_GraphOk a0).bind fun r1 =>
      cond (!r1)
        (some false)
        (cond (((a1.length : Int) : Int) != a0.1)
          (some false)
          (spec_DivisorOk_l0 a1 (a1.length : Int) 0)) :=
  (den_eq Γ X 44 rfl _).trans (by kernel_rfl)
theorem spec_DivisorOk_l0_eq (x17 : (List Int)) (x18 : Int) (x19 : Int) : spec_DivisorOk_l0 x17 x18 x19 =
    cond (decide (x19 < x18))
      (cond (inside x19 x17.length)
        ((spec_l01In (x17.getD x19.toNat 0) (-60) 60).bind fun r2 =>
          cond (!r2)
            (some false)
            (spec_DivisorOk_l0 x17 x18 (w64 (x19 + 1))))
        (none))
      (some true) :=
  (at_eq Γ X 44 [1, 1, 0, 1, 0] _).trans (by kernel_rfl)
theorem spec_IsEffective_eq (a0 : (List Int)) : spec_IsEffective a0 =
    spec_IsEffective_l0 a0 (a0.length : Int) 0 :=
  (den_eq Γ X 45 rfl _).trans (by kernel_rfl)
theorem spec_IsEffective_l0_eq (x5 : (List Int)) (x6 : Int) (x7 : Int) : spec_IsEffective_l0 x5 x6 x7 =
    cond (decide (x7 < x6))
      (cond (inside x7 x5.length)
        (cond (decide (x5.getD x7.toNat 0 < 0))
          (some false)
          (spec_IsEffective_l0 x5 x6 (w64 (x7 + 1))))
        (none))
      (some true) :=
  (at_eq Γ X 45 [1, 0, 1, 0] _).trans (by kernel_rfl)
theorem spec_PileOk_eq (a0 : (Int × (List (Int × Int)))) (a1 : (List Int)) (a2 : Int) : spec_PileOk a0 a1 a2 =
    (spec_DivisorOk a0 a1).bind fun r1 =>
      cond (r1)
        ((spec_l01In a2 0 (w64 (a0.1 - 1))).bind fun r2 =>
          cond (r2)
            ((spec_IsEffective a1).bind fun r3 =>
              cond (r3)
                (cond (inside a2 a1.length)
                  (some (((a1.getD a2.toNat 0) : Int) == 0))
                  (none))
                (some false))
            (some false))
        (some false) :=
  (den_eq Γ X 46 rfl _).trans (by kernel_rfl)
theorem spec_l15Next_eq (a0 : (Int × (List (Int × Int)))) (a1 : Int) (a2 : Int) : spec_l15Next a0 a1 a2 =
    spec_l15Next_l0 a1 a2 a0 (a0.2.length : Int) 1 :=
  (den_eq Γ X 47 rfl _).trans (by kernel_rfl)
theorem spec_l15Next_l0_eq (x1 : Int) (x2 : Int) (x3 : (Int × (List (Int × Int)))) (x7 : Int) (x8 : Int) : spec_l15Next_l0 x1 x2 x3 x7 x8 =
    cond (decide (x8 < x7))
      (cond (decide (x7 = 0))
        (none)
        (cond (inside (Int.tmod (w64 (x2 + x8)) x7) x3.2.length)
          (cond ((((x3.2.getD ((Int.tmod (w64 (x2 + x8)) x7).toNat) (0, 0)).1) : Int) == x1)
            (cond (decide (x7 = 0))
              (none)
              (some (Int.tmod (w64 (x2 + x8)) x7)))
            (cond ((((x3.2.getD ((Int.tmod (w64 (x2 + x8)) x7).toNat) (0, 0)).2) : Int) == x1)
              (cond (decide (x7 = 0))
                (none)
                (some (Int.tmod (w64 (x2 + x8)) x7)))
              (spec_l15Next_l0 x1 x2 x3 x7 (w64 (x8 + 1)))))
          (none)))
      (some x2) :=
  (at_eq Γ X 47 [1, 1, 0, 1, 0] _).trans (by kernel_rfl)
theorem spec_l15Walk_eq (a0 : (Int × (List (Int × Int)))) (a1 : (List Int)) (a2 : Int) (a3 : Int) : spec_l15Walk a0 a1 a2 a3 =
    cond (decide (([] : List Int).length + a1.length ≤ room))
      (spec_l15Walk_l0 a2 a3 a0 (([] : List Int) ++ a1) 0)
      (none) :=
  (den_eq Γ X 48 rfl _).trans (by kernel_rfl)
theorem spec_l15Walk_l0_eq (x2 : Int) (x3 : Int) (x4 : (Int × (List (Int × Int)))) (x11 : (List Int)) (x12 : Int) : spec_l15Walk_l0 x2 x3 x4 x11 x12 =
    cond (decide (x12 ≤ 2000))
      (cond ((x3 : Int) == x2)
        (some (x11, x12, true))
        (cond (inside x3 x11.length)
          ((spec_l15Next x4 x3 (x11.getD x3.toNat 0)).bind fun r1 =>
            cond (inside x3 x11.length)
              (cond (inside x3 (x11.set x3.toNat r1).length)
                (cond (inside ((x11.set x3.toNat r1).getD x3.toNat 0) x4.2.length)
                  ((spec_l15Other (x4.2.getD (((x11.set x3.toNat r1).getD x3.toNat 0).toNat) (0, 0)) x3).bind fun r2 =>
                    spec_l15Walk_l0 x2 r2 x4 (x11.set x3.toNat r1) (w64 (x12 + 1)))
                  (none))
                (none))
              (none))
          (none)))
      (some (([] : List Int), 0, false)) :=
  (at_eq Γ X 48 [1, 1, 0, 1, 0] _).trans (by kernel_rfl)
theorem spec_ActOnTree_eq (a0 : (Int × (List (Int × Int)))) (a1 : (List Int)) (a2 : Int) (a3 : (List Int)) : spec_ActOnTree a0 a1 a2 a3 =
    (spec_StateOfTree a0 a1 a2).bind fun r1 =>
      cond (!r1.2)
        (some (([] : List Int), false))
        ((spec_PileOk a0 a3 a2).bind fun r2 =>
          cond (!r2)
            (some (([] : List Int), false))
            (spec_ActOnTree_l0 a2 a0 r1.1 a3 (a3.length : Int) 0)) :=
  (den_eq Γ X 49 rfl _).trans (by kernel_rfl)
theorem spec_ActOnTree_l0_eq (x2 : Int) (x4 : (Int × (List (Int × Int)))) (x10 : (List Int)) (x34 : (List Int)) (x35 : Int) (x36 : Int) : spec_ActOnTree_l0 x2 x4 x10 x34 x35 x36 =
    cond (decide (x36 < x35))
      (cond (inside x36 x34.length)
        (spec_ActOnTree_l2 x2 x4 x10 x36 (x34.getD x36.toNat 0) 0 x34 x35 x36)
        (none))
      ((spec_TreeOfState x4 x10 x2).bind fun r4 =>
        some (r4.1, r4.2)) :=
  (at_eq Γ X 49 [1, 1, 1, 0, 1, 0] _).trans (by kernel_rfl)
theorem spec_ActOnTree_l2_eq (x2 : Int) (x4 : (Int × (List (Int × Int)))) (x10 : (List Int)) (x12 : Int) (x13 : Int) (x14 : Int) (x34 : (List Int)) (x35 : Int) (x36 : Int) : spec_ActOnTree_l2 x2 x4 x10 x12 x13 x14 x34 x35 x36 =
    cond (decide (x14 < x13))
      ((spec_l15Walk x4 x10 x2 x12).bind fun r3 =>
        cond (!r3.2.2)
          (some (([] : List Int), false))
          (spec_ActOnTree_l2 x2 x4 r3.1 x12 x13 (w64 (x14 + 1)) x34 x35 x36))
      (spec_ActOnTree_l0 x2 x4 x10 x34 x35 (w64 (x36 + 1))) :=
  (at_eq Γ X 49 [1, 1, 1, 0, 1, 0, 0, 1, 1, 0, 0, 1, 1, 0] _).trans (by kernel_rfl)
theorem impl_allWithin_eq (a0 : (List Int)) (a1 : Int) (a2 : Int) : impl_allWithin a0 a1 a2 =
    impl_allWithin_l0 a1 a2 a0 (a0.length : Int) 0 :=
  (den_eq Γ X 50 rfl _).trans (by kernel_rfl)
theorem impl_allWithin_l0_eq (x1 : Int) (x2 : Int) (x9 : (List Int)) (x10 : Int) (x11 : Int) : impl_allWithin_l0 x1 x2 x9 x10 x11 =
    cond (decide (x11 < x10))
      (cond (inside x11 x9.length)
        ((impl_within (x9.getD x11.toNat 0) x1 x2).bind fun r1 =>
          cond (!r1)
            (some false)
            (impl_allWithin_l0 x1 x2 x9 x10 (w64 (x11 + 1))))
        (none))
      (some true) :=
  (at_eq Γ X 50 [1, 0, 1, 0] _).trans (by kernel_rfl)
theorem impl_edgesOf_eq (a0 : (Int × (List (Int × Int)))) (a1 : (List Int)) : impl_edgesOf a0 a1 =
    impl_edgesOf_l0 a0 ([] : List (Int × Int)) a1 (a1.length : Int) 0 :=
  (den_eq Γ X 51 rfl _).trans (by kernel_rfl)
theorem impl_edgesOf_l0_eq (x2 : (Int × (List (Int × Int)))) (x5 : (List (Int × Int))) (x8 : (List Int)) (x9 : Int) (x10 : Int) : impl_edgesOf_l0 x2 x5 x8 x9 x10 =
    cond (decide (x10 < x9))
      (cond (inside x10 x8.length)
        (cond (inside (x8.getD x10.toNat 0) x2.2.length)
          (cond (decide (x5.length + ([x2.2.getD ((x8.getD x10.toNat 0).toNat) (0, 0)] : List (Int × Int)).length ≤ room))
            (impl_edgesOf_l0 x2 (x5 ++ ([x2.2.getD ((x8.getD x10.toNat 0).toNat) (0, 0)] : List (Int × Int))) x8 x9 (w64 (x10 + 1)))
            (none))
          (none))
        (none))
      (some x5) :=
  (at_eq Γ X 51 [1, 1, 0, 1, 0] _).trans (by kernel_rfl)
theorem impl_IsTree_eq (a0 : (Int × (List (Int × Int)))) (a1 : (List Int)) : impl_IsTree a0 a1 =
    (impl_GraphOk a0).bind fun r1 =>
      cond (!r1)
        (some false)
        (cond (((a1.length : Int) : Int) != (w64 (a0.1 - 1)))
          (some false)
          ((impl_allWithin a1 0 (w64 ((a0.2.length : Int) - 1))).bind fun r2 =>
            cond (!r2)
              (some false)
              (impl_IsTree_l0 a1 a0 1))) :=
  (den_eq Γ X 52 rfl _).trans (by kernel_rfl)
theorem impl_IsTree_l0_eq (x1 : (List Int)) (x2 : (Int × (List (Int × Int)))) (x5 : Int) : impl_IsTree_l0 x1 x2 x5 =
    cond (decide (x5 < (x1.length : Int)))
      (cond (inside (w64 (x5 - 1)) x1.length)
        (cond (inside x5 x1.length)
          (cond (decide (x1.getD ((w64 (x5 - 1)).toNat) 0 ≥ x1.getD x5.toNat 0))
            (some false)
            (impl_IsTree_l0 x1 x2 (w64 (x5 + 1))))
          (none))
        (none))
      ((impl_edgesOf x2 x1).bind fun r3 =>
        (impl_connected x2.1 r3).bind fun r4 =>
          some r4) :=
  (at_eq Γ X 52 [1, 1, 0, 1, 0] _).trans (by kernel_rfl)
theorem slices_Index_int_int_eq (a0 : (List Int)) (a1 : Int) : slices_Index_int_int a0 a1 =
    slices_Index_int_int_l0 a0 a1 (a0.length : Int) 0 :=
  (den_eq Γ X 53 rfl _).trans (by kernel_rfl)
theorem slices_Index_int_int_l0_eq (x0 : (List Int)) (x1 : Int) (x7 : Int) (x8 : Int) : slices_Index_int_int_l0 x0 x1 x7 x8 =
    cond (decide (x8 < x7))
      (cond (inside x8 x0.length)
        (cond ((x1 : Int) == (x0.getD x8.toNat 0))
          (some x8)
          (slices_Index_int_int_l0 x0 x1 x7 (w64 (x8 + 1))))
        (none))
      (some (-1)) :=
  (at_eq Γ X 53 [1, 0, 1, 0] _).trans (by kernel_rfl)
theorem slices_Contains_int_int_eq (a0 : (List Int)) (a1 : Int) : slices_Contains_int_int a0 a1 =
    (slices_Index_int_int a0 a1).bind fun r1 =>
      some (decide (r1 ≥ 0)) :=
  (den_eq Γ X 54 rfl _).trans (by kernel_rfl)
theorem impl_StateOfTree_eq (a0 : (Int × (List (Int × Int)))) (a1 : (List Int)) (a2 : Int) : impl_StateOfTree a0 a1 a2 =
    (impl_IsTree a0 a1).bind fun r1 =>
      cond (!r1)
        (some (([] : List Int), false))
        ((impl_within a2 0 (w64 (a0.1 - 1))).bind fun r2 =>
          cond (!r2)
            (some (([] : List Int), false))
            (cond (decide (0 ≤ a0.1) && decide (a0.1 ≤ (room : Int)))
              (impl_StateOfTree_l0 a1 a2 a0 (List.replicate a0.1.toNat (0 : Int)) ((List.replicate a0.1.toNat (0 : Int)).length : Int) 0)
              (none))) :=
  (den_eq Γ X 55 rfl _).trans (by kernel_rfl)
theorem impl_StateOfTree_l0_eq (x1 : (List Int)) (x2 : Int) (x3 : (Int × (List (Int × Int)))) (x8 : (List Int)) (x31 : Int) (x32 : Int) : impl_StateOfTree_l0 x1 x2 x3 x8 x31 x32 =
    cond (decide (x32 < x31))
      (cond (inside x32 x8.length)
        (impl_StateOfTree_l0 x1 x2 x3 (x8.set x32.toNat (-1)) x31 (w64 (x32 + 1)))
        (none))
      (impl_StateOfTree_l2 x1 x3 x8 ([x2] : List Int) 0) :=
  (at_eq Γ X 55 [1, 1, 1, 0, 1, 0] _).trans (by kernel_rfl)
theorem impl_StateOfTree_l2_eq (x1 : (List Int)) (x3 : (Int × (List (Int × Int)))) (x8 : (List Int)) (x10 : (List Int)) (x11 : Int) : impl_StateOfTree_l2 x1 x3 x8 x10 x11 =
    cond (decide (x11 < (x10.length : Int)))
      (impl_StateOfTree_l4 x1 x3 x8 x10 x11 x1 (x1.length : Int) 0)
      (some (x8, true)) :=
  (at_eq Γ X 55 [1, 1, 1, 1, 1, 0, 1, 0] _).trans (by kernel_rfl)
theorem impl_StateOfTree_l4_eq (x1 : (List Int)) (x3 : (Int × (List (Int × Int)))) (x8 : (List Int)) (x10 : (List Int)) (x11 : Int) (x47 : (List Int)) (x48 : Int) (x49 : Int) : impl_StateOfTree_l4 x1 x3 x8 x10 x11 x47 x48 x49 =
    cond (decide (x49 < x48))
      (cond (inside x49 x47.length)
        (cond (inside x11 x10.length)
          ((impl_isAt x3 (x47.getD x49.toNat 0) (x10.getD x11.toNat 0)).bind fun r3 =>
            cond (!r3)
              (impl_StateOfTree_l4 x1 x3 x8 x10 x11 x47 x48 (w64 (x49 + 1)))
              (cond (inside x11 x10.length)
                ((impl_across x3 (x47.getD x49.toNat 0) (x10.getD x11.toNat 0)).bind fun r4 =>
                  (slices_Contains_int_int x10 r4).bind fun r5 =>
                    cond (!r5)
                      (cond (inside r4 x8.length)
                        (cond (decide (x10.length + ([r4] : List Int).length ≤ room))
                          (impl_StateOfTree_l4 x1 x3 (x8.set r4.toNat (x47.getD x49.toNat 0)) (x10 ++ ([r4] : List Int)) x11 x47 x48 (w64 (x49 + 1)))
                          (none))
                        (none))
                      (impl_StateOfTree_l4 x1 x3 x8 x10 x11 x47 x48 (w64 (x49 + 1))))
                (none)))
          (none))
        (none))
      (impl_StateOfTree_l2 x1 x3 x8 x10 (w64 (x11 + 1))) :=
  (at_eq Γ X 55 [1, 1, 1, 1, 1, 0, 1, 0, 0, 1, 0, 0, 1, 0] _).trans (by kernel_rfl)
theorem impl_DivisorOk_eq (a0 : (Int × (List (Int × Int)))) (a1 : (List Int)) : impl_DivisorOk a0 a1 =
    (impl_GraphOk a0).bind fun r1 =>
      cond (r1)
        (cond (((a1.length : Int) : Int) == a0.1)
          ((impl_allWithin a1 (-60) 60).bind fun r2 =>
            some r2)
          (some false))
        (some false) :=
  (den_eq Γ X 56 rfl _).trans (by kernel_rfl)
theorem impl_IsEffective_eq (a0 : (List Int)) : impl_IsEffective a0 =
    impl_IsEffective_l0 a0 (a0.length : Int) 0 :=
  (den_eq Γ X 57 rfl _).trans (by kernel_rfl)
theorem impl_IsEffective_l0_eq (x5 : (List Int)) (x6 : Int) (x7 : Int) : impl_IsEffective_l0 x5 x6 x7 =
    cond (decide (x7 < x6))
      (cond (inside x7 x5.length)
        (cond (decide (x5.getD x7.toNat 0 < 0))
          (some false)
          (impl_IsEffective_l0 x5 x6 (w64 (x7 + 1))))
        (none))
      (some true) :=
  (at_eq Γ X 57 [1, 0, 1, 0] _).trans (by kernel_rfl)
theorem impl_PileOk_eq (a0 : (Int × (List (Int × Int)))) (a1 : (List Int)) (a2 : Int) : impl_PileOk a0 a1 a2 =
    (impl_DivisorOk a0 a1).bind fun r1 =>
      cond (r1)
        ((impl_within a2 0 (w64 (a0.1 - 1))).bind fun r2 =>
          cond (r2)
            ((impl_IsEffective a1).bind fun r3 =>
              cond (r3)
                (cond (inside a2 a1.length)
                  (some (((a1.getD a2.toNat 0) : Int) == 0))
                  (none))
                (some false))
            (some false))
        (some false) :=
  (den_eq Γ X 58 rfl _).trans (by kernel_rfl)
theorem impl_copyInts_eq (a0 : (List Int)) : impl_copyInts a0 =
    cond (decide (([] : List Int).length + a0.length ≤ room))
      (some (([] : List Int) ++ a0))
      (none) :=
  (den_eq Γ X 59 rfl _).trans (by kernel_rfl)
theorem impl_NextRotor_eq (a0 : (Int × (List (Int × Int)))) (a1 : Int) (a2 : Int) : impl_NextRotor a0 a1 a2 =
    (impl_isVertex a0 a1).bind fun r1 =>
      cond (!r1)
        (some (-1))
        ((impl_isAt a0 a2 a1).bind fun r2 =>
          cond (!r2)
            (some (-1))
            (cond (decide ((a0.2.length : Int) = 0))
              (none)
              (impl_NextRotor_l0 a1 a0 (a0.2.length : Int) (Int.tmod (w64 (a2 + 1)) (a0.2.length : Int))))) :=
  (den_eq Γ X 60 rfl _).trans (by kernel_rfl)
theorem impl_NextRotor_l0_eq (x1 : Int) (x3 : (Int × (List (Int × Int)))) (x7 : Int) (x8 : Int) : impl_NextRotor_l0 x1 x3 x7 x8 =
    (impl_isAt x3 x8 x1).bind fun r3 =>
      cond (!r3)
        (cond (decide (x7 = 0))
          (none)
          (impl_NextRotor_l0 x1 x3 x7 (Int.tmod (w64 (x8 + 1)) x7)))
        (some x8) :=
  (at_eq Γ X 60 [1, 1, 1, 1, 0, 0] _).trans (by kernel_rfl)
theorem impl_WalkToSink_eq (a0 : (Int × (List (Int × Int)))) (a1 : (List Int)) (a2 : Int) (a3 : Int) : impl_WalkToSink a0 a1 a2 a3 =
    (impl_RotorsOk a0 a1 a2).bind fun r1 =>
      cond (!r1)
        (some (([] : List Int), 0, false))
        ((impl_within a3 0 (w64 (a0.1 - 1))).bind fun r2 =>
          cond (!r2)
            (some (([] : List Int), 0, false))
            ((impl_copyInts a1).bind fun r3 =>
              impl_WalkToSink_l0 a2 a3 a0 r3 0)) :=
  (den_eq Γ X 61 rfl _).trans (by kernel_rfl)
theorem impl_WalkToSink_l0_eq (x2 : Int) (x3 : Int) (x4 : (Int × (List (Int × Int)))) (x11 : (List Int)) (x12 : Int) : impl_WalkToSink_l0 x2 x3 x4 x11 x12 =
    cond ((x3 : Int) != x2)
      (cond ((x12 : Int) == 2000)
        (some (([] : List Int), 0, false))
        (cond (inside x3 x11.length)
          ((impl_NextRotor x4 x3 (x11.getD x3.toNat 0)).bind fun r4 =>
            cond (inside x3 x11.length)
              (cond (inside x3 (x11.set x3.toNat r4).length)
                ((impl_across x4 ((x11.set x3.toNat r4).getD x3.toNat 0) x3).bind fun r5 =>
                  impl_WalkToSink_l0 x2 r5 x4 (x11.set x3.toNat r4) (w64 (x12 + 1)))
                (none))
              (none))
          (none)))
      (some (x11, x12, true)) :=
  (at_eq Γ X 61 [1, 1, 1, 1, 0, 0] _).trans (by kernel_rfl)
theorem impl_ActOnTree_eq (a0 : (Int × (List (Int × Int)))) (a1 : (List Int)) (a2 : Int) (a3 : (List Int)) : impl_ActOnTree a0 a1 a2 a3 =
    (impl_StateOfTree a0 a1 a2).bind fun r1 =>
      cond (!r1.2)
        (some (([] : List Int), false))
        ((impl_PileOk a0 a3 a2).bind fun r2 =>
          cond (!r2)
            (some (([] : List Int), false))
            (impl_ActOnTree_l0 a2 a0 r1.1 a3 (a3.length : Int) 0)) :=
  (den_eq Γ X 62 rfl _).trans (by kernel_rfl)
theorem impl_ActOnTree_l0_eq (x2 : Int) (x4 : (Int × (List (Int × Int)))) (x10 : (List Int)) (x34 : (List Int)) (x35 : Int) (x36 : Int) : impl_ActOnTree_l0 x2 x4 x10 x34 x35 x36 =
    cond (decide (x36 < x35))
      (cond (inside x36 x34.length)
        (impl_ActOnTree_l2 x2 x4 x10 x36 (x34.getD x36.toNat 0) 0 x34 x35 x36)
        (none))
      ((impl_TreeOfState x4 x10 x2).bind fun r4 =>
        some (r4.1, r4.2)) :=
  (at_eq Γ X 62 [1, 1, 1, 0, 1, 0] _).trans (by kernel_rfl)
theorem impl_ActOnTree_l2_eq (x2 : Int) (x4 : (Int × (List (Int × Int)))) (x10 : (List Int)) (x12 : Int) (x13 : Int) (x14 : Int) (x34 : (List Int)) (x35 : Int) (x36 : Int) : impl_ActOnTree_l2 x2 x4 x10 x12 x13 x14 x34 x35 x36 =
    cond (decide (x14 < x13))
      ((impl_WalkToSink x4 x10 x2 x12).bind fun r3 =>
        cond (!r3.2.2)
          (some (([] : List Int), false))
          (impl_ActOnTree_l2 x2 x4 r3.1 x12 x13 (w64 (x14 + 1)) x34 x35 x36))
      (impl_ActOnTree_l0 x2 x4 x10 x34 x35 (w64 (x36 + 1))) :=
  (at_eq Γ X 62 [1, 1, 1, 0, 1, 0, 0, 1, 1, 0, 0, 1, 1, 0] _).trans (by kernel_rfl)
theorem laws_FnExactActOnTree_eq (a0 : (Int × (List (Int × Int)))) (a1 : (List Int)) (a2 : Int) (a3 : (List Int)) : laws_FnExactActOnTree a0 a1 a2 a3 =
    cond (decide ((a1.length : Int) > 1048576))
      (some true)
      (cond (decide ((a3.length : Int) > 1048576))
        (some true)
        ((laws_szGraph a0 1048576).bind fun r1 =>
          cond (decide (r1 < 0))
            (some true)
            ((laws_toGraph a0).bind fun r2 =>
              (laws_toIntS a1).bind fun r3 =>
                (laws_toIntS a3).bind fun r4 =>
                  (spec_ActOnTree r2 r3 a2 r4).bind fun r5 =>
                    (laws_toGraph a0).bind fun r6 =>
                      (laws_toIntS a1).bind fun r7 =>
                        (laws_toIntS a3).bind fun r8 =>
                          (impl_ActOnTree r6 r7 a2 r8).bind fun r9 =>
                            laws_FnExactActOnTree_c14 a1 a2 a3 a0 r5.1 r5.2 r6 r7 r8 r9.1 r9.2))) :=
  (den_eq Γ X 63 rfl _).trans (by kernel_rfl)
theorem laws_FnExactActOnTree_c14_eq (x1 : (List Int)) (x2 : Int) (x3 : (List Int)) (x4 : (Int × (List (Int × Int)))) (x10 : (List Int)) (x11 : Bool) (x12 : (Int × (List (Int × Int)))) (x13 : (List Int)) (x14 : (List Int)) (x15 : (List Int)) (x16 : Bool) : laws_FnExactActOnTree_c14 x1 x2 x3 x4 x10 x11 x12 x13 x14 x15 x16 =
    (laws_eqIntS x15 x10).bind fun r10 =>
      cond (!r10)
        (some false)
        (cond (!((x16 : Bool) == x11))
          (some false)
          ((laws_toGraph x4).bind fun r11 =>
            (laws_eqGraph x12 r11).bind fun r12 =>
              cond (!r12)
                (some false)
                ((laws_toIntS x1).bind fun r13 =>
                  (laws_eqIntS x13 r13).bind fun r14 =>
                    cond (!r14)
                      (some false)
                      ((laws_toIntS x3).bind fun r15 =>
                        (laws_eqIntS x14 r15).bind fun r16 =>
                          cond (!r16)
                            (some false)
                            ((laws_markGraph x12 1).bind fun r17 =>
                              (laws_markIntS x13 r17.1).bind fun r18 =>
                                (laws_markIntS x14 r18.1).bind fun r19 =>
                                  cond (decide (r19.1 < 0))
                                    (some false)
                                    ((laws_eqIntS x15 x10).bind fun r20 =>
                                      cond (!r20)
                                        (some false)
                                        (cond (!((x16 : Bool) == x11))
                                          (some false)
                                          (laws_FnExactActOnTree_c29 x1 x2 x3 x4 x10 x11 x15 1)))))))) :=
  (at_eq Γ X 63 [1, 1, 1, 1, 1, 1, 1, 1, 1, 1, 1, 0, 0] _).trans (by kernel_rfl)
theorem laws_FnExactActOnTree_c29_eq (x1 : (List Int)) (x2 : Int) (x3 : (List Int)) (x4 : (Int × (List (Int × Int)))) (x10 : (List Int)) (x11 : Bool) (x15 : (List Int)) (x18 : Int) : laws_FnExactActOnTree_c29 x1 x2 x3 x4 x10 x11 x15 x18 =
    (laws_markIntS x15 x18).bind fun r21 =>
      (laws_heldIntS r21.2 1).bind fun r22 =>
        cond (decide (r22 < 0))
          (some false)
          (cond ((r22 : Int) != r21.1)
            (some false)
            ((laws_toGraph x4).bind fun r23 =>
              (laws_toIntS x1).bind fun r24 =>
                (laws_toIntS x3).bind fun r25 =>
                  (impl_ActOnTree r23 r24 x2 r25).bind fun r26 =>
                    (laws_eqIntS r26.1 x10).bind fun r27 =>
                      cond (!r27)
                        (some false)
                        (cond (!((r26.2 : Bool) == x11))
                          (some false)
                          ((laws_heldIntS r21.2 1).bind fun r28 =>
                            laws_FnExactActOnTree_c41 r21.1 r28)))) :=
  (at_eq Γ X 63 [1, 1, 1, 1, 1, 1, 1, 1, 1, 1, 1, 1, 1, 1, 1, 1, 1, 1, 1, 1, 1, 0] _).trans (by kernel_rfl)
theorem laws_FnExactActOnTree_c41_eq (x18 : Int) (x19 : Int) : laws_FnExactActOnTree_c41 x18 x19 =
    cond (decide (x19 < 0))
      (some false)
      (cond ((x19 : Int) != x18)
        (some false)
        (some true)) :=
  (at_eq Γ X 63 [1, 1, 1, 1, 1, 1, 1, 1, 1, 1, 1, 1, 1, 1, 1, 1, 1, 1, 1, 1, 1, 1, 1, 1, 1, 1, 1, 1, 1, 1, 0, 0] _).trans (by kernel_rfl)
theorem spec_l01New_eq (a0 : (List Int)) : spec_l01New a0 =
    spec_l01New_l0 a0 (w64 (2069 + (a0.length : Int))) 0 :=
  (den_eq Γ X 64 rfl _).trans (by kernel_rfl)
theorem spec_l01New_l0_eq (x0 : (List Int)) (x3 : Int) (x4 : Int) : spec_l01New_l0 x0 x3 x4 =
    cond (decide (x4 < (x0.length : Int)))
      (cond (decide (x4 < 4000))
        (cond (inside x4 x0.length)
          (spec_l01New_l0 x0 (bits .and .i64 (w64 ((w64 ((w64 (x3 * 97)) + (w64 (x0.getD x4.toNat 0)))) + 7)) 1073741823) (w64 (x4 + 1)))
          (none))
        (some (x0, 0, x3)))
      (some (x0, 0, x3)) :=
  (at_eq Γ X 64 [1, 1, 0, 1, 0] _).trans (by kernel_rfl)
theorem spec_l01Byte_eq (a0 : ((List Int) × (Int × Int))) : spec_l01Byte a0 =
    cond (decide (a0.2.1 < (a0.1.length : Int)))
      (cond (inside a0.2.1 a0.1.length)
        (spec_l01Byte_c5 (a0.1, a0.2.1, w64 ((w64 (a0.2.2 * 6364136223846793005)) + 1442695040888963407)) (bits .and .i64 (w64 ((bits .and .i64 (bits .xor .i64 (Int.fdiv (w64 ((w64 (a0.2.2 * 6364136223846793005)) + 1442695040888963407)) (2 ^ 33)) (Int.fdiv (w64 ((w64 (a0.2.2 * 6364136223846793005)) + 1442695040888963407)) (2 ^ 45))) 255) + (w64 (a0.1.getD a0.2.1.toNat 0)))) 255))
        (none))
      (some (bits .and .i64 (bits .xor .i64 (Int.fdiv (w64 ((w64 (a0.2.2 * 6364136223846793005)) + 1442695040888963407)) (2 ^ 33)) (Int.fdiv (w64 ((w64 (a0.2.2 * 6364136223846793005)) + 1442695040888963407)) (2 ^ 45))) 255, a0.1, a0.2.1, w64 ((w64 (a0.2.2 * 6364136223846793005)) + 1442695040888963407))) :=
  (den_eq Γ X 65 rfl _).trans (by kernel_rfl)
theorem spec_l01Byte_c5_eq (x0 : ((List Int) × (Int × Int))) (x3 : Int) : spec_l01Byte_c5 x0 x3 =
    some (x3, x0.1, w64 (x0.2.1 + 1), x0.2.2) :=
  (at_eq Γ X 65 [1, 1, 1, 0, 1, 0, 1] _).trans (by kernel_rfl)
theorem spec_l01Below_eq (a0 : ((List Int) × (Int × Int))) (a1 : Int) : spec_l01Below a0 a1 =
    cond (decide (a1 ≤ 0))
      (some (0, a0))
      (cond (decide (a1 ≤ 256))
        ((spec_l01Byte a0).bind fun r1 =>
          cond (decide (a1 = 0))
            (none)
            (some (Int.tmod r1.1 a1, r1.2)))
        ((spec_l01Byte a0).bind fun r2 =>
          (spec_l01Byte r2.2).bind fun r3 =>
            (spec_l01Byte r3.2).bind fun r4 =>
              (spec_l01Byte r4.2).bind fun r5 =>
                cond (decide (a1 = 0))
                  (none)
                  (some (Int.tmod (w64 ((w64 ((w64 ((w64 (r2.1 * 16777216)) + (w64 (r3.1 * 65536)))) + (w64 (r4.1 * 256)))) + r5.1)) a1, r5.2)))) :=
  (den_eq Γ X 66 rfl _).trans (by kernel_rfl)
theorem spec_l02Vert_eq (a0 : (Int × (List (Int × Int)))) (a1 : Int) : spec_l02Vert a0 a1 =
    cond (decide (a1 ≥ 0))
      (some (decide (a1 < a0.1)))
      (some false) :=
  (den_eq Γ X 67 rfl _).trans (by kernel_rfl)
theorem spec_Multiplicity_eq (a0 : (Int × (List (Int × Int)))) (a1 : Int) (a2 : Int) : spec_Multiplicity a0 a1 a2 =
    (spec_l02Vert a0 a1).bind fun r1 =>
      cond (!r1)
        (some 0)
        ((spec_l02Vert a0 a2).bind fun r2 =>
          cond (!r2)
            (some 0)
            (cond ((a1 : Int) == a2)
              (some 0)
              (spec_Multiplicity_l0 a1 a2 0 a0.2 (a0.2.length : Int) 0))) :=
  (den_eq Γ X 68 rfl _).trans (by kernel_rfl)
theorem spec_Multiplicity_l0_eq (x1 : Int) (x2 : Int) (x7 : Int) (x26 : (List (Int × Int))) (x27 : Int) (x28 : Int) : spec_Multiplicity_l0 x1 x2 x7 x26 x27 x28 =
    cond (decide (x28 < x27))
      (cond (inside x28 x26.length)
        (cond ((((x26.getD x28.toNat (0, 0)).1) : Int) == (imin x1 x2))
          (cond ((((x26.getD x28.toNat (0, 0)).2) : Int) == (imax x1 x2))
            (spec_Multiplicity_l0 x1 x2 (w64 (x7 + 1)) x26 x27 (w64 (x28 + 1)))
            (spec_Multiplicity_l0 x1 x2 x7 x26 x27 (w64 (x28 + 1))))
          (spec_Multiplicity_l0 x1 x2 x7 x26 x27 (w64 (x28 + 1))))
        (none))
      (some x7) :=
  (at_eq Γ X 68 [1, 1, 1, 0, 1, 0] _).trans (by kernel_rfl)
theorem spec_AddEdge_eq (a0 : (Int × (List (Int × Int)))) (a1 : Int) (a2 : Int) : spec_AddEdge a0 a1 a2 =
    (spec_GraphOk a0).bind fun r1 =>
      cond (!r1)
        (some ((0, ([] : List (Int × Int))), false))
        ((spec_l01In a1 0 (w64 (a0.1 - 1))).bind fun r2 =>
          cond (!r2)
            (some ((0, ([] : List (Int × Int))), false))
            ((spec_l01In a2 0 (w64 (a0.1 - 1))).bind fun r3 =>
              cond (!r3)
                (some ((0, ([] : List (Int × Int))), false))
                (cond ((a1 : Int) == a2)
                  (some ((0, ([] : List (Int × Int))), false))
                  (cond (((a0.2.length : Int) : Int) == 12)
                    (some ((0, ([] : List (Int × Int))), false))
                    (spec_AddEdge_c4 a0 (0, ([] : List (Int × Int))) (imin a1 a2, imax a1 a2)))))) :=
  (den_eq Γ X 69 rfl _).trans (by kernel_rfl)
theorem spec_AddEdge_l0_eq (x6 : (Int × (List (Int × Int)))) (x8 : (Int × Int)) (x9 : (Int × (List (Int × Int)))) (x10 : Bool) (x55 : (List (Int × Int))) (x56 : Int) (x57 : Int) : spec_AddEdge_l0 x6 x8 x9 x10 x55 x56 x57 =
    cond (decide (x57 < x56))
      (cond (inside x57 x55.length)
        (cond (!x10)
          (cond (decide ((x55.getD x57.toNat (0, 0)).1 > x8.1))
            (cond (decide (x9.2.length + ([x8] : List (Int × Int)).length ≤ room))
              (cond (decide ((x9.2 ++ ([x8] : List (Int × Int))).length + ([x55.getD x57.toNat (0, 0)] : List (Int × Int)).length ≤ room))
                (spec_AddEdge_c13 x6 x8 (x9.1, (x9.2 ++ ([x8] : List (Int × Int))) ++ ([x55.getD x57.toNat (0, 0)] : List (Int × Int))) true x55 x56 x57)
                (none))
              (none))
            (cond ((((x55.getD x57.toNat (0, 0)).1) : Int) == x8.1)
              (cond (decide ((x55.getD x57.toNat (0, 0)).2 > x8.2))
                (cond (decide (x9.2.length + ([x8] : List (Int × Int)).length ≤ room))
                  (cond (decide ((x9.2 ++ ([x8] : List (Int × Int))).length + ([x55.getD x57.toNat (0, 0)] : List (Int × Int)).length ≤ room))
                    (spec_AddEdge_c13 x6 x8 (x9.1, (x9.2 ++ ([x8] : List (Int × Int))) ++ ([x55.getD x57.toNat (0, 0)] : List (Int × Int))) true x55 x56 x57)
                    (none))
                  (none))
                (cond (decide (x9.2.length + ([x55.getD x57.toNat (0, 0)] : List (Int × Int)).length ≤ room))
                  (spec_AddEdge_c13 x6 x8 (x9.1, x9.2 ++ ([x55.getD x57.toNat (0, 0)] : List (Int × Int))) x10 x55 x56 x57)
                  (none)))
              (cond (decide (x9.2.length + ([x55.getD x57.toNat (0, 0)] : List (Int × Int)).length ≤ room))
                (spec_AddEdge_c13 x6 x8 (x9.1, x9.2 ++ ([x55.getD x57.toNat (0, 0)] : List (Int × Int))) x10 x55 x56 x57)
                (none))))
          (cond (decide (x9.2.length + ([x55.getD x57.toNat (0, 0)] : List (Int × Int)).length ≤ room))
            (spec_AddEdge_c13 x6 x8 (x9.1, x9.2 ++ ([x55.getD x57.toNat (0, 0)] : List (Int × Int))) x10 x55 x56 x57)
            (none)))
        (none))
      (cond (!x10)
        (cond (decide (x9.2.length + ([x8] : List (Int × Int)).length ≤ room))
          (some ((x9.1, x9.2 ++ ([x8] : List (Int × Int))), true))
          (none))
        (some (x9, true))) :=
  (at_eq Γ X 69 [1, 1, 1, 1, 1, 0, 1, 0] _).trans (by kernel_rfl)
theorem spec_AddEdge_c4_eq (x3 : (Int × (List (Int × Int)))) (x6 : (Int × (List (Int × Int)))) (x8 : (Int × Int)) : spec_AddEdge_c4 x3 x6 x8 =
    spec_AddEdge_l0 x6 x8 (x3.1, ([] : List (Int × Int))) false x3.2 (x3.2.length : Int) 0 :=
  (at_eq Γ X 69 [1, 1, 1, 0] _).trans (by kernel_rfl)
theorem spec_AddEdge_c13_eq (x6 : (Int × (List (Int × Int)))) (x8 : (Int × Int)) (x9 : (Int × (List (Int × Int)))) (x10 : Bool) (x55 : (List (Int × Int))) (x56 : Int) (x57 : Int) : spec_AddEdge_c13 x6 x8 x9 x10 x55 x56 x57 =
    spec_AddEdge_l0 x6 x8 x9 x10 x55 x56 (w64 (x57 + 1)) :=
  (at_eq Γ X 69 [1, 1, 1, 1, 1, 0, 1, 0, 0, 1, 1, 1] _).trans (by kernel_rfl)
theorem spec_l02Draw_eq (a0 : ((List Int) × (Int × Int))) (a1 : Int) : spec_l02Draw a0 a1 =
    (spec_l01Below a0 (w64 (a1 - 1))).bind fun r1 =>
      spec_l02Draw_l0 r1.2 (0, ([] : List (Int × Int))) (1, ([] : List (Int × Int))) (w64 (2 + r1.1)) 1 :=
  (den_eq Γ X 70 rfl _).trans (by kernel_rfl)
theorem spec_l02Draw_l0_eq (x0 : ((List Int) × (Int × Int))) (x4 : (Int × (List (Int × Int)))) (x5 : (Int × (List (Int × Int)))) (x6 : Int) (x7 : Int) : spec_l02Draw_l0 x0 x4 x5 x6 x7 =
    cond (decide (x7 < x6))
      ((spec_l01Below x0 x7).bind fun r2 =>
        cond (decide (x5.2.length + ([(r2.1, x7)] : List (Int × Int)).length ≤ room))
          (spec_l02Draw_l0 r2.2 x4 (w64 (x7 + 1), x5.2 ++ ([(r2.1, x7)] : List (Int × Int))) x6 (w64 (x7 + 1)))
          (none))
      (spec_l02Draw_l2 x0 x4 x5 x6 (x6, ([] : List (Int × Int))) 0) :=
  (at_eq Γ X 70 [1, 1, 1, 0, 1, 0] _).trans (by kernel_rfl)
theorem spec_l02Draw_l2_eq (x0 : ((List Int) × (Int × Int))) (x4 : (Int × (List (Int × Int)))) (x5 : (Int × (List (Int × Int)))) (x6 : Int) (x9 : (Int × (List (Int × Int)))) (x10 : Int) : spec_l02Draw_l2 x0 x4 x5 x6 x9 x10 =
    cond (decide (x10 < x6))
      (spec_l02Draw_l4 x0 x4 x5 x6 x9 x10 (w64 (x10 + 1)))
      ((spec_l01Below x0 5).bind fun r4 =>
        spec_l02Draw_l8 r4.2 x4 x6 x9 r4.1) :=
  (at_eq Γ X 70 [1, 1, 1, 1, 1, 0, 1, 0] _).trans (by kernel_rfl)
theorem spec_l02Draw_l4_eq (x0 : ((List Int) × (Int × Int))) (x4 : (Int × (List (Int × Int)))) (x5 : (Int × (List (Int × Int)))) (x6 : Int) (x9 : (Int × (List (Int × Int)))) (x10 : Int) (x11 : Int) : spec_l02Draw_l4 x0 x4 x5 x6 x9 x10 x11 =
    cond (decide (x11 < x6))
      ((spec_Multiplicity x5 x10 x11).bind fun r3 =>
        spec_l02Draw_l6 x0 x4 x5 x6 x9 x10 x11 r3)
      (spec_l02Draw_l2 x0 x4 x5 x6 x9 (w64 (x10 + 1))) :=
  (at_eq Γ X 70 [1, 1, 1, 1, 1, 0, 1, 0, 0, 1, 0, 0, 1, 0] _).trans (by kernel_rfl)
theorem spec_l02Draw_l6_eq (x0 : ((List Int) × (Int × Int))) (x4 : (Int × (List (Int × Int)))) (x5 : (Int × (List (Int × Int)))) (x6 : Int) (x9 : (Int × (List (Int × Int)))) (x10 : Int) (x11 : Int) (x12 : Int) : spec_l02Draw_l6 x0 x4 x5 x6 x9 x10 x11 x12 =
    cond (decide (x12 > 0))
      (cond (decide (x9.2.length + ([(x10, x11)] : List (Int × Int)).length ≤ room))
        (spec_l02Draw_l6 x0 x4 x5 x6 (x9.1, x9.2 ++ ([(x10, x11)] : List (Int × Int))) x10 x11 (w64 (x12 - 1)))
        (none))
      (spec_l02Draw_l4 x0 x4 x5 x6 x9 x10 (w64 (x11 + 1))) :=
  (at_eq Γ X 70 [1, 1, 1, 1, 1, 0, 1, 0, 0, 1, 0, 0, 1, 0, 0, 1, 0, 0, 1, 0] _).trans (by kernel_rfl)
theorem spec_l02Draw_l8_eq (x0 : ((List Int) × (Int × Int))) (x4 : (Int × (List (Int × Int)))) (x6 : Int) (x9 : (Int × (List (Int × Int)))) (x13 : Int) : spec_l02Draw_l8 x0 x4 x6 x9 x13 =
    cond (decide (x13 > 0))
      ((spec_l01Below x0 x6).bind fun r5 =>
        (spec_l01Below r5.2 (w64 (x6 - 1))).bind fun r6 =>
          cond (decide (x6 = 0))
            (none)
            ((spec_AddEdge x9 r5.1 (Int.tmod (w64 ((w64 (r5.1 + 1)) + r6.1)) x6)).bind fun r7 =>
              cond (r7.2)
                (spec_l02Draw_l8 r6.2 x4 x6 r7.1 (w64 (x13 - 1)))
                (spec_l02Draw_l8 r6.2 x4 x6 x9 (w64 (x13 - 1)))))
      (some (x9, x0)) :=
  (at_eq Γ X 70 [1, 1, 1, 1, 1, 1, 0, 1, 0] _).trans (by kernel_rfl)
theorem spec_l02Graph_eq (a0 : ((List Int) × (Int × Int))) : spec_l02Graph a0 =
    (spec_l02Draw a0 5).bind fun r1 =>
      some (r1.1, r1.2) :=
  (den_eq Γ X 71 rfl _).trans (by kernel_rfl)
theorem spec_Valence_eq (a0 : (Int × (List (Int × Int)))) (a1 : Int) : spec_Valence a0 a1 =
    (spec_l02Vert a0 a1).bind fun r1 =>
      cond (!r1)
        (some 0)
        (spec_Valence_l0 a1 0 a0.2 (a0.2.length : Int) 0) :=
  (den_eq Γ X 72 rfl _).trans (by kernel_rfl)
theorem spec_Valence_l0_eq (x1 : Int) (x5 : Int) (x13 : (List (Int × Int))) (x14 : Int) (x15 : Int) : spec_Valence_l0 x1 x5 x13 x14 x15 =
    cond (decide (x15 < x14))
      (cond (inside x15 x13.length)
        (cond ((((x13.getD x15.toNat (0, 0)).1) : Int) == x1)
          (spec_Valence_l0 x1 (w64 (x5 + 1)) x13 x14 (w64 (x15 + 1)))
          (cond ((((x13.getD x15.toNat (0, 0)).2) : Int) == x1)
            (spec_Valence_l0 x1 (w64 (x5 + 1)) x13 x14 (w64 (x15 + 1)))
            (spec_Valence_l0 x1 x5 x13 x14 (w64 (x15 + 1)))))
        (none))
      (some x5) :=
  (at_eq Γ X 72 [1, 1, 1, 0, 1, 0] _).trans (by kernel_rfl)
theorem spec_LaplacianOf_eq (a0 : (Int × (List (Int × Int)))) : spec_LaplacianOf a0 =
    (spec_GraphOk a0).bind fun r1 =>
      cond (!r1)
        (some ([] : List (List Int)))
        (spec_LaplacianOf_l0 a0 ([] : List (List Int)) 0) :=
  (den_eq Γ X 73 rfl _).trans (by kernel_rfl)
theorem spec_LaplacianOf_l0_eq (x1 : (Int × (List (Int × Int)))) (x3 : (List (List Int))) (x4 : Int) : spec_LaplacianOf_l0 x1 x3 x4 =
    cond (decide (x4 < x1.1))
      (spec_LaplacianOf_l2 x1 x3 x4 ([] : List Int) 0)
      (some x3) :=
  (at_eq Γ X 73 [1, 1, 1, 0, 1, 0] _).trans (by kernel_rfl)
theorem spec_LaplacianOf_l2_eq (x1 : (Int × (List (Int × Int)))) (x3 : (List (List Int))) (x4 : Int) (x5 : (List Int)) (x6 : Int) : spec_LaplacianOf_l2 x1 x3 x4 x5 x6 =
    cond (decide (x6 < x1.1))
      (cond ((x4 : Int) == x6)
        ((spec_Valence x1 x4).bind fun r2 =>
          cond (decide (x5.length + ([r2] : List Int).length ≤ room))
            (spec_LaplacianOf_l2 x1 x3 x4 (x5 ++ ([r2] : List Int)) (w64 (x6 + 1)))
            (none))
        ((spec_Multiplicity x1 x4 x6).bind fun r3 =>
          cond (decide (x5.length + ([w64 (0 - r3)] : List Int).length ≤ room))
            (spec_LaplacianOf_l2 x1 x3 x4 (x5 ++ ([w64 (0 - r3)] : List Int)) (w64 (x6 + 1)))
            (none)))
      (cond (decide (x3.length + ([x5] : List (List Int)).length ≤ room))
        (spec_LaplacianOf_l0 x1 (x3 ++ ([x5] : List (List Int))) (w64 (x4 + 1)))
        (none)) :=
  (at_eq Γ X 73 [1, 1, 1, 0, 1, 0, 0, 1, 0, 0, 1, 0, 1, 0] _).trans (by kernel_rfl)
theorem spec_ReducedLaplacian_eq (a0 : (Int × (List (Int × Int)))) (a1 : Int) : spec_ReducedLaplacian a0 a1 =
    (spec_GraphOk a0).bind fun r1 =>
      cond (!r1)
        (some ([] : List (List Int)))
        ((spec_l01In a1 0 (w64 (a0.1 - 1))).bind fun r2 =>
          cond (!r2)
            (some ([] : List (List Int)))
            ((spec_LaplacianOf a0).bind fun r3 =>
              spec_ReducedLaplacian_l0 a1 ([] : List (List Int)) r3 (r3.length : Int) 0)) :=
  (den_eq Γ X 74 rfl _).trans (by kernel_rfl)
theorem spec_ReducedLaplacian_l0_eq (x1 : Int) (x5 : (List (List Int))) (x21 : (List (List Int))) (x22 : Int) (x23 : Int) : spec_ReducedLaplacian_l0 x1 x5 x21 x22 x23 =
    cond (decide (x23 < x22))
      (cond (inside x23 x21.length)
        (cond ((x23 : Int) != x1)
          (cond (decide (0 ≤ 0) && decide (0 ≤ x1) && decide (x1 ≤ ((x21.getD x23.toNat ([] : List Int)).length : Int)))
            (cond (decide (([] : List Int).length + (((x21.getD x23.toNat ([] : List Int)).take x1.toNat).drop 0).length ≤ room))
              (cond (decide (0 ≤ w64 (x1 + 1)) && decide (w64 (x1 + 1) ≤ ((x21.getD x23.toNat ([] : List Int)).length : Int)) && decide (((x21.getD x23.toNat ([] : List Int)).length : Int) ≤ ((x21.getD x23.toNat ([] : List Int)).length : Int)))
                (cond (decide ((([] : List Int) ++ (((x21.getD x23.toNat ([] : List Int)).take x1.toNat).drop 0)).length + (((x21.getD x23.toNat ([] : List Int)).take (((x21.getD x23.toNat ([] : List Int)).length : Int).toNat)).drop ((w64 (x1 + 1)).toNat)).length ≤ room))
                  (cond (decide (x5.length + ([(([] : List Int) ++ (((x21.getD x23.toNat ([] : List Int)).take x1.toNat).drop 0)) ++ (((x21.getD x23.toNat ([] : List Int)).take (((x21.getD x23.toNat ([] : List Int)).length : Int).toNat)).drop ((w64 (x1 + 1)).toNat))] : List (List Int)).length ≤ room))
                    (spec_ReducedLaplacian_l0 x1 (x5 ++ ([(([] : List Int) ++ (((x21.getD x23.toNat ([] : List Int)).take x1.toNat).drop 0)) ++ (((x21.getD x23.toNat ([] : List Int)).take (((x21.getD x23.toNat ([] : List Int)).length : Int).toNat)).drop ((w64 (x1 + 1)).toNat))] : List (List Int))) x21 x22 (w64 (x23 + 1)))
                    (none))
                  (none))
                (none))
              (none))
            (none))
          (spec_ReducedLaplacian_l0 x1 x5 x21 x22 (w64 (x23 + 1))))
        (none))
      (some x5) :=
  (at_eq Γ X 74 [1, 1, 1, 0, 1, 0] _).trans (by kernel_rfl)
theorem spec_MatrixOk_eq (a0 : (List (List Int))) : spec_MatrixOk a0 =
    cond (decide ((a0.length : Int) > 6))
      (some false)
      (spec_MatrixOk_l0 a0 a0 (a0.length : Int) 0) :=
  (den_eq Γ X 75 rfl _).trans (by kernel_rfl)
theorem spec_MatrixOk_l0_eq (x0 : (List (List Int))) (x10 : (List (List Int))) (x11 : Int) (x12 : Int) : spec_MatrixOk_l0 x0 x10 x11 x12 =
    cond (decide (x12 < x11))
      (cond (inside x12 x10.length)
        (cond ((((x10.getD x12.toNat ([] : List Int)).length : Int) : Int) != (x0.length : Int))
          (some false)
          (spec_MatrixOk_l2 x0 x10 x11 x12 (x10.getD x12.toNat ([] : List Int)) ((x10.getD x12.toNat ([] : List Int)).length : Int) 0))
        (none))
      (some true) :=
  (at_eq Γ X 75 [1, 1, 0, 1, 0] _).trans (by kernel_rfl)
theorem spec_MatrixOk_l2_eq (x0 : (List (List Int))) (x10 : (List (List Int))) (x11 : Int) (x12 : Int) (x21 : (List Int)) (x22 : Int) (x23 : Int) : spec_MatrixOk_l2 x0 x10 x11 x12 x21 x22 x23 =
    cond (decide (x23 < x22))
      (cond (inside x23 x21.length)
        ((spec_l01In (x21.getD x23.toNat 0) (-500) 500).bind fun r1 =>
          cond (!r1)
            (some false)
            (spec_MatrixOk_l2 x0 x10 x11 x12 x21 x22 (w64 (x23 + 1))))
        (none))
      (spec_MatrixOk_l0 x0 x10 x11 (w64 (x12 + 1))) :=
  (at_eq Γ X 75 [1, 1, 0, 1, 0, 0, 1, 1, 0, 0, 1, 1, 1, 0] _).trans (by kernel_rfl)
theorem spec_l03All_eq (a0 : Int) : spec_l03All a0 =
    spec_l03All_l0 a0 ([] : List Int) 0 :=
  (den_eq Γ X 76 rfl _).trans (by kernel_rfl)
theorem spec_l03All_l0_eq (x0 : Int) (x3 : (List Int)) (x4 : Int) : spec_l03All_l0 x0 x3 x4 =
    cond (decide (x4 < x0))
      (cond (decide (x3.length + ([x4] : List Int).length ≤ room))
        (spec_l03All_l0 x0 (x3 ++ ([x4] : List Int)) (w64 (x4 + 1)))
        (none))
      (some x3) :=
  (at_eq Γ X 76 [1, 1, 0, 1, 0] _).trans (by kernel_rfl)
theorem spec_l03Det_eq (a0 : (List (List Int))) (a1 : (List Int)) (a2 : (List Int)) : spec_l03Det a0 a1 a2 =
    cond (((a1.length : Int) : Int) == 0)
      (some 1)
      (spec_l03Det_l0 a0 a1 a2 0 1 a2 (a2.length : Int) 0) :=
  (den_eq Γ X 77 rfl _).trans (by kernel_rfl)
theorem spec_l03Det_l0_eq (x0 : (List (List Int))) (x1 : (List Int)) (x2 : (List Int)) (x7 : Int) (x8 : Int) (x16 : (List Int)) (x17 : Int) (x18 : Int) : spec_l03Det_l0 x0 x1 x2 x7 x8 x16 x17 x18 =
    cond (decide (x18 < x17))
      (cond (inside x18 x16.length)
        (cond (inside 0 x1.length)
          (cond (inside (x1.getD 0 0) x0.length)
            (cond (inside (x16.getD x18.toNat 0) (x0.getD ((x1.getD 0 0).toNat) ([] : List Int)).length)
              (cond ((((x0.getD ((x1.getD 0 0).toNat) ([] : List Int)).getD ((x16.getD x18.toNat 0).toNat) 0) : Int) != 0)
                (cond (decide (0 ≤ 0) && decide (0 ≤ x18) && decide (x18 ≤ (x2.length : Int)))
                  (cond (decide (([] : List Int).length + ((x2.take x18.toNat).drop 0).length ≤ room))
                    (cond (decide (0 ≤ w64 (x18 + 1)) && decide (w64 (x18 + 1) ≤ (x2.length : Int)) && decide ((x2.length : Int) ≤ (x2.length : Int)))
                      (cond (decide ((([] : List Int) ++ ((x2.take x18.toNat).drop 0)).length + ((x2.take ((x2.length : Int).toNat)).drop ((w64 (x18 + 1)).toNat)).length ≤ room))
                        (cond (decide (0 ≤ 1) && decide (1 ≤ (x1.length : Int)) && decide ((x1.length : Int) ≤ (x1.length : Int)))
                          ((spec_l03Det x0 ((x1.take ((x1.length : Int).toNat)).drop 1) ((([] : List Int) ++ ((x2.take x18.toNat).drop 0)) ++ ((x2.take ((x2.length : Int).toNat)).drop ((w64 (x18 + 1)).toNat)))).bind fun r1 =>
                            spec_l03Det_c12 x0 x1 x2 (w64 (x7 + (w64 ((w64 (x8 * ((x0.getD ((x1.getD 0 0).toNat) ([] : List Int)).getD ((x16.getD x18.toNat 0).toNat) 0))) * r1)))) x8 x16 x17 x18)
                          (none))
                        (none))
                      (none))
                    (none))
                  (none))
                (spec_l03Det_c12 x0 x1 x2 x7 x8 x16 x17 x18))
              (none))
            (none))
          (none))
        (none))
      (some x7) :=
  (at_eq Γ X 77 [1, 1, 1, 1, 0, 1, 0] _).trans (by kernel_rfl)
theorem spec_l03Det_c12_eq (x0 : (List (List Int))) (x1 : (List Int)) (x2 : (List Int)) (x7 : Int) (x8 : Int) (x16 : (List Int)) (x17 : Int) (x18 : Int) : spec_l03Det_c12 x0 x1 x2 x7 x8 x16 x17 x18 =
    spec_l03Det_l0 x0 x1 x2 x7 (w64 (0 - x8)) x16 x17 (w64 (x18 + 1)) :=
  (at_eq Γ X 77 [1, 1, 1, 1, 0, 1, 0, 0, 1, 1, 0, 0, 1, 1, 1] _).trans (by kernel_rfl)
theorem spec_Determinant_eq (a0 : (List (List Int))) : spec_Determinant a0 =
    (spec_MatrixOk a0).bind fun r1 =>
      cond (!r1)
        (some 0)
        ((spec_l03All (a0.length : Int)).bind fun r2 =>
          (spec_l03All (a0.length : Int)).bind fun r3 =>
            (spec_l03Det a0 r2 r3).bind fun r4 =>
              some r4) :=
  (den_eq Γ X 78 rfl _).trans (by kernel_rfl)
theorem spec_CountTrees_eq (a0 : (Int × (List (Int × Int)))) : spec_CountTrees a0 =
    (spec_GraphOk a0).bind fun r1 =>
      cond (!r1)
        (some 0)
        ((spec_ReducedLaplacian a0 0).bind fun r2 =>
          (spec_Determinant r2).bind fun r3 =>
            some r3) :=
  (den_eq Γ X 79 rfl _).trans (by kernel_rfl)
theorem spec_l03Sets_eq (a0 : Int) (a1 : Int) : spec_l03Sets a0 a1 =
    cond ((a1 : Int) == 0)
      (some ([([] : List Int)] : List (List Int)))
      ((spec_l03Sets a0 (w64 (a1 - 1))).bind fun r1 =>
        spec_l03Sets_l0 a0 ([] : List (List Int)) r1 (r1.length : Int) 0) :=
  (den_eq Γ X 80 rfl _).trans (by kernel_rfl)
theorem spec_l03Sets_l0_eq (x0 : Int) (x5 : (List (List Int))) (x18 : (List (List Int))) (x19 : Int) (x20 : Int) : spec_l03Sets_l0 x0 x5 x18 x19 x20 =
    cond (decide (x20 < x19))
      (cond (inside x20 x18.length)
        (cond (decide (((x18.getD x20.toNat ([] : List Int)).length : Int) > 0))
          (cond (inside (w64 (((x18.getD x20.toNat ([] : List Int)).length : Int) - 1)) (x18.getD x20.toNat ([] : List Int)).length)
            (spec_l03Sets_l2 x0 x5 (x18.getD x20.toNat ([] : List Int)) (w64 (((x18.getD x20.toNat ([] : List Int)).getD ((w64 (((x18.getD x20.toNat ([] : List Int)).length : Int) - 1)).toNat) 0) + 1)) x18 x19 x20)
            (none))
          (spec_l03Sets_l2 x0 x5 (x18.getD x20.toNat ([] : List Int)) 0 x18 x19 x20))
        (none))
      (some x5) :=
  (at_eq Γ X 80 [1, 1, 1, 0, 1, 0] _).trans (by kernel_rfl)
theorem spec_l03Sets_l2_eq (x0 : Int) (x5 : (List (List Int))) (x7 : (List Int)) (x9 : Int) (x18 : (List (List Int))) (x19 : Int) (x20 : Int) : spec_l03Sets_l2 x0 x5 x7 x9 x18 x19 x20 =
    cond (decide (x9 < x0))
      (cond (decide (([] : List Int).length + x7.length ≤ room))
        (cond (decide ((([] : List Int) ++ x7).length + ([x9] : List Int).length ≤ room))
          (cond (decide (x5.length + ([(([] : List Int) ++ x7) ++ ([x9] : List Int)] : List (List Int)).length ≤ room))
            (spec_l03Sets_l2 x0 (x5 ++ ([(([] : List Int) ++ x7) ++ ([x9] : List Int)] : List (List Int))) x7 (w64 (x9 + 1)) x18 x19 x20)
            (none))
          (none))
        (none))
      (spec_l03Sets_l0 x0 x5 x18 x19 (w64 (x20 + 1))) :=
  (at_eq Γ X 80 [1, 1, 1, 0, 1, 0, 0, 1, 1, 0, 0, 1, 1, 1, 1, 0] _).trans (by kernel_rfl)
theorem spec_TreesOf_eq (a0 : (Int × (List (Int × Int)))) : spec_TreesOf a0 =
    (spec_GraphOk a0).bind fun r1 =>
      cond (!r1)
        (some (([] : List (List Int)), false))
        ((spec_CountTrees a0).bind fun r2 =>
          cond (decide (r2 > 400))
            (some (([] : List (List Int)), false))
            ((spec_l03Sets (a0.2.length : Int) (w64 (a0.1 - 1))).bind fun r3 =>
              spec_TreesOf_l0 a0 ([] : List (List Int)) r3 (r3.length : Int) 0)) :=
  (den_eq Γ X 81 rfl _).trans (by kernel_rfl)
theorem spec_TreesOf_l0_eq (x1 : (Int × (List (Int × Int)))) (x4 : (List (List Int))) (x22 : (List (List Int))) (x23 : Int) (x24 : Int) : spec_TreesOf_l0 x1 x4 x22 x23 x24 =
    cond (decide (x24 < x23))
      (cond (inside x24 x22.length)
        ((spec_l12Joins x1 (x22.getD x24.toNat ([] : List Int))).bind fun r4 =>
          cond (r4)
            (cond (decide (x4.length + ([x22.getD x24.toNat ([] : List Int)] : List (List Int)).length ≤ room))
              (spec_TreesOf_l0 x1 (x4 ++ ([x22.getD x24.toNat ([] : List Int)] : List (List Int))) x22 x23 (w64 (x24 + 1)))
              (none))
            (spec_TreesOf_l0 x1 x4 x22 x23 (w64 (x24 + 1))))
        (none))
      (some (x4, true)) :=
  (at_eq Γ X 81 [1, 1, 1, 0, 1, 0] _).trans (by kernel_rfl)
theorem spec_MakeTree_eq (a0 : (List Int)) : spec_MakeTree a0 =
    (spec_l01New a0).bind fun r1 =>
      (spec_l02Graph r1).bind fun r2 =>
        (spec_TreesOf r2.1).bind fun r3 =>
          cond (!r3.2)
            ((spec_TreesOf (3, ([(0, 1), (0, 2), (1, 2)] : List (Int × Int)))).bind fun r4 =>
              (spec_l01Below r2.2 (r4.1.length : Int)).bind fun r5 =>
                cond (inside r5.1 r4.1.length)
                  (some ((3, ([(0, 1), (0, 2), (1, 2)] : List (Int × Int))), r4.1.getD r5.1.toNat ([] : List Int)))
                  (none))
            ((spec_l01Below r2.2 (r3.1.length : Int)).bind fun r6 =>
              cond (inside r6.1 r3.1.length)
                (some (r2.1, r3.1.getD r6.1.toNat ([] : List Int)))
                (none)) :=
  (den_eq Γ X 82 rfl _).trans (by kernel_rfl)
theorem spec_l21New_eq (a0 : (List Int)) (a1 : Int) : spec_l21New a0 a1 =
    (spec_l01New a0).bind fun r1 =>
      spec_l21New_l0 a1 0 r1 :=
  (den_eq Γ X 83 rfl _).trans (by kernel_rfl)
theorem spec_l21New_l0_eq (x1 : Int) (x6 : Int) (x8 : ((List Int) × (Int × Int))) : spec_l21New_l0 x1 x6 x8 =
    cond (decide (x6 < x1))
      ((spec_l01Byte x8).bind fun r2 =>
        spec_l21New_l0 x1 (w64 (x6 + 1)) r2.2)
      (some x8) :=
  (at_eq Γ X 83 [1, 1, 0, 1, 0] _).trans (by kernel_rfl)
theorem spec_MakeNum_eq (a0 : (List Int)) (a1 : Int) : spec_MakeNum a0 a1 =
    (spec_l21New a0 a1).bind fun r1 =>
      (spec_l01Byte r1).bind fun r2 =>
        (spec_l01Byte r2.2).bind fun r3 =>
          some (w64 ((w64 (r2.1 * 256)) + r3.1)) :=
  (den_eq Γ X 84 rfl _).trans (by kernel_rfl)
theorem laws_same_eq (a0 : (List Int)) (a1 : (List Int)) : laws_same a0 a1 =
    cond (((a0.length : Int) : Int) != (a1.length : Int))
      (some false)
      (laws_same_l0 a1 a0 (a0.length : Int) 0) :=
  (den_eq Γ X 85 rfl _).trans (by kernel_rfl)
theorem laws_same_l0_eq (x1 : (List Int)) (x12 : (List Int)) (x13 : Int) (x14 : Int) : laws_same_l0 x1 x12 x13 x14 =
    cond (decide (x14 < x13))
      (cond (inside x14 x12.length)
        (cond (inside x14 x1.length)
          (cond (((x12.getD x14.toNat 0) : Int) != (x1.getD x14.toNat 0))
            (some false)
            (laws_same_l0 x1 x12 x13 (w64 (x14 + 1))))
          (none))
        (none))
      (some true) :=
  (at_eq Γ X 85 [1, 1, 0, 1, 0] _).trans (by kernel_rfl)
theorem impl_StepWalker_eq (a0 : (Int × (List (Int × Int)))) (a1 : (List Int)) (a2 : Int) (a3 : Int) : impl_StepWalker a0 a1 a2 a3 =
    (impl_RotorsOk a0 a1 a2).bind fun r1 =>
      cond (!r1)
        (some (([] : List Int), 0, false))
        (cond ((a3 : Int) == a2)
          (some (([] : List Int), 0, false))
          ((impl_within a3 0 (w64 (a0.1 - 1))).bind fun r2 =>
            cond (!r2)
              (some (([] : List Int), 0, false))
              ((impl_copyInts a1).bind fun r3 =>
                cond (inside a3 a1.length)
                  ((impl_NextRotor a0 a3 (a1.getD a3.toNat 0)).bind fun r4 =>
                    cond (inside a3 r3.length)
                      (cond (inside a3 (r3.set a3.toNat r4).length)
                        ((impl_across a0 ((r3.set a3.toNat r4).getD a3.toNat 0) a3).bind fun r5 =>
                          some (r3.set a3.toNat r4, r5, true))
                        (none))
                      (none))
                  (none)))) :=
  (den_eq Γ X 86 rfl _).trans (by kernel_rfl)
theorem laws_FnRotors_eq (a0 : (List Int)) : laws_FnRotors a0 =
    cond (decide ((a0.length : Int) > 1048576))
      (some true)
      ((spec_MakeTree a0).bind fun r1 =>
        (spec_MakeNum a0 60).bind fun r2 =>
          cond (decide (r1.1.1 = 0))
            (none)
            ((spec_MakeNum a0 62).bind fun r3 =>
              cond (decide (r1.1.1 = 0))
                (none)
                ((impl_StateOfTree r1.1 r1.2 (Int.tmod r2 r1.1.1)).bind fun r4 =>
                  cond (!r4.2)
                    (some false)
                    ((impl_RotorsOk r1.1 r4.1 (Int.tmod r2 r1.1.1)).bind fun r5 =>
                      cond (!r5)
                        (some false)
                        ((impl_IsTreeState r1.1 r4.1 (Int.tmod r2 r1.1.1)).bind fun r6 =>
                          cond (!r6)
                            (some false)
                            (laws_FnRotors_c9 r1.1 r1.2 (Int.tmod r2 r1.1.1) (Int.tmod r3 r1.1.1) r4.1)))))) :=
  (den_eq Γ X 87 rfl _).trans (by kernel_rfl)
theorem laws_FnRotors_c9_eq (x3 : (Int × (List (Int × Int)))) (x4 : (List Int)) (x5 : Int) (x6 : Int) (x7 : (List Int)) : laws_FnRotors_c9 x3 x4 x5 x6 x7 =
    (impl_TreeOfState x3 x7 x5).bind fun r7 =>
      (impl_WalkToSink x3 x7 x5 x6).bind fun r8 =>
        cond (!r7.2)
          (some false)
          ((laws_same r7.1 x4).bind fun r9 =>
            cond (!r9)
              (some false)
              (cond (!r8.2.2)
                (some false)
                (cond (!((((r8.2.1 : Int) == 0) : Bool) == ((x6 : Int) == x5)))
                  (some false)
                  ((impl_IsTreeState x3 r8.1 x5).bind fun r10 =>
                    cond (!r10)
                      (some false)
                      (laws_FnRotors_c13 x3 x5 x6 x7 r8.1 r8.2.1))))) :=
  (at_eq Γ X 87 [1, 1, 1, 1, 1, 1, 1, 0] _).trans (by kernel_rfl)
theorem laws_FnRotors_c13_eq (x3 : (Int × (List (Int × Int)))) (x5 : Int) (x6 : Int) (x7 : (List Int)) (x11 : (List Int)) (x12 : Int) : laws_FnRotors_c13 x3 x5 x6 x7 x11 x12 =
    cond ((x6 : Int) == x5)
      ((laws_same x11 x7).bind fun r11 =>
        some r11)
      ((impl_StepWalker x3 x7 x5 x6).bind fun r12 =>
        (impl_WalkToSink x3 r12.1 x5 r12.2.1).bind fun r13 =>
          cond (r12.2.2)
            (cond (r13.2.2)
              (cond ((r13.2.1 : Int) == (w64 (x12 - 1)))
                ((laws_same r13.1 x11).bind fun r14 =>
                  cond (r14)
                    (cond (((r12.1.length : Int) : Int) == x3.1)
                      (cond (((x7.length : Int) : Int) == x3.1)
                        (cond (inside x6 r12.1.length)
                          (cond (inside x6 x7.length)
                            ((impl_NextRotor x3 x6 (x7.getD x6.toNat 0)).bind fun r15 =>
                              some (((r12.1.getD x6.toNat 0) : Int) == r15))
                            (none))
                          (none))
                        (some false))
                      (some false))
                    (some false))
                (some false))
              (some false))
            (some false)) :=
  (at_eq Γ X 87 [1, 1, 1, 1, 1, 1, 1, 1, 1, 1, 0, 0] _).trans (by kernel_rfl)
theorem spec_l10Draw_eq (a0 : ((List Int) × (Int × Int))) (a1 : (Int × (List (Int × Int)))) (a2 : Int) : spec_l10Draw a0 a1 a2 =
    spec_l10Draw_l0 a0 a2 a1 ([] : List Int) 0 :=
  (den_eq Γ X 88 rfl _).trans (by kernel_rfl)
theorem spec_l10Draw_l0_eq (x0 : ((List Int) × (Int × Int))) (x2 : Int) (x4 : (Int × (List (Int × Int)))) (x7 : (List Int)) (x8 : Int) : spec_l10Draw_l0 x0 x2 x4 x7 x8 =
    cond (decide (x8 < x4.1))
      ((spec_l01Below x0 7).bind fun r1 =>
        cond (decide (x7.length + ([r1.1] : List Int).length ≤ room))
          (spec_l10Draw_l0 r1.2 x2 x4 (x7 ++ ([r1.1] : List Int)) (w64 (x8 + 1)))
          (none))
      (cond (decide (x2 ≥ 0))
        (cond (decide (x2 < (x7.length : Int)))
          (cond (inside x2 x7.length)
            (some (x7.set x2.toNat 0, x0))
            (none))
          (some (x7, x0)))
        (some (x7, x0))) :=
  (at_eq Γ X 88 [1, 1, 0, 1, 0] _).trans (by kernel_rfl)
theorem spec_MakePile_eq (a0 : (List Int)) (a1 : Int) (a2 : (Int × (List (Int × Int)))) (a3 : Int) : spec_MakePile a0 a1 a2 a3 =
    (spec_l21New a0 a1).bind fun r1 =>
      (spec_l10Draw r1 a2 a3).bind fun r2 =>
        some r2.1 :=
  (den_eq Γ X 89 rfl _).trans (by kernel_rfl)
theorem impl_Valence_eq (a0 : (Int × (List (Int × Int)))) (a1 : Int) : impl_Valence a0 a1 =
    cond (decide (a1 < 0))
      (some 0)
      (cond (decide (a1 ≥ a0.1))
        (some 0)
        (impl_Valence_l0 a1 0 a0.2 (a0.2.length : Int) 0)) :=
  (den_eq Γ X 90 rfl _).trans (by kernel_rfl)
theorem impl_Valence_l0_eq (x1 : Int) (x5 : Int) (x17 : (List (Int × Int))) (x18 : Int) (x19 : Int) : impl_Valence_l0 x1 x5 x17 x18 x19 =
    cond (decide (x19 < x18))
      (cond (inside x19 x17.length)
        (cond ((((x17.getD x19.toNat (0, 0)).1) : Int) == x1)
          (impl_Valence_l0 x1 (w64 (x5 + 1)) x17 x18 (w64 (x19 + 1)))
          (cond ((((x17.getD x19.toNat (0, 0)).2) : Int) == x1)
            (impl_Valence_l0 x1 (w64 (x5 + 1)) x17 x18 (w64 (x19 + 1)))
            (impl_Valence_l0 x1 x5 x17 x18 (w64 (x19 + 1)))))
        (none))
      (some x5) :=
  (at_eq Γ X 90 [1, 1, 1, 0, 1, 0] _).trans (by kernel_rfl)
theorem impl_FullPile_eq (a0 : (Int × (List (Int × Int)))) (a1 : Int) : impl_FullPile a0 a1 =
    (impl_isVertex a0 a1).bind fun r1 =>
      cond (!r1)
        (some ([] : List Int))
        (cond (decide (0 ≤ a0.1) && decide (a0.1 ≤ (room : Int)))
          (impl_FullPile_l0 a1 a0 (List.replicate a0.1.toNat (0 : Int)) ((List.replicate a0.1.toNat (0 : Int)).length : Int) 0)
          (none)) :=
  (den_eq Γ X 91 rfl _).trans (by kernel_rfl)
theorem impl_FullPile_l0_eq (x1 : Int) (x2 : (Int × (List (Int × Int)))) (x5 : (List Int)) (x15 : Int) (x16 : Int) : impl_FullPile_l0 x1 x2 x5 x15 x16 =
    cond (decide (x16 < x15))
      (cond ((x16 : Int) != x1)
        ((impl_Valence x2 x16).bind fun r2 =>
          cond (inside x16 x5.length)
            (impl_FullPile_l0 x1 x2 (x5.set x16.toNat (w64 (r2 - 1))) x15 (w64 (x16 + 1)))
            (none))
        (impl_FullPile_l0 x1 x2 x5 x15 (w64 (x16 + 1))))
      (some x5) :=
  (at_eq Γ X 91 [1, 1, 1, 0, 1, 0] _).trans (by kernel_rfl)
theorem impl_NegateDivisor_eq (a0 : (List Int)) : impl_NegateDivisor a0 =
    (impl_copyInts a0).bind fun r1 =>
      impl_NegateDivisor_l0 r1 (r1.length : Int) 0 :=
  (den_eq Γ X 92 rfl _).trans (by kernel_rfl)
theorem impl_NegateDivisor_l0_eq (x3 : (List Int)) (x8 : Int) (x9 : Int) : impl_NegateDivisor_l0 x3 x8 x9 =
    cond (decide (x9 < x8))
      (cond (inside x9 x3.length)
        (cond (inside x9 x3.length)
          (impl_NegateDivisor_l0 (x3.set x9.toNat (w64 (0 - (x3.getD x9.toNat 0)))) x8 (w64 (x9 + 1)))
          (none))
        (none))
      (some x3) :=
  (at_eq Γ X 92 [1, 1, 0, 1, 0] _).trans (by kernel_rfl)
theorem impl_plus_eq (a0 : (List Int)) (a1 : (List Int)) : impl_plus a0 a1 =
    (impl_copyInts a0).bind fun r1 =>
      impl_plus_l0 a1 r1 (r1.length : Int) 0 :=
  (den_eq Γ X 93 rfl _).trans (by kernel_rfl)
theorem impl_plus_l0_eq (x1 : (List Int)) (x5 : (List Int)) (x10 : Int) (x11 : Int) : impl_plus_l0 x1 x5 x10 x11 =
    cond (decide (x11 < x10))
      (cond (inside x11 x5.length)
        (cond (inside x11 x1.length)
          (cond (inside x11 x5.length)
            (impl_plus_l0 x1 (x5.set x11.toNat (w64 ((x5.getD x11.toNat 0) + (x1.getD x11.toNat 0)))) x10 (w64 (x11 + 1)))
            (none))
          (none))
        (none))
      (some x5) :=
  (at_eq Γ X 93 [1, 1, 0, 1, 0] _).trans (by kernel_rfl)
theorem impl_inDebt_eq (a0 : (List Int)) (a1 : Int) : impl_inDebt a0 a1 =
    impl_inDebt_l0 a1 a0 (a0.length : Int) 0 :=
  (den_eq Γ X 94 rfl _).trans (by kernel_rfl)
theorem impl_inDebt_l0_eq (x1 : Int) (x7 : (List Int)) (x8 : Int) (x9 : Int) : impl_inDebt_l0 x1 x7 x8 x9 =
    cond (decide (x9 < x8))
      (cond (inside x9 x7.length)
        (cond ((x9 : Int) != x1)
          (cond (decide (x7.getD x9.toNat 0 < 0))
            (some x9)
            (impl_inDebt_l0 x1 x7 x8 (w64 (x9 + 1))))
          (impl_inDebt_l0 x1 x7 x8 (w64 (x9 + 1))))
        (none))
      (some (-1)) :=
  (at_eq Γ X 94 [1, 0, 1, 0] _).trans (by kernel_rfl)
theorem impl_fire_eq (a0 : (Int × (List (Int × Int)))) (a1 : (List Int)) (a2 : Int) (a3 : Int) : impl_fire a0 a1 a2 a3 =
    impl_fire_l0 a1 a2 a3 a0.2 (a0.2.length : Int) 0 :=
  (den_eq Γ X 95 rfl _).trans (by kernel_rfl)
theorem impl_fire_l0_eq (x1 : (List Int)) (x2 : Int) (x3 : Int) (x11 : (List (Int × Int))) (x12 : Int) (x13 : Int) : impl_fire_l0 x1 x2 x3 x11 x12 x13 =
    cond (decide (x13 < x12))
      (cond (inside x13 x11.length)
        (cond ((x2 : Int) == ((x11.getD x13.toNat (0, 0)).1))
          (cond (inside x2 x1.length)
            (cond (inside x2 x1.length)
              (cond (inside ((x11.getD x13.toNat (0, 0)).2) (x1.set x2.toNat (w64 ((x1.getD x2.toNat 0) - x3))).length)
                (cond (inside ((x11.getD x13.toNat (0, 0)).2) (x1.set x2.toNat (w64 ((x1.getD x2.toNat 0) - x3))).length)
                  (impl_fire_l0 ((x1.set x2.toNat (w64 ((x1.getD x2.toNat 0) - x3))).set (((x11.getD x13.toNat (0, 0)).2).toNat) (w64 (((x1.set x2.toNat (w64 ((x1.getD x2.toNat 0) - x3))).getD (((x11.getD x13.toNat (0, 0)).2).toNat) 0) + x3))) x2 x3 x11 x12 (w64 (x13 + 1)))
                  (none))
                (none))
              (none))
            (none))
          (cond ((x2 : Int) == ((x11.getD x13.toNat (0, 0)).2))
            (cond (inside x2 x1.length)
              (cond (inside x2 x1.length)
                (cond (inside ((x11.getD x13.toNat (0, 0)).1) (x1.set x2.toNat (w64 ((x1.getD x2.toNat 0) - x3))).length)
                  (cond (inside ((x11.getD x13.toNat (0, 0)).1) (x1.set x2.toNat (w64 ((x1.getD x2.toNat 0) - x3))).length)
                    (impl_fire_l0 ((x1.set x2.toNat (w64 ((x1.getD x2.toNat 0) - x3))).set (((x11.getD x13.toNat (0, 0)).1).toNat) (w64 (((x1.set x2.toNat (w64 ((x1.getD x2.toNat 0) - x3))).getD (((x11.getD x13.toNat (0, 0)).1).toNat) 0) + x3))) x2 x3 x11 x12 (w64 (x13 + 1)))
                    (none))
                  (none))
                (none))
              (none))
            (impl_fire_l0 x1 x2 x3 x11 x12 (w64 (x13 + 1)))))
        (none))
      (some x1) :=
  (at_eq Γ X 95 [1, 1, 0] _).trans (by kernel_rfl)
theorem impl_Multiplicity_eq (a0 : (Int × (List (Int × Int)))) (a1 : Int) (a2 : Int) : impl_Multiplicity a0 a1 a2 =
    cond (decide (imin a1 a2 < 0))
      (some 0)
      (cond (decide (imax a1 a2 ≥ a0.1))
        (some 0)
        (cond ((a1 : Int) == a2)
          (some 0)
          (impl_Multiplicity_l0 a1 a2 0 a0.2 (a0.2.length : Int) 0))) :=
  (den_eq Γ X 96 rfl _).trans (by kernel_rfl)
theorem impl_Multiplicity_l0_eq (x1 : Int) (x2 : Int) (x7 : Int) (x28 : (List (Int × Int))) (x29 : Int) (x30 : Int) : impl_Multiplicity_l0 x1 x2 x7 x28 x29 x30 =
    cond (decide (x30 < x29))
      (cond (inside x30 x28.length)
        (cond ((((x28.getD x30.toNat (0, 0)).1) : Int) == (imin x1 x2))
          (cond ((((x28.getD x30.toNat (0, 0)).2) : Int) == (imax x1 x2))
            (impl_Multiplicity_l0 x1 x2 (w64 (x7 + 1)) x28 x29 (w64 (x30 + 1)))
            (impl_Multiplicity_l0 x1 x2 x7 x28 x29 (w64 (x30 + 1))))
          (impl_Multiplicity_l0 x1 x2 x7 x28 x29 (w64 (x30 + 1))))
        (none))
      (some x7) :=
  (at_eq Γ X 96 [1, 1, 1, 0, 1, 0] _).trans (by kernel_rfl)
theorem impl_burn_eq (a0 : (Int × (List (Int × Int)))) (a1 : (List Int)) (a2 : Int) : impl_burn a0 a1 a2 =
    impl_burn_l0 a1 a0 ([a2] : List Int) :=
  (den_eq Γ X 97 rfl _).trans (by kernel_rfl)
theorem impl_burn_l0_eq (x1 : (List Int)) (x3 : (Int × (List (Int × Int)))) (x7 : (List Int)) : impl_burn_l0 x1 x3 x7 =
    impl_burn_l2 x1 x3 x7 (-1) 0 :=
  (at_eq Γ X 97 [1, 1, 0] _).trans (by kernel_rfl)
theorem impl_burn_l2_eq (x1 : (List Int)) (x3 : (Int × (List (Int × Int)))) (x7 : (List Int)) (x8 : Int) (x9 : Int) : impl_burn_l2 x1 x3 x7 x8 x9 =
    cond (decide (x9 < x3.1))
      (cond (decide (x8 < 0))
        (impl_burn_l4 x1 x3 x7 x8 x9 0 (x7.length : Int) 0)
        (cond (decide (x8 < 0))
          (some x7)
          (cond (decide (x7.length + ([x8] : List Int).length ≤ room))
            (impl_burn_l0 x1 x3 (x7 ++ ([x8] : List Int)))
            (none))))
      (cond (decide (x8 < 0))
        (some x7)
        (cond (decide (x7.length + ([x8] : List Int).length ≤ room))
          (impl_burn_l0 x1 x3 (x7 ++ ([x8] : List Int)))
          (none))) :=
  (at_eq Γ X 97 [1, 1, 0, 0, 0, 1, 0, 1, 0] _).trans (by kernel_rfl)
theorem impl_burn_l4_eq (x1 : (List Int)) (x3 : (Int × (List (Int × Int)))) (x7 : (List Int)) (x8 : Int) (x9 : Int) (x10 : Int) (x26 : Int) (x27 : Int) : impl_burn_l4 x1 x3 x7 x8 x9 x10 x26 x27 =
    cond (decide (x27 < x26))
      (cond (inside x27 x7.length)
        ((impl_Multiplicity x3 x9 (x7.getD x27.toNat 0)).bind fun r1 =>
          impl_burn_l4 x1 x3 x7 x8 x9 (w64 (x10 + r1)) x26 (w64 (x27 + 1)))
        (none))
      ((slices_Contains_int_int x7 x9).bind fun r2 =>
        cond (!r2)
          (cond (inside x9 x1.length)
            (cond (decide (x1.getD x9.toNat 0 < x10))
              (impl_burn_l2 x1 x3 x7 x9 (w64 (x9 + 1)))
              (impl_burn_l2 x1 x3 x7 x8 (w64 (x9 + 1))))
            (none))
          (impl_burn_l2 x1 x3 x7 x8 (w64 (x9 + 1)))) :=
  (at_eq Γ X 97 [1, 1, 0, 0, 0, 1, 0, 1, 0, 0, 1, 0, 0, 1, 0, 1, 0] _).trans (by kernel_rfl)
theorem impl_reduce_eq (a0 : (Int × (List (Int × Int)))) (a1 : (List Int)) (a2 : Int) : impl_reduce a0 a1 a2 =
    (impl_copyInts a1).bind fun r1 =>
      cond (decide (0 ≤ a0.1) && decide (a0.1 ≤ (room : Int)))
        ((impl_inDebt r1 a2).bind fun r2 =>
          impl_reduce_l0 a2 a0 r1 (List.replicate a0.1.toNat (0 : Int)) r2)
        (none) :=
  (den_eq Γ X 98 rfl _).trans (by kernel_rfl)
theorem impl_reduce_l0_eq (x2 : Int) (x3 : (Int × (List (Int × Int)))) (x8 : (List Int)) (x9 : (List Int)) (x10 : Int) : impl_reduce_l0 x2 x3 x8 x9 x10 =
    cond (decide (x10 ≥ 0))
      ((impl_Valence x3 x10).bind fun r3 =>
        cond (inside x10 x8.length)
          (cond (decide (r3 = 0))
            (none)
            ((impl_fire x3 x8 x10 (w64 (0 - (w64 (Int.tdiv (w64 ((w64 (r3 - 1)) - (x8.getD x10.toNat 0))) r3))))).bind fun r4 =>
              cond (inside x10 x9.length)
                (cond (inside x10 x9.length)
                  ((impl_inDebt r4 x2).bind fun r5 =>
                    impl_reduce_l0 x2 x3 r4 (x9.set x10.toNat (w64 ((x9.getD x10.toNat 0) - (w64 (Int.tdiv (w64 ((w64 (r3 - 1)) - (x8.getD x10.toNat 0))) r3))))) r5)
                  (none))
                (none)))
          (none))
      (impl_reduce_l2 x2 x3 x8 x9) :=
  (at_eq Γ X 98 [1, 1, 1, 0, 1, 0] _).trans (by kernel_rfl)
theorem impl_reduce_l2_eq (x2 : Int) (x3 : (Int × (List (Int × Int)))) (x8 : (List Int)) (x9 : (List Int)) : impl_reduce_l2 x2 x3 x8 x9 =
    (impl_burn x3 x8 x2).bind fun r6 =>
      cond (((r6.length : Int) : Int) == x3.1)
        (some (x8, x9))
        (impl_reduce_l4 x2 x3 x8 x9 r6 (x9.length : Int) 0) :=
  (at_eq Γ X 98 [1, 1, 1, 1, 0] _).trans (by kernel_rfl)
theorem impl_reduce_l4_eq (x2 : Int) (x3 : (Int × (List (Int × Int)))) (x8 : (List Int)) (x9 : (List Int)) (x13 : (List Int)) (x65 : Int) (x66 : Int) : impl_reduce_l4 x2 x3 x8 x9 x13 x65 x66 =
    cond (decide (x66 < x65))
      ((slices_Contains_int_int x13 x66).bind fun r7 =>
        cond (!r7)
          ((impl_fire x3 x8 x66 1).bind fun r8 =>
            cond (inside x66 x9.length)
              (cond (inside x66 x9.length)
                (impl_reduce_l4 x2 x3 r8 (x9.set x66.toNat (w64 ((x9.getD x66.toNat 0) + 1))) x13 x65 (w64 (x66 + 1)))
                (none))
              (none))
          (impl_reduce_l4 x2 x3 x8 x9 x13 x65 (w64 (x66 + 1))))
      (impl_reduce_l2 x2 x3 x8 x9) :=
  (at_eq Γ X 98 [1, 1, 1, 1, 0, 0, 0, 1, 1, 1, 0] _).trans (by kernel_rfl)
theorem impl_recurrentOf_eq (a0 : (Int × (List (Int × Int)))) (a1 : (List Int)) (a2 : Int) : impl_recurrentOf a0 a1 a2 =
    (impl_FullPile a0 a2).bind fun r1 =>
      (impl_NegateDivisor a1).bind fun r2 =>
        (impl_plus r1 r2).bind fun r3 =>
          (impl_reduce a0 r3 a2).bind fun r4 =>
            (impl_NegateDivisor r4.1).bind fun r5 =>
              (impl_plus r1 r5).bind fun r6 =>
                cond (inside a2 r6.length)
                  (some (r6.set a2.toNat 0))
                  (none) :=
  (den_eq Γ X 99 rfl _).trans (by kernel_rfl)
theorem impl_RecurrentOf_eq (a0 : (Int × (List (Int × Int)))) (a1 : (List Int)) (a2 : Int) : impl_RecurrentOf a0 a1 a2 =
    (impl_PileOk a0 a1 a2).bind fun r1 =>
      cond (!r1)
        (some (([] : List Int), false))
        ((impl_recurrentOf a0 a1 a2).bind fun r2 =>
          some (r2, true)) :=
  (den_eq Γ X 100 rfl _).trans (by kernel_rfl)
theorem impl_unstable_eq (a0 : (Int × (List (Int × Int)))) (a1 : (List Int)) (a2 : Int) : impl_unstable a0 a1 a2 =
    impl_unstable_l0 a2 a0 a1 (a1.length : Int) 0 :=
  (den_eq Γ X 101 rfl _).trans (by kernel_rfl)
theorem impl_unstable_l0_eq (x2 : Int) (x3 : (Int × (List (Int × Int)))) (x9 : (List Int)) (x10 : Int) (x11 : Int) : impl_unstable_l0 x2 x3 x9 x10 x11 =
    cond (decide (x11 < x10))
      (cond (inside x11 x9.length)
        (cond ((x11 : Int) != x2)
          ((impl_Valence x3 x11).bind fun r1 =>
            cond (decide (x9.getD x11.toNat 0 ≥ r1))
              (some x11)
              (impl_unstable_l0 x2 x3 x9 x10 (w64 (x11 + 1))))
          (impl_unstable_l0 x2 x3 x9 x10 (w64 (x11 + 1))))
        (none))
      (some (-1)) :=
  (at_eq Γ X 101 [1, 0, 1, 0] _).trans (by kernel_rfl)
theorem impl_stabilize_eq (a0 : (Int × (List (Int × Int)))) (a1 : (List Int)) (a2 : Int) : impl_stabilize a0 a1 a2 =
    (impl_copyInts a1).bind fun r1 =>
      cond (decide (0 ≤ a0.1) && decide (a0.1 ≤ (room : Int)))
        ((impl_unstable a0 r1 a2).bind fun r2 =>
          impl_stabilize_l0 a2 a0 r1 (List.replicate a0.1.toNat (0 : Int)) r2)
        (none) :=
  (den_eq Γ X 102 rfl _).trans (by kernel_rfl)
theorem impl_stabilize_l0_eq (x2 : Int) (x3 : (Int × (List (Int × Int)))) (x8 : (List Int)) (x9 : (List Int)) (x10 : Int) : impl_stabilize_l0 x2 x3 x8 x9 x10 =
    cond (decide (x10 ≥ 0))
      (cond (inside x10 x8.length)
        ((impl_Valence x3 x10).bind fun r3 =>
          cond (decide (r3 = 0))
            (none)
            ((impl_fire x3 x8 x10 (w64 (Int.tdiv (x8.getD x10.toNat 0) r3))).bind fun r4 =>
              cond (inside x10 x9.length)
                (cond (inside x10 x9.length)
                  ((impl_unstable x3 r4 x2).bind fun r5 =>
                    impl_stabilize_l0 x2 x3 r4 (x9.set x10.toNat (w64 ((x9.getD x10.toNat 0) + (w64 (Int.tdiv (x8.getD x10.toNat 0) r3))))) r5)
                  (none))
                (none)))
        (none))
      (cond (inside x2 x8.length)
        (some (x8.set x2.toNat 0, x9))
        (none)) :=
  (at_eq Γ X 102 [1, 1, 1, 0, 1, 0] _).trans (by kernel_rfl)
theorem impl_Stabilize_eq (a0 : (Int × (List (Int × Int)))) (a1 : (List Int)) (a2 : Int) : impl_Stabilize a0 a1 a2 =
    (impl_PileOk a0 a1 a2).bind fun r1 =>
      cond (!r1)
        (some (([] : List Int), ([] : List Int), false))
        ((impl_stabilize a0 a1 a2).bind fun r2 =>
          some (r2.1, r2.2, true)) :=
  (den_eq Γ X 103 rfl _).trans (by kernel_rfl)
theorem impl_IdentityPile_eq (a0 : (Int × (List (Int × Int)))) (a1 : Int) : impl_IdentityPile a0 a1 =
    (impl_isVertex a0 a1).bind fun r1 =>
      cond (!r1)
        (some (([] : List Int), false))
        (cond (decide (0 ≤ a0.1) && decide (a0.1 ≤ (room : Int)))
          ((impl_recurrentOf a0 (List.replicate a0.1.toNat (0 : Int)) a1).bind fun r2 =>
            some (r2, true))
          (none)) :=
  (den_eq Γ X 104 rfl _).trans (by kernel_rfl)
theorem laws_FnActs_eq (a0 : (List Int)) : laws_FnActs a0 =
    cond (decide ((a0.length : Int) > 1048576))
      (some true)
      ((spec_MakeTree a0).bind fun r1 =>
        (spec_MakeNum a0 60).bind fun r2 =>
          cond (decide (r1.1.1 = 0))
            (none)
            ((spec_MakePile a0 20 r1.1 (Int.tmod r2 r1.1.1)).bind fun r3 =>
              (impl_RecurrentOf r1.1 r3 (Int.tmod r2 r1.1.1)).bind fun r4 =>
                (impl_Stabilize r1.1 r3 (Int.tmod r2 r1.1.1)).bind fun r5 =>
                  laws_FnActs_c8 r1.1 r1.2 (Int.tmod r2 r1.1.1) r3 r4.1 r4.2 r5.1 r5.2.2)) :=
  (den_eq Γ X 105 rfl _).trans (by kernel_rfl)
theorem laws_FnActs_c8_eq (x3 : (Int × (List (Int × Int)))) (x4 : (List Int)) (x5 : Int) (x6 : (List Int)) (x7 : (List Int)) (x8 : Bool) (x9 : (List Int)) (x11 : Bool) : laws_FnActs_c8 x3 x4 x5 x6 x7 x8 x9 x11 =
    (impl_ActOnTree x3 x4 x5 x6).bind fun r6 =>
      (impl_ActOnTree x3 x4 x5 x7).bind fun r7 =>
        (impl_ActOnTree x3 x4 x5 x9).bind fun r8 =>
          (impl_IdentityPile x3 x5).bind fun r9 =>
            (impl_ActOnTree x3 x4 x5 r9.1).bind fun r10 =>
              laws_FnActs_c13 x3 x4 x7 x8 x11 r6.1 r6.2 r7.1 r7.2 r8.1 r8.2 r9.1 r9.2 r10.1 r10.2 :=
  (at_eq Γ X 105 [1, 1, 1, 1, 1, 1, 1, 0] _).trans (by kernel_rfl)
theorem laws_FnActs_c13_eq (x3 : (Int × (List (Int × Int)))) (x4 : (List Int)) (x7 : (List Int)) (x8 : Bool) (x11 : Bool) (x12 : (List Int)) (x13 : Bool) (x14 : (List Int)) (x15 : Bool) (x16 : (List Int)) (x17 : Bool) (x18 : (List Int)) (x19 : Bool) (x20 : (List Int)) (x21 : Bool) : laws_FnActs_c13 x3 x4 x7 x8 x11 x12 x13 x14 x15 x16 x17 x18 x19 x20 x21 =
    cond (!x8)
      (some false)
      (cond (!x11)
        (some false)
        (cond (!x13)
          (some false)
          (cond (!x15)
            (some false)
            (cond (!x17)
              (some false)
              (cond (!x19)
                (some false)
                (cond (!x21)
                  (some false)
                  ((impl_IsTree x3 x12).bind fun r11 =>
                    cond (!r11)
                      (some false)
                      ((laws_same x12 x14).bind fun r12 =>
                        cond (r12)
                          ((laws_same x12 x16).bind fun r13 =>
                            cond (r13)
                              ((laws_same x20 x4).bind fun r14 =>
                                cond (r14)
                                  ((laws_same x12 x4).bind fun r15 =>
                                    (laws_same x7 x18).bind fun r16 =>
                                      some ((r15 : Bool) == r16))
                                  (some false))
                              (some false))
                          (some false))))))))) :=
  (at_eq Γ X 105 [1, 1, 1, 1, 1, 1, 1, 1, 1, 1, 1, 1, 0, 0] _).trans (by kernel_rfl)
end Go.Proofs.Ythmddgkpebneoaa.D

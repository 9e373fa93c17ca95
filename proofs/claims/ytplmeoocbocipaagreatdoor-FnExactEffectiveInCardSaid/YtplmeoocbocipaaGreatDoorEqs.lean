/-
  Each function and each loop by its equation: what the evaluator tells of it, for all arguments.
-/
import Derived.Test.YtplmeoocbocipaaGreatDoorCtx
import Derived.KernelRfl
namespace Go.Proofs.YtplmeoocbocipaaGreatDoor.D
open Go Go.Den
set_option linter.unusedVariables false
set_option maxRecDepth 100000
theorem laws_szEdgeS_eq (a0 : (List (Int × Int))) (a1 : Int) : laws_szEdgeS a0 a1 =
    cond (decide (w64 (a1 - (a0.length : Int)) < 0))
      (some (-1))
      (some (w64 (a1 - (a0.length : Int)))) :=
  (den_eq Γ X 0 rfl _).trans (by kernel_rfl)
theorem laws_szGraph_eq (a0 : (Int × (List (Int × Int)))) (a1 : Int) : laws_szGraph a0 a1 =
    (laws_szEdgeS a0.2 a1).bind fun r1 =>
      cond (decide (r1 < 0))
        (some (-1))
        (some r1) :=
  (den_eq Γ X 1 rfl _).trans (by kernel_rfl)
theorem laws_toEdge_eq (a0 : (Int × Int)) : laws_toEdge a0 =
    some (a0.1, a0.2) :=
  (den_eq Γ X 2 rfl _).trans (by kernel_rfl)
theorem laws_toEdgeS_eq (a0 : (List (Int × Int))) : laws_toEdgeS a0 =
    cond (decide (0 ≤ (a0.length : Int)) && decide ((a0.length : Int) ≤ (room : Int)))
      (laws_toEdgeS_l0 a0 (List.replicate (a0.length : Int).toNat (0, 0)) 0)
      (none) :=
  (den_eq Γ X 3 rfl _).trans (by kernel_rfl)
theorem laws_toEdgeS_l0_eq (x0 : (List (Int × Int))) (x3 : (List (Int × Int))) (x4 : Int) : laws_toEdgeS_l0 x0 x3 x4 =
    cond (decide (x4 < (x0.length : Int)))
      (cond (inside x4 x0.length)
        ((laws_toEdge (x0.getD x4.toNat (0, 0))).bind fun r1 =>
          cond (inside x4 x3.length)
            (laws_toEdgeS_l0 x0 (x3.set x4.toNat r1) (w64 (x4 + 1)))
            (none))
        (none))
      (some x3) :=
  (at_eq Γ X 3 [1, 1, 0, 1, 0] _).trans (by kernel_rfl)
theorem laws_toGraph_eq (a0 : (Int × (List (Int × Int)))) : laws_toGraph a0 =
    (laws_toEdgeS a0.2).bind fun r1 =>
      some (a0.1, r1) :=
  (den_eq Γ X 4 rfl _).trans (by kernel_rfl)
theorem laws_toIntS_eq (a0 : (List Int)) : laws_toIntS a0 =
    cond (decide (0 ≤ (a0.length : Int)) && decide ((a0.length : Int) ≤ (room : Int)))
      (laws_toIntS_l0 a0 (List.replicate (a0.length : Int).toNat (0 : Int)) 0)
      (none) :=
  (den_eq Γ X 5 rfl _).trans (by kernel_rfl)
theorem laws_toIntS_l0_eq (x0 : (List Int)) (x3 : (List Int)) (x4 : Int) : laws_toIntS_l0 x0 x3 x4 =
    cond (decide (x4 < (x0.length : Int)))
      (cond (inside x4 x0.length)
        (cond (inside x4 x3.length)
          (laws_toIntS_l0 x0 (x3.set x4.toNat (x0.getD x4.toNat 0)) (w64 (x4 + 1)))
          (none))
        (none))
      (some x3) :=
  (at_eq Γ X 5 [1, 1, 0, 1, 0] _).trans (by kernel_rfl)
theorem spec_l01In_eq (a0 : Int) (a1 : Int) (a2 : Int) : spec_l01In a0 a1 a2 =
    cond (decide (a0 ≥ a1))
      (some (decide (a0 ≤ a2)))
      (some false) :=
  (den_eq Γ X 6 rfl _).trans (by kernel_rfl)
theorem spec_EdgesOk_eq (a0 : (Int × (List (Int × Int)))) : spec_EdgesOk a0 =
    (spec_l01In a0.1 1 6).bind fun r1 =>
      cond (!r1)
        (some false)
        (cond (decide ((a0.2.length : Int) > 12))
          (some false)
          (spec_EdgesOk_l0 a0 a0.2 (a0.2.length : Int) 0)) :=
  (den_eq Γ X 7 rfl _).trans (by kernel_rfl)
theorem spec_EdgesOk_l0_eq (x1 : (Int × (List (Int × Int)))) (x16 : (List (Int × Int))) (x17 : Int) (x18 : Int) : spec_EdgesOk_l0 x1 x16 x17 x18 =
    cond (decide (x18 < x17))
      (cond (inside x18 x16.length)
        ((spec_l01In ((x16.getD x18.toNat (0, 0)).1) 0 (w64 (x1.1 - 1))).bind fun r2 =>
          cond (!r2)
            (some false)
            ((spec_l01In ((x16.getD x18.toNat (0, 0)).2) (w64 (((x16.getD x18.toNat (0, 0)).1) + 1)) (w64 (x1.1 - 1))).bind fun r3 =>
              cond (!r3)
                (some false)
                (spec_EdgesOk_l0 x1 x16 x17 (w64 (x18 + 1)))))
        (none))
      (some true) :=
  (at_eq Γ X 7 [1, 1, 0, 1, 0] _).trans (by kernel_rfl)
theorem spec_l02Has_eq (a0 : (List Int)) (a1 : Int) : spec_l02Has a0 a1 =
    spec_l02Has_l0 a1 a0 (a0.length : Int) 0 :=
  (den_eq Γ X 8 rfl _).trans (by kernel_rfl)
theorem spec_l02Has_l0_eq (x1 : Int) (x7 : (List Int)) (x8 : Int) (x9 : Int) : spec_l02Has_l0 x1 x7 x8 x9 =
    cond (decide (x9 < x8))
      (cond (inside x9 x7.length)
        (cond (((x7.getD x9.toNat 0) : Int) == x1)
          (some true)
          (spec_l02Has_l0 x1 x7 x8 (w64 (x9 + 1))))
        (none))
      (some false) :=
  (at_eq Γ X 8 [1, 0, 1, 0] _).trans (by kernel_rfl)
theorem spec_l02Reach_eq (a0 : (Int × (List (Int × Int)))) : spec_l02Reach a0 =
    spec_l02Reach_l0 a0 ([0] : List Int) 0 :=
  (den_eq Γ X 9 rfl _).trans (by kernel_rfl)
theorem spec_l02Reach_l0_eq (x1 : (Int × (List (Int × Int)))) (x3 : (List Int)) (x4 : Int) : spec_l02Reach_l0 x1 x3 x4 =
    cond (decide (x4 < (x3.length : Int)))
      (spec_l02Reach_l2 x1 x3 x4 x1.2 (x1.2.length : Int) 0)
      (some x3) :=
  (at_eq Γ X 9 [1, 1, 0, 1, 0] _).trans (by kernel_rfl)
theorem spec_l02Reach_l2_eq (x1 : (Int × (List (Int × Int)))) (x3 : (List Int)) (x4 : Int) (x15 : (List (Int × Int))) (x16 : Int) (x17 : Int) : spec_l02Reach_l2 x1 x3 x4 x15 x16 x17 =
    cond (decide (x17 < x16))
      (cond (inside x17 x15.length)
        (cond (inside x4 x3.length)
          (cond ((((x15.getD x17.toNat (0, 0)).1) : Int) == (x3.getD x4.toNat 0))
            ((spec_l02Has x3 ((x15.getD x17.toNat (0, 0)).2)).bind fun r1 =>
              cond (!r1)
                (cond (decide (x3.length + ([(x15.getD x17.toNat (0, 0)).2] : List Int).length ≤ room))
                  (cond (inside x4 (x3 ++ ([(x15.getD x17.toNat (0, 0)).2] : List Int)).length)
                    (cond ((((x15.getD x17.toNat (0, 0)).2) : Int) == ((x3 ++ ([(x15.getD x17.toNat (0, 0)).2] : List Int)).getD x4.toNat 0))
                      ((spec_l02Has (x3 ++ ([(x15.getD x17.toNat (0, 0)).2] : List Int)) ((x15.getD x17.toNat (0, 0)).1)).bind fun r2 =>
                        cond (!r2)
                          (spec_l02Reach_c11 x1 (x3 ++ ([(x15.getD x17.toNat (0, 0)).2] : List Int)) x4 (x15.getD x17.toNat (0, 0)) x15 x16 x17)
                          (spec_l02Reach_c12 x1 (x3 ++ ([(x15.getD x17.toNat (0, 0)).2] : List Int)) x4 x15 x16 x17))
                      (spec_l02Reach_c12 x1 (x3 ++ ([(x15.getD x17.toNat (0, 0)).2] : List Int)) x4 x15 x16 x17))
                    (none))
                  (none))
                (cond (inside x4 x3.length)
                  (cond ((((x15.getD x17.toNat (0, 0)).2) : Int) == (x3.getD x4.toNat 0))
                    ((spec_l02Has x3 ((x15.getD x17.toNat (0, 0)).1)).bind fun r3 =>
                      cond (!r3)
                        (spec_l02Reach_c11 x1 x3 x4 (x15.getD x17.toNat (0, 0)) x15 x16 x17)
                        (spec_l02Reach_c12 x1 x3 x4 x15 x16 x17))
                    (spec_l02Reach_c12 x1 x3 x4 x15 x16 x17))
                  (none)))
            (cond (inside x4 x3.length)
              (cond ((((x15.getD x17.toNat (0, 0)).2) : Int) == (x3.getD x4.toNat 0))
                ((spec_l02Has x3 ((x15.getD x17.toNat (0, 0)).1)).bind fun r4 =>
                  cond (!r4)
                    (spec_l02Reach_c11 x1 x3 x4 (x15.getD x17.toNat (0, 0)) x15 x16 x17)
                    (spec_l02Reach_c12 x1 x3 x4 x15 x16 x17))
                (spec_l02Reach_c12 x1 x3 x4 x15 x16 x17))
              (none)))
          (none))
        (none))
      (spec_l02Reach_l0 x1 x3 (w64 (x4 + 1))) :=
  (at_eq Γ X 9 [1, 1, 0, 1, 0, 0, 1, 0, 0, 1, 0] _).trans (by kernel_rfl)
theorem spec_l02Reach_c11_eq (x1 : (Int × (List (Int × Int)))) (x3 : (List Int)) (x4 : Int) (x6 : (Int × Int)) (x15 : (List (Int × Int))) (x16 : Int) (x17 : Int) : spec_l02Reach_c11 x1 x3 x4 x6 x15 x16 x17 =
    cond (decide (x3.length + ([x6.1] : List Int).length ≤ room))
      (spec_l02Reach_c12 x1 (x3 ++ ([x6.1] : List Int)) x4 x15 x16 x17)
      (none) :=
  (at_eq Γ X 9 [1, 1, 0, 1, 0, 0, 1, 0, 0, 1, 0, 0, 1, 1, 0, 0, 1, 1, 1, 0] _).trans (by kernel_rfl)
theorem spec_l02Reach_c12_eq (x1 : (Int × (List (Int × Int)))) (x3 : (List Int)) (x4 : Int) (x15 : (List (Int × Int))) (x16 : Int) (x17 : Int) : spec_l02Reach_c12 x1 x3 x4 x15 x16 x17 =
    spec_l02Reach_l2 x1 x3 x4 x15 x16 (w64 (x17 + 1)) :=
  (at_eq Γ X 9 [1, 1, 0, 1, 0, 0, 1, 0, 0, 1, 0, 0, 1, 1, 1] _).trans (by kernel_rfl)
theorem spec_GraphOk_eq (a0 : (Int × (List (Int × Int)))) : spec_GraphOk a0 =
    (spec_EdgesOk a0).bind fun r1 =>
      cond (!r1)
        (some false)
        (spec_GraphOk_l0 a0 a0.2 (a0.2.length : Int) 0) :=
  (den_eq Γ X 10 rfl _).trans (by kernel_rfl)
theorem spec_GraphOk_l0_eq (x1 : (Int × (List (Int × Int)))) (x9 : (List (Int × Int))) (x10 : Int) (x11 : Int) : spec_GraphOk_l0 x1 x9 x10 x11 =
    cond (decide (x11 < x10))
      (cond (inside x11 x9.length)
        (cond (decide (x11 > 0))
          (cond (inside (w64 (x11 - 1)) x1.2.length)
            (cond (decide ((x9.getD x11.toNat (0, 0)).1 < (x1.2.getD ((w64 (x11 - 1)).toNat) (0, 0)).1))
              (some false)
              (cond (inside (w64 (x11 - 1)) x1.2.length)
                (cond ((((x9.getD x11.toNat (0, 0)).1) : Int) == ((x1.2.getD ((w64 (x11 - 1)).toNat) (0, 0)).1))
                  (cond (inside (w64 (x11 - 1)) x1.2.length)
                    (cond (decide ((x9.getD x11.toNat (0, 0)).2 < (x1.2.getD ((w64 (x11 - 1)).toNat) (0, 0)).2))
                      (some false)
                      (spec_GraphOk_c8 x1 x9 x10 x11))
                    (none))
                  (spec_GraphOk_c8 x1 x9 x10 x11))
                (none)))
            (none))
          (spec_GraphOk_c8 x1 x9 x10 x11))
        (none))
      ((spec_l02Reach x1).bind fun r2 =>
        some (((r2.length : Int) : Int) == x1.1)) :=
  (at_eq Γ X 10 [1, 1, 0, 1, 0] _).trans (by kernel_rfl)
theorem spec_GraphOk_c8_eq (x1 : (Int × (List (Int × Int)))) (x9 : (List (Int × Int))) (x10 : Int) (x11 : Int) : spec_GraphOk_c8 x1 x9 x10 x11 =
    spec_GraphOk_l0 x1 x9 x10 (w64 (x11 + 1)) :=
  (at_eq Γ X 10 [1, 1, 0, 1, 0, 0, 1, 1, 1] _).trans (by kernel_rfl)
theorem spec_DivisorOk_eq (a0 : (Int × (List (Int × Int)))) (a1 : (List Int)) : spec_DivisorOk a0 a1 =
    (spec_GraphOk a0).bind fun r1 =>
      cond (!r1)
        (some false)
        (cond (((a1.length : Int) : Int) != a0.1)
          (some false)
          (spec_DivisorOk_l0 a1 (a1.length : Int) 0)) :=
  (den_eq Γ X 11 rfl _).trans (by kernel_rfl)
theorem spec_DivisorOk_l0_eq (x17 : (List Int)) (x18 : Int) (x19 : Int) : spec_DivisorOk_l0 x17 x18 x19 =
    cond (decide (x19 < x18))
      (cond (inside x19 x17.length)
        ((spec_l01In (x17.getD x19.toNat 0) (-60) 60).bind fun r2 =>
          cond (!r2)
            (some false)
            (spec_DivisorOk_l0 x17 x18 (w64 (x19 + 1))))
        (none))
      (some true) :=
  (at_eq Γ X 11 [1, 1, 0, 1, 0] _).trans (by kernel_rfl)
theorem spec_DegreeOf_eq (a0 : (List Int)) : spec_DegreeOf a0 =
    spec_DegreeOf_l0 0 a0 (a0.length : Int) 0 :=
  (den_eq Γ X 12 rfl _).trans (by kernel_rfl)
theorem spec_DegreeOf_l0_eq (x3 : Int) (x6 : (List Int)) (x7 : Int) (x8 : Int) : spec_DegreeOf_l0 x3 x6 x7 x8 =
    cond (decide (x8 < x7))
      (cond (inside x8 x6.length)
        (spec_DegreeOf_l0 (w64 (x3 + (x6.getD x8.toNat 0))) x6 x7 (w64 (x8 + 1)))
        (none))
      (some x3) :=
  (at_eq Γ X 12 [1, 1, 0, 1, 0] _).trans (by kernel_rfl)
theorem spec_l05Ok_eq (a0 : (Int × (List (Int × Int)))) (a1 : (List Int)) (a2 : Int) : spec_l05Ok a0 a1 a2 =
    (spec_DivisorOk a0 a1).bind fun r1 =>
      cond (r1)
        ((spec_l01In a2 0 (w64 (a0.1 - 1))).bind fun r2 =>
          some r2)
        (some false) :=
  (den_eq Γ X 13 rfl _).trans (by kernel_rfl)
theorem spec_l05Debt_eq (a0 : (List Int)) (a1 : Int) : spec_l05Debt a0 a1 =
    spec_l05Debt_l0 a1 a0 (a0.length : Int) 0 :=
  (den_eq Γ X 14 rfl _).trans (by kernel_rfl)
theorem spec_l05Debt_l0_eq (x1 : Int) (x7 : (List Int)) (x8 : Int) (x9 : Int) : spec_l05Debt_l0 x1 x7 x8 x9 =
    cond (decide (x9 < x8))
      (cond (inside x9 x7.length)
        (cond ((x9 : Int) != x1)
          (cond (decide (x7.getD x9.toNat 0 < 0))
            (some true)
            (spec_l05Debt_l0 x1 x7 x8 (w64 (x9 + 1))))
          (spec_l05Debt_l0 x1 x7 x8 (w64 (x9 + 1))))
        (none))
      (some false) :=
  (at_eq Γ X 14 [1, 0, 1, 0] _).trans (by kernel_rfl)
theorem spec_l04Fire_eq (a0 : (Int × (List (Int × Int)))) (a1 : (List Int)) (a2 : (List Int)) : spec_l04Fire a0 a1 a2 =
    cond (decide (([] : List Int).length + a1.length ≤ room))
      (spec_l04Fire_l0 a2 (([] : List Int) ++ a1) a0.2 (a0.2.length : Int) 0)
      (none) :=
  (den_eq Γ X 15 rfl _).trans (by kernel_rfl)
theorem spec_l04Fire_l0_eq (x2 : (List Int)) (x7 : (List Int)) (x14 : (List (Int × Int))) (x15 : Int) (x16 : Int) : spec_l04Fire_l0 x2 x7 x14 x15 x16 =
    cond (decide (x16 < x15))
      (cond (inside x16 x14.length)
        (cond (inside ((x14.getD x16.toNat (0, 0)).1) x7.length)
          (cond (inside ((x14.getD x16.toNat (0, 0)).1) x2.length)
            (cond (inside ((x14.getD x16.toNat (0, 0)).2) x2.length)
              (cond (inside ((x14.getD x16.toNat (0, 0)).1) x7.length)
                (cond (inside ((x14.getD x16.toNat (0, 0)).2) (x7.set (((x14.getD x16.toNat (0, 0)).1).toNat) (w64 ((w64 ((x7.getD (((x14.getD x16.toNat (0, 0)).1).toNat) 0) - (x2.getD (((x14.getD x16.toNat (0, 0)).1).toNat) 0))) + (x2.getD (((x14.getD x16.toNat (0, 0)).2).toNat) 0)))).length)
                  (cond (inside ((x14.getD x16.toNat (0, 0)).2) x2.length)
                    (cond (inside ((x14.getD x16.toNat (0, 0)).1) x2.length)
                      (cond (inside ((x14.getD x16.toNat (0, 0)).2) (x7.set (((x14.getD x16.toNat (0, 0)).1).toNat) (w64 ((w64 ((x7.getD (((x14.getD x16.toNat (0, 0)).1).toNat) 0) - (x2.getD (((x14.getD x16.toNat (0, 0)).1).toNat) 0))) + (x2.getD (((x14.getD x16.toNat (0, 0)).2).toNat) 0)))).length)
                        (spec_l04Fire_c7 x2 ((x7.set (((x14.getD x16.toNat (0, 0)).1).toNat) (w64 ((w64 ((x7.getD (((x14.getD x16.toNat (0, 0)).1).toNat) 0) - (x2.getD (((x14.getD x16.toNat (0, 0)).1).toNat) 0))) + (x2.getD (((x14.getD x16.toNat (0, 0)).2).toNat) 0)))).set (((x14.getD x16.toNat (0, 0)).2).toNat) (w64 ((w64 (((x7.set (((x14.getD x16.toNat (0, 0)).1).toNat) (w64 ((w64 ((x7.getD (((x14.getD x16.toNat (0, 0)).1).toNat) 0) - (x2.getD (((x14.getD x16.toNat (0, 0)).1).toNat) 0))) + (x2.getD (((x14.getD x16.toNat (0, 0)).2).toNat) 0)))).getD (((x14.getD x16.toNat (0, 0)).2).toNat) 0) - (x2.getD (((x14.getD x16.toNat (0, 0)).2).toNat) 0))) + (x2.getD (((x14.getD x16.toNat (0, 0)).1).toNat) 0)))) x14 x15 x16)
                        (none))
                      (none))
                    (none))
                  (none))
                (none))
              (none))
            (none))
          (none))
        (none))
      (some x7) :=
  (at_eq Γ X 15 [1, 1, 0, 1, 0] _).trans (by kernel_rfl)
theorem spec_l04Fire_c7_eq (x2 : (List Int)) (x7 : (List Int)) (x14 : (List (Int × Int))) (x15 : Int) (x16 : Int) : spec_l04Fire_c7 x2 x7 x14 x15 x16 =
    spec_l04Fire_l0 x2 x7 x14 x15 (w64 (x16 + 1)) :=
  (at_eq Γ X 15 [1, 1, 0, 1, 0, 0, 1, 1, 1] _).trans (by kernel_rfl)
theorem spec_l02Vert_eq (a0 : (Int × (List (Int × Int)))) (a1 : Int) : spec_l02Vert a0 a1 =
    cond (decide (a1 ≥ 0))
      (some (decide (a1 < a0.1)))
      (some false) :=
  (den_eq Γ X 16 rfl _).trans (by kernel_rfl)
theorem spec_Multiplicity_eq (a0 : (Int × (List (Int × Int)))) (a1 : Int) (a2 : Int) : spec_Multiplicity a0 a1 a2 =
    (spec_l02Vert a0 a1).bind fun r1 =>
      cond (!r1)
        (some 0)
        ((spec_l02Vert a0 a2).bind fun r2 =>
          cond (!r2)
            (some 0)
            (cond ((a1 : Int) == a2)
              (some 0)
              (spec_Multiplicity_l0 a1 a2 0 a0.2 (a0.2.length : Int) 0))) :=
  (den_eq Γ X 17 rfl _).trans (by kernel_rfl)
theorem spec_Multiplicity_l0_eq (x1 : Int) (x2 : Int) (x7 : Int) (x26 : (List (Int × Int))) (x27 : Int) (x28 : Int) : spec_Multiplicity_l0 x1 x2 x7 x26 x27 x28 =
    cond (decide (x28 < x27))
      (cond (inside x28 x26.length)
        (cond ((((x26.getD x28.toNat (0, 0)).1) : Int) == (imin x1 x2))
          (cond ((((x26.getD x28.toNat (0, 0)).2) : Int) == (imax x1 x2))
            (spec_Multiplicity_l0 x1 x2 (w64 (x7 + 1)) x26 x27 (w64 (x28 + 1)))
            (spec_Multiplicity_l0 x1 x2 x7 x26 x27 (w64 (x28 + 1))))
          (spec_Multiplicity_l0 x1 x2 x7 x26 x27 (w64 (x28 + 1))))
        (none))
      (some x7) :=
  (at_eq Γ X 17 [1, 1, 1, 0, 1, 0] _).trans (by kernel_rfl)
theorem spec_l05Burn_eq (a0 : (Int × (List (Int × Int)))) (a1 : (List Int)) (a2 : Int) : spec_l05Burn a0 a1 a2 =
    cond (decide (0 ≤ a0.1) && decide (a0.1 ≤ (room : Int)))
      (cond (inside a2 (List.replicate a0.1.toNat false).length)
        (spec_l05Burn_l0 a1 a0 ([a2] : List Int) ((List.replicate a0.1.toNat false).set a2.toNat true))
        (none))
      (none) :=
  (den_eq Γ X 18 rfl _).trans (by kernel_rfl)
theorem spec_l05Burn_l0_eq (x1 : (List Int)) (x3 : (Int × (List (Int × Int)))) (x7 : (List Int)) (x8 : (List Bool)) : spec_l05Burn_l0 x1 x3 x7 x8 =
    spec_l05Burn_l2 x1 x3 x7 x8 (-1) (w64 (x3.1 - 1)) :=
  (at_eq Γ X 18 [1, 1, 1, 1, 0] _).trans (by kernel_rfl)
theorem spec_l05Burn_l2_eq (x1 : (List Int)) (x3 : (Int × (List (Int × Int)))) (x7 : (List Int)) (x8 : (List Bool)) (x9 : Int) (x10 : Int) : spec_l05Burn_l2 x1 x3 x7 x8 x9 x10 =
    cond (decide (x10 ≥ 0))
      (spec_l05Burn_l4 x1 x3 x7 x8 x9 x10 0 0)
      (cond (decide (x9 < 0))
        (some x7)
        (cond (inside x9 x8.length)
          (cond (decide (x7.length + ([x9] : List Int).length ≤ room))
            (spec_l05Burn_l0 x1 x3 (x7 ++ ([x9] : List Int)) (x8.set x9.toNat true))
            (none))
          (none))) :=
  (at_eq Γ X 18 [1, 1, 1, 1, 0, 0, 0, 1, 0, 1, 0] _).trans (by kernel_rfl)
theorem spec_l05Burn_l4_eq (x1 : (List Int)) (x3 : (Int × (List (Int × Int)))) (x7 : (List Int)) (x8 : (List Bool)) (x9 : Int) (x10 : Int) (x11 : Int) (x12 : Int) : spec_l05Burn_l4 x1 x3 x7 x8 x9 x10 x11 x12 =
    cond (decide (x12 < x3.1))
      (cond (inside x12 x8.length)
        (cond (x8.getD x12.toNat false)
          ((spec_Multiplicity x3 x10 x12).bind fun r1 =>
            spec_l05Burn_l4 x1 x3 x7 x8 x9 x10 (w64 (x11 + r1)) (w64 (x12 + 1)))
          (spec_l05Burn_l4 x1 x3 x7 x8 x9 x10 x11 (w64 (x12 + 1))))
        (none))
      (cond (inside x10 x8.length)
        (cond (!(x8.getD x10.toNat false))
          (cond (inside x10 x1.length)
            (cond (decide (x1.getD x10.toNat 0 < x11))
              (spec_l05Burn_l2 x1 x3 x7 x8 x10 (w64 (x10 - 1)))
              (spec_l05Burn_l2 x1 x3 x7 x8 x9 (w64 (x10 - 1))))
            (none))
          (spec_l05Burn_l2 x1 x3 x7 x8 x9 (w64 (x10 - 1))))
        (none)) :=
  (at_eq Γ X 18 [1, 1, 1, 1, 0, 0, 0, 1, 0, 1, 0, 0, 1, 0, 0, 1, 0, 1, 0] _).trans (by kernel_rfl)
theorem spec_l05Reduce_eq (a0 : (Int × (List (Int × Int)))) (a1 : (List Int)) (a2 : Int) : spec_l05Reduce a0 a1 a2 =
    cond (decide (0 ≤ a0.1) && decide (a0.1 ≤ (room : Int)))
      (cond (decide (([] : List Int).length + a1.length ≤ room))
        (spec_l05Reduce_l0 a1 a2 a0 (List.replicate a0.1.toNat (0 : Int)) (([] : List Int) ++ a1))
        (none))
      (none) :=
  (den_eq Γ X 19 rfl _).trans (by kernel_rfl)
theorem spec_l05Reduce_l0_eq (x1 : (List Int)) (x2 : Int) (x3 : (Int × (List (Int × Int)))) (x8 : (List Int)) (x9 : (List Int)) : spec_l05Reduce_l0 x1 x2 x3 x8 x9 =
    (spec_l05Debt x9 x2).bind fun r1 =>
      cond (r1)
        (spec_l05Reduce_l2 x1 x2 x3 x8 x9 (x9.length : Int) 0)
        (spec_l05Reduce_l4 x1 x2 x3 x8 x9) :=
  (at_eq Γ X 19 [1, 1, 1, 0, 0] _).trans (by kernel_rfl)
theorem spec_l05Reduce_l2_eq (x1 : (List Int)) (x2 : Int) (x3 : (Int × (List (Int × Int)))) (x8 : (List Int)) (x9 : (List Int)) (x23 : Int) (x24 : Int) : spec_l05Reduce_l2 x1 x2 x3 x8 x9 x23 x24 =
    cond (decide (x24 < x23))
      (cond ((x24 : Int) != x2)
        (cond (inside x24 x9.length)
          (cond (decide (x9.getD x24.toNat 0 < 0))
            (cond (inside x24 x8.length)
              (cond (inside x24 x8.length)
                ((spec_l04Fire x3 x1 (x8.set x24.toNat (w64 ((x8.getD x24.toNat 0) - 1)))).bind fun r2 =>
                  spec_l05Reduce_l2 x1 x2 x3 (x8.set x24.toNat (w64 ((x8.getD x24.toNat 0) - 1))) r2 x23 (w64 (x24 + 1)))
                (none))
              (none))
            (spec_l05Reduce_l2 x1 x2 x3 x8 x9 x23 (w64 (x24 + 1))))
          (none))
        (spec_l05Reduce_l2 x1 x2 x3 x8 x9 x23 (w64 (x24 + 1))))
      (spec_l05Reduce_l0 x1 x2 x3 x8 x9) :=
  (at_eq Γ X 19 [1, 1, 1, 0, 0, 0, 1, 0, 1, 0] _).trans (by kernel_rfl)
theorem spec_l05Reduce_l4_eq (x1 : (List Int)) (x2 : Int) (x3 : (Int × (List (Int × Int)))) (x8 : (List Int)) (x9 : (List Int)) : spec_l05Reduce_l4 x1 x2 x3 x8 x9 =
    (spec_l05Burn x3 x9 x2).bind fun r3 =>
      cond (((r3.length : Int) : Int) == x3.1)
        (some (x9, x8))
        (spec_l05Reduce_l6 x1 x2 x3 x8 r3 0) :=
  (at_eq Γ X 19 [1, 1, 1, 1, 0] _).trans (by kernel_rfl)
theorem spec_l05Reduce_l6_eq (x1 : (List Int)) (x2 : Int) (x3 : (Int × (List (Int × Int)))) (x8 : (List Int)) (x11 : (List Int)) (x12 : Int) : spec_l05Reduce_l6 x1 x2 x3 x8 x11 x12 =
    cond (decide (x12 < x3.1))
      ((spec_l02Has x11 x12).bind fun r4 =>
        cond (!r4)
          (cond (inside x12 x8.length)
            (cond (inside x12 x8.length)
              (spec_l05Reduce_l6 x1 x2 x3 (x8.set x12.toNat (w64 ((x8.getD x12.toNat 0) + 1))) x11 (w64 (x12 + 1)))
              (none))
            (none))
          (spec_l05Reduce_l6 x1 x2 x3 x8 x11 (w64 (x12 + 1))))
      ((spec_l04Fire x3 x1 x8).bind fun r5 =>
        spec_l05Reduce_l4 x1 x2 x3 x8 r5) :=
  (at_eq Γ X 19 [1, 1, 1, 1, 0, 0, 0, 1, 1, 0, 1, 0] _).trans (by kernel_rfl)
theorem spec_ReducedOf_eq (a0 : (Int × (List (Int × Int)))) (a1 : (List Int)) (a2 : Int) : spec_ReducedOf a0 a1 a2 =
    (spec_l05Ok a0 a1 a2).bind fun r1 =>
      cond (!r1)
        (some (([] : List Int), false))
        ((spec_l05Reduce a0 a1 a2).bind fun r2 =>
          some (r2.1, true)) :=
  (den_eq Γ X 20 rfl _).trans (by kernel_rfl)
theorem spec_ChipsAt_eq (a0 : (Int × (List (Int × Int)))) (a1 : (List Int)) (a2 : Int) : spec_ChipsAt a0 a1 a2 =
    (spec_ReducedOf a0 a1 a2).bind fun r1 =>
      cond (!r1.2)
        (some (0, false))
        (cond (inside a2 r1.1.length)
          (some (r1.1.getD a2.toNat 0, true))
          (none)) :=
  (den_eq Γ X 21 rfl _).trans (by kernel_rfl)
theorem spec_IsWinnable_eq (a0 : (Int × (List (Int × Int)))) (a1 : (List Int)) : spec_IsWinnable a0 a1 =
    (spec_ChipsAt a0 a1 0).bind fun r1 =>
      cond (r1.2)
        (some (decide (r1.1 ≥ 0)))
        (some false) :=
  (den_eq Γ X 22 rfl _).trans (by kernel_rfl)
theorem spec_l06Effective_eq (a0 : Int) (a1 : Int) : spec_l06Effective a0 a1 =
    cond (decide (a1 < 0))
      (some ([] : List (List Int)))
      (cond ((a0 : Int) == 0)
        (some ([] : List (List Int)))
        (cond ((a0 : Int) == 1)
          (some ([([a1] : List Int)] : List (List Int)))
          (spec_l06Effective_l0 a0 a1 ([] : List (List Int)) 0))) :=
  (den_eq Γ X 23 rfl _).trans (by kernel_rfl)
theorem spec_l06Effective_l0_eq (x0 : Int) (x1 : Int) (x5 : (List (List Int))) (x6 : Int) : spec_l06Effective_l0 x0 x1 x5 x6 =
    cond (decide (x6 ≤ x1))
      ((spec_l06Effective (w64 (x0 - 1)) (w64 (x1 - x6))).bind fun r1 =>
        spec_l06Effective_l2 x0 x1 x5 x6 r1 (r1.length : Int) 0)
      (some x5) :=
  (at_eq Γ X 23 [1, 1, 1, 1, 0, 1, 0] _).trans (by kernel_rfl)
theorem spec_l06Effective_l2_eq (x0 : Int) (x1 : Int) (x5 : (List (List Int))) (x6 : Int) (x31 : (List (List Int))) (x32 : Int) (x33 : Int) : spec_l06Effective_l2 x0 x1 x5 x6 x31 x32 x33 =
    cond (decide (x33 < x32))
      (cond (inside x33 x31.length)
        (cond (decide (([x6] : List Int).length + (x31.getD x33.toNat ([] : List Int)).length ≤ room))
          (cond (decide (x5.length + ([([x6] : List Int) ++ (x31.getD x33.toNat ([] : List Int))] : List (List Int)).length ≤ room))
            (spec_l06Effective_l2 x0 x1 (x5 ++ ([([x6] : List Int) ++ (x31.getD x33.toNat ([] : List Int))] : List (List Int))) x6 x31 x32 (w64 (x33 + 1)))
            (none))
          (none))
        (none))
      (spec_l06Effective_l0 x0 x1 x5 (w64 (x6 + 1))) :=
  (at_eq Γ X 23 [1, 1, 1, 1, 0, 1, 0, 0, 1, 0, 0, 1, 0] _).trans (by kernel_rfl)
theorem spec_SameDivisor_eq (a0 : (List Int)) (a1 : (List Int)) : spec_SameDivisor a0 a1 =
    cond (((a0.length : Int) : Int) != (a1.length : Int))
      (some false)
      (spec_SameDivisor_l0 a1 a0 (a0.length : Int) 0) :=
  (den_eq Γ X 24 rfl _).trans (by kernel_rfl)
theorem spec_SameDivisor_l0_eq (x1 : (List Int)) (x12 : (List Int)) (x13 : Int) (x14 : Int) : spec_SameDivisor_l0 x1 x12 x13 x14 =
    cond (decide (x14 < x13))
      (cond (inside x14 x12.length)
        (cond (inside x14 x1.length)
          (cond (((x12.getD x14.toNat 0) : Int) != (x1.getD x14.toNat 0))
            (some false)
            (spec_SameDivisor_l0 x1 x12 x13 (w64 (x14 + 1))))
          (none))
        (none))
      (some true) :=
  (at_eq Γ X 24 [1, 1, 0, 1, 0] _).trans (by kernel_rfl)
theorem spec_EffectiveIn_eq (a0 : (Int × (List (Int × Int)))) (a1 : (List Int)) : spec_EffectiveIn a0 a1 =
    (spec_DivisorOk a0 a1).bind fun r1 =>
      cond (!r1)
        (some (([] : List (List Int)), false))
        ((spec_DegreeOf a1).bind fun r2 =>
          cond (decide (r2 > 7))
            (some (([] : List (List Int)), false))
            ((spec_IsWinnable a0 a1).bind fun r3 =>
              cond (!r3)
                (some (([] : List (List Int)), true))
                ((spec_l05Reduce a0 a1 0).bind fun r4 =>
                  (spec_DegreeOf a1).bind fun r5 =>
                    (spec_l06Effective a0.1 r5).bind fun r6 =>
                      spec_EffectiveIn_l0 a0 ([] : List (List Int)) r4.1 r6 (r6.length : Int) 0))) :=
  (den_eq Γ X 25 rfl _).trans (by kernel_rfl)
theorem spec_EffectiveIn_l0_eq (x2 : (Int × (List (Int × Int)))) (x6 : (List (List Int))) (x7 : (List Int)) (x38 : (List (List Int))) (x39 : Int) (x40 : Int) : spec_EffectiveIn_l0 x2 x6 x7 x38 x39 x40 =
    cond (decide (x40 < x39))
      (cond (inside x40 x38.length)
        ((spec_l05Reduce x2 (x38.getD x40.toNat ([] : List Int)) 0).bind fun r7 =>
          (spec_SameDivisor x7 r7.1).bind fun r8 =>
            cond (r8)
              (cond (decide (x6.length + ([x38.getD x40.toNat ([] : List Int)] : List (List Int)).length ≤ room))
                (spec_EffectiveIn_l0 x2 (x6 ++ ([x38.getD x40.toNat ([] : List Int)] : List (List Int))) x7 x38 x39 (w64 (x40 + 1)))
                (none))
              (spec_EffectiveIn_l0 x2 x6 x7 x38 x39 (w64 (x40 + 1))))
        (none))
      (some (x6, true)) :=
  (at_eq Γ X 25 [1, 1, 1, 1, 1, 0, 1, 0] _).trans (by kernel_rfl)
theorem impl_within_eq (a0 : Int) (a1 : Int) (a2 : Int) : impl_within a0 a1 a2 =
    cond (decide (a0 ≥ a1))
      (some (decide (a0 ≤ a2)))
      (some false) :=
  (den_eq Γ X 26 rfl _).trans (by kernel_rfl)
theorem impl_EdgesOk_eq (a0 : (Int × (List (Int × Int)))) : impl_EdgesOk a0 =
    (impl_within a0.1 1 6).bind fun r1 =>
      cond (!r1)
        (some false)
        (cond (decide ((a0.2.length : Int) > 12))
          (some false)
          (impl_EdgesOk_l0 a0 a0.2 (a0.2.length : Int) 0)) :=
  (den_eq Γ X 27 rfl _).trans (by kernel_rfl)
theorem impl_EdgesOk_l0_eq (x1 : (Int × (List (Int × Int)))) (x16 : (List (Int × Int))) (x17 : Int) (x18 : Int) : impl_EdgesOk_l0 x1 x16 x17 x18 =
    cond (decide (x18 < x17))
      (cond (inside x18 x16.length)
        (cond (decide ((x16.getD x18.toNat (0, 0)).1 < 0))
          (some false)
          (cond (decide ((x16.getD x18.toNat (0, 0)).1 ≥ (x16.getD x18.toNat (0, 0)).2))
            (some false)
            (cond (decide ((x16.getD x18.toNat (0, 0)).2 ≥ x1.1))
              (some false)
              (impl_EdgesOk_l0 x1 x16 x17 (w64 (x18 + 1))))))
        (none))
      (some true) :=
  (at_eq Γ X 27 [1, 1, 0, 1, 0] _).trans (by kernel_rfl)
theorem cmp_isNaN_int_eq (a0 : Int) : cmp_isNaN_int a0 =
    some ((a0 : Int) != a0) :=
  (den_eq Γ X 28 rfl _).trans (by kernel_rfl)
theorem cmp_Compare_int_eq (a0 : Int) (a1 : Int) : cmp_Compare_int a0 a1 =
    (cmp_isNaN_int a0).bind fun r1 =>
      (cmp_isNaN_int a1).bind fun r2 =>
        cond (r1)
          (cond (r2)
            (some 0)
            (some (-1)))
          (cond (r2)
            (some 1)
            (cond (decide (a0 < a1))
              (some (-1))
              (cond (decide (a0 > a1))
                (some 1)
                (some 0)))) :=
  (den_eq Γ X 29 rfl _).trans (by kernel_rfl)
theorem impl_compareEdges_eq (a0 : (Int × Int)) (a1 : (Int × Int)) : impl_compareEdges a0 a1 =
    (cmp_Compare_int a0.1 a1.1).bind fun r1 =>
      cond ((r1 : Int) != 0)
        (some r1)
        ((cmp_Compare_int a0.2 a1.2).bind fun r2 =>
          some r2) :=
  (den_eq Γ X 30 rfl _).trans (by kernel_rfl)
theorem impl_Edge__compareEdges_eq (a0 : (List (Int × Int))) : impl_Edge__compareEdges a0 =
    impl_Edge__compareEdges_l0 a0 (w64 ((a0.length : Int) - 1)) :=
  (den_eq Γ X 31 rfl _).trans (by kernel_rfl)
theorem impl_Edge__compareEdges_l0_eq (x0 : (List (Int × Int))) (x5 : Int) : impl_Edge__compareEdges_l0 x0 x5 =
    cond (decide (x5 > 0))
      (cond (inside x5 x0.length)
        (cond (inside (w64 (x5 - 1)) x0.length)
          ((impl_compareEdges (x0.getD x5.toNat (0, 0)) (x0.getD ((w64 (x5 - 1)).toNat) (0, 0))).bind fun r1 =>
            cond (decide (r1 < 0))
              (some false)
              (impl_Edge__compareEdges_l0 x0 (w64 (x5 - 1))))
          (none))
        (none))
      (some true) :=
  (at_eq Γ X 31 [1, 0, 1, 0] _).trans (by kernel_rfl)
theorem impl_connected_eq (a0 : Int) (a1 : (List (Int × Int))) : impl_connected a0 a1 =
    impl_connected_l0 a0 a1 1 a0 0 :=
  (den_eq Γ X 32 rfl _).trans (by kernel_rfl)
theorem impl_connected_l0_eq (x0 : Int) (x1 : (List (Int × Int))) (x5 : Int) (x8 : Int) (x9 : Int) : impl_connected_l0 x0 x1 x5 x8 x9 =
    cond (decide (x9 < x8))
      (impl_connected_l2 x0 x1 x5 x8 x9 x1 (x1.length : Int) 0)
      (cond (decide (x0 < 0))
        (none)
        (some ((x5 : Int) == (w64 ((w64 (1 * 2 ^ (min x0.toNat 64))) - 1))))) :=
  (at_eq Γ X 32 [1, 1, 0, 1, 0] _).trans (by kernel_rfl)
theorem impl_connected_l2_eq (x0 : Int) (x1 : (List (Int × Int))) (x5 : Int) (x8 : Int) (x9 : Int) (x11 : (List (Int × Int))) (x12 : Int) (x13 : Int) : impl_connected_l2 x0 x1 x5 x8 x9 x11 x12 x13 =
    cond (decide (x13 < x12))
      (cond (inside x13 x11.length)
        (cond (decide ((x11.getD x13.toNat (0, 0)).1 < 0))
          (none)
          (cond (((bits .and .i64 (Int.fdiv x5 (2 ^ (min ((x11.getD x13.toNat (0, 0)).1).toNat 64))) 1) : Int) == 1)
            (cond (decide ((x11.getD x13.toNat (0, 0)).1 < 0))
              (none)
              (cond (decide ((x11.getD x13.toNat (0, 0)).2 < 0))
                (none)
                (impl_connected_l2 x0 x1 (bits .or .i64 x5 (bits .or .i64 (w64 (1 * 2 ^ (min ((x11.getD x13.toNat (0, 0)).1).toNat 64))) (w64 (1 * 2 ^ (min ((x11.getD x13.toNat (0, 0)).2).toNat 64))))) x8 x9 x11 x12 (w64 (x13 + 1)))))
            (cond (decide ((x11.getD x13.toNat (0, 0)).2 < 0))
              (none)
              (cond (((bits .and .i64 (Int.fdiv x5 (2 ^ (min ((x11.getD x13.toNat (0, 0)).2).toNat 64))) 1) : Int) == 1)
                (cond (decide ((x11.getD x13.toNat (0, 0)).1 < 0))
                  (none)
                  (cond (decide ((x11.getD x13.toNat (0, 0)).2 < 0))
                    (none)
                    (impl_connected_l2 x0 x1 (bits .or .i64 x5 (bits .or .i64 (w64 (1 * 2 ^ (min ((x11.getD x13.toNat (0, 0)).1).toNat 64))) (w64 (1 * 2 ^ (min ((x11.getD x13.toNat (0, 0)).2).toNat 64))))) x8 x9 x11 x12 (w64 (x13 + 1)))))
                (impl_connected_l2 x0 x1 x5 x8 x9 x11 x12 (w64 (x13 + 1)))))))
        (none))
      (impl_connected_l0 x0 x1 x5 x8 (w64 (x9 + 1))) :=
  (at_eq Γ X 32 [1, 1, 0, 1, 0, 0, 1, 1, 0, 0, 1, 0] _).trans (by kernel_rfl)
theorem impl_GraphOk_eq (a0 : (Int × (List (Int × Int)))) : impl_GraphOk a0 =
    (impl_EdgesOk a0).bind fun r1 =>
      cond (r1)
        ((impl_Edge__compareEdges a0.2).bind fun r2 =>
          cond (r2)
            ((impl_connected a0.1 a0.2).bind fun r3 =>
              some r3)
            (some false))
        (some false) :=
  (den_eq Γ X 33 rfl _).trans (by kernel_rfl)
theorem impl_allWithin_eq (a0 : (List Int)) (a1 : Int) (a2 : Int) : impl_allWithin a0 a1 a2 =
    impl_allWithin_l0 a1 a2 a0 (a0.length : Int) 0 :=
  (den_eq Γ X 34 rfl _).trans (by kernel_rfl)
theorem impl_allWithin_l0_eq (x1 : Int) (x2 : Int) (x9 : (List Int)) (x10 : Int) (x11 : Int) : impl_allWithin_l0 x1 x2 x9 x10 x11 =
    cond (decide (x11 < x10))
      (cond (inside x11 x9.length)
        ((impl_within (x9.getD x11.toNat 0) x1 x2).bind fun r1 =>
          cond (!r1)
            (some false)
            (impl_allWithin_l0 x1 x2 x9 x10 (w64 (x11 + 1))))
        (none))
      (some true) :=
  (at_eq Γ X 34 [1, 0, 1, 0] _).trans (by kernel_rfl)
theorem impl_DivisorOk_eq (a0 : (Int × (List (Int × Int)))) (a1 : (List Int)) : impl_DivisorOk a0 a1 =
    (impl_GraphOk a0).bind fun r1 =>
      cond (r1)
        (cond (((a1.length : Int) : Int) == a0.1)
          ((impl_allWithin a1 (-60) 60).bind fun r2 =>
            some r2)
          (some false))
        (some false) :=
  (den_eq Γ X 35 rfl _).trans (by kernel_rfl)
theorem impl_sumOf_eq (a0 : (List Int)) : impl_sumOf a0 =
    impl_sumOf_l0 0 a0 (a0.length : Int) 0 :=
  (den_eq Γ X 36 rfl _).trans (by kernel_rfl)
theorem impl_sumOf_l0_eq (x3 : Int) (x6 : (List Int)) (x7 : Int) (x8 : Int) : impl_sumOf_l0 x3 x6 x7 x8 =
    cond (decide (x8 < x7))
      (cond (inside x8 x6.length)
        (impl_sumOf_l0 (w64 (x3 + (x6.getD x8.toNat 0))) x6 x7 (w64 (x8 + 1)))
        (none))
      (some x3) :=
  (at_eq Γ X 36 [1, 1, 0, 1, 0] _).trans (by kernel_rfl)
theorem impl_DegreeOf_eq (a0 : (List Int)) : impl_DegreeOf a0 =
    (impl_sumOf a0).bind fun r1 =>
      some r1 :=
  (den_eq Γ X 37 rfl _).trans (by kernel_rfl)
theorem impl_copyInts_eq (a0 : (List Int)) : impl_copyInts a0 =
    cond (decide (([] : List Int).length + a0.length ≤ room))
      (some (([] : List Int) ++ a0))
      (none) :=
  (den_eq Γ X 38 rfl _).trans (by kernel_rfl)
theorem impl_inDebt_eq (a0 : (List Int)) (a1 : Int) : impl_inDebt a0 a1 =
    impl_inDebt_l0 a1 a0 (a0.length : Int) 0 :=
  (den_eq Γ X 39 rfl _).trans (by kernel_rfl)
theorem impl_inDebt_l0_eq (x1 : Int) (x7 : (List Int)) (x8 : Int) (x9 : Int) : impl_inDebt_l0 x1 x7 x8 x9 =
    cond (decide (x9 < x8))
      (cond (inside x9 x7.length)
        (cond ((x9 : Int) != x1)
          (cond (decide (x7.getD x9.toNat 0 < 0))
            (some x9)
            (impl_inDebt_l0 x1 x7 x8 (w64 (x9 + 1))))
          (impl_inDebt_l0 x1 x7 x8 (w64 (x9 + 1))))
        (none))
      (some (-1)) :=
  (at_eq Γ X 39 [1, 0, 1, 0] _).trans (by kernel_rfl)
theorem impl_Valence_eq (a0 : (Int × (List (Int × Int)))) (a1 : Int) : impl_Valence a0 a1 =
    cond (decide (a1 < 0))
      (some 0)
      (cond (decide (a1 ≥ a0.1))
        (some 0)
        (impl_Valence_l0 a1 0 a0.2 (a0.2.length : Int) 0)) :=
  (den_eq Γ X 40 rfl _).trans (by kernel_rfl)
theorem impl_Valence_l0_eq (x1 : Int) (x5 : Int) (x17 : (List (Int × Int))) (x18 : Int) (x19 : Int) : impl_Valence_l0 x1 x5 x17 x18 x19 =
    cond (decide (x19 < x18))
      (cond (inside x19 x17.length)
        (cond ((((x17.getD x19.toNat (0, 0)).1) : Int) == x1)
          (impl_Valence_l0 x1 (w64 (x5 + 1)) x17 x18 (w64 (x19 + 1)))
          (cond ((((x17.getD x19.toNat (0, 0)).2) : Int) == x1)
            (impl_Valence_l0 x1 (w64 (x5 + 1)) x17 x18 (w64 (x19 + 1)))
            (impl_Valence_l0 x1 x5 x17 x18 (w64 (x19 + 1)))))
        (none))
      (some x5) :=
  (at_eq Γ X 40 [1, 1, 1, 0, 1, 0] _).trans (by kernel_rfl)
theorem impl_fire_eq (a0 : (Int × (List (Int × Int)))) (a1 : (List Int)) (a2 : Int) (a3 : Int) : impl_fire a0 a1 a2 a3 =
    impl_fire_l0 a1 a2 a3 a0.2 (a0.2.length : Int) 0 :=
  (den_eq Γ X 41 rfl _).trans (by kernel_rfl)
theorem impl_fire_l0_eq (x1 : (List Int)) (x2 : Int) (x3 : Int) (x11 : (List (Int × Int))) (x12 : Int) (x13 : Int) : impl_fire_l0 x1 x2 x3 x11 x12 x13 =
    cond (decide (x13 < x12))
      (cond (inside x13 x11.length)
        (cond ((x2 : Int) == ((x11.getD x13.toNat (0, 0)).1))
          (cond (inside x2 x1.length)
            (cond (inside x2 x1.length)
              (cond (inside ((x11.getD x13.toNat (0, 0)).2) (x1.set x2.toNat (w64 ((x1.getD x2.toNat 0) - x3))).length)
                (cond (inside ((x11.getD x13.toNat (0, 0)).2) (x1.set x2.toNat (w64 ((x1.getD x2.toNat 0) - x3))).length)
                  (impl_fire_l0 ((x1.set x2.toNat (w64 ((x1.getD x2.toNat 0) - x3))).set (((x11.getD x13.toNat (0, 0)).2).toNat) (w64 (((x1.set x2.toNat (w64 ((x1.getD x2.toNat 0) - x3))).getD (((x11.getD x13.toNat (0, 0)).2).toNat) 0) + x3))) x2 x3 x11 x12 (w64 (x13 + 1)))
                  (none))
                (none))
              (none))
            (none))
          (cond ((x2 : Int) == ((x11.getD x13.toNat (0, 0)).2))
            (cond (inside x2 x1.length)
              (cond (inside x2 x1.length)
                (cond (inside ((x11.getD x13.toNat (0, 0)).1) (x1.set x2.toNat (w64 ((x1.getD x2.toNat 0) - x3))).length)
                  (cond (inside ((x11.getD x13.toNat (0, 0)).1) (x1.set x2.toNat (w64 ((x1.getD x2.toNat 0) - x3))).length)
                    (impl_fire_l0 ((x1.set x2.toNat (w64 ((x1.getD x2.toNat 0) - x3))).set (((x11.getD x13.toNat (0, 0)).1).toNat) (w64 (((x1.set x2.toNat (w64 ((x1.getD x2.toNat 0) - x3))).getD (((x11.getD x13.toNat (0, 0)).1).toNat) 0) + x3))) x2 x3 x11 x12 (w64 (x13 + 1)))
                    (none))
                  (none))
                (none))
              (none))
            (impl_fire_l0 x1 x2 x3 x11 x12 (w64 (x13 + 1)))))
        (none))
      (some x1) :=
  (at_eq Γ X 41 [1, 1, 0] _).trans (by kernel_rfl)
theorem impl_Multiplicity_eq (a0 : (Int × (List (Int × Int)))) (a1 : Int) (a2 : Int) : impl_Multiplicity a0 a1 a2 =
    cond (decide (imin a1 a2 < 0))
      (some 0)
      (cond (decide (imax a1 a2 ≥ a0.1))
        (some 0)
        (cond ((a1 : Int) == a2)
          (some 0)
          (impl_Multiplicity_l0 a1 a2 0 a0.2 (a0.2.length : Int) 0))) :=
  (den_eq Γ X 42 rfl _).trans (by kernel_rfl)
theorem impl_Multiplicity_l0_eq (x1 : Int) (x2 : Int) (x7 : Int) (x28 : (List (Int × Int))) (x29 : Int) (x30 : Int) : impl_Multiplicity_l0 x1 x2 x7 x28 x29 x30 =
    cond (decide (x30 < x29))
      (cond (inside x30 x28.length)
        (cond ((((x28.getD x30.toNat (0, 0)).1) : Int) == (imin x1 x2))
          (cond ((((x28.getD x30.toNat (0, 0)).2) : Int) == (imax x1 x2))
            (impl_Multiplicity_l0 x1 x2 (w64 (x7 + 1)) x28 x29 (w64 (x30 + 1)))
            (impl_Multiplicity_l0 x1 x2 x7 x28 x29 (w64 (x30 + 1))))
          (impl_Multiplicity_l0 x1 x2 x7 x28 x29 (w64 (x30 + 1))))
        (none))
      (some x7) :=
  (at_eq Γ X 42 [1, 1, 1, 0, 1, 0] _).trans (by kernel_rfl)
theorem slices_Index_int_int_eq (a0 : (List Int)) (a1 : Int) : slices_Index_int_int a0 a1 =
    slices_Index_int_int_l0 a0 a1 (a0.length : Int) 0 :=
  (den_eq Γ X 43 rfl _).trans (by kernel_rfl)
theorem slices_Index_int_int_l0_eq (x0 : (List Int)) (x1 : Int) (x7 : Int) (x8 : Int) : slices_Index_int_int_l0 x0 x1 x7 x8 =
    cond (decide (x8 < x7))
      (cond (inside x8 x0.length)
        (cond ((x1 : Int) == (x0.getD x8.toNat 0))
          (some x8)
          (slices_Index_int_int_l0 x0 x1 x7 (w64 (x8 + 1))))
        (none))
      (some (-1)) :=
  (at_eq Γ X 43 [1, 0, 1, 0] _).trans (by kernel_rfl)
theorem slices_Contains_int_int_eq (a0 : (List Int)) (a1 : Int) : slices_Contains_int_int a0 a1 =
    (slices_Index_int_int a0 a1).bind fun r1 =>
      some (decide (r1 ≥ 0)) :=
  (den_eq Γ X 44 rfl _).trans (by kernel_rfl)
theorem impl_burn_eq (a0 : (Int × (List (Int × Int)))) (a1 : (List Int)) (a2 : Int) : impl_burn a0 a1 a2 =
    impl_burn_l0 a1 a0 ([a2] : List Int) :=
  (den_eq Γ X 45 rfl _).trans (by kernel_rfl)
theorem impl_burn_l0_eq (x1 : (List Int)) (x3 : (Int × (List (Int × Int)))) (x7 : (List Int)) : impl_burn_l0 x1 x3 x7 =
    impl_burn_l2 x1 x3 x7 (-1) 0 :=
  (at_eq Γ X 45 [1, 1, 0] _).trans (by kernel_rfl)
theorem impl_burn_l2_eq (x1 : (List Int)) (x3 : (Int × (List (Int × Int)))) (x7 : (List Int)) (x8 : Int) (x9 : Int) : impl_burn_l2 x1 x3 x7 x8 x9 =
    cond (decide (x9 < x3.1))
      (cond (decide (x8 < 0))
        (impl_burn_l4 x1 x3 x7 x8 x9 0 (x7.length : Int) 0)
        (cond (decide (x8 < 0))
          (some x7)
          (cond (decide (x7.length + ([x8] : List Int).length ≤ room))
            (impl_burn_l0 x1 x3 (x7 ++ ([x8] : List Int)))
            (none))))
      (cond (decide (x8 < 0))
        (some x7)
        (cond (decide (x7.length + ([x8] : List Int).length ≤ room))
          (impl_burn_l0 x1 x3 (x7 ++ ([x8] : List Int)))
          (none))) :=
  (at_eq Γ X 45 [1, 1, 0, 0, 0, 1, 0, 1, 0] _).trans (by kernel_rfl)
theorem impl_burn_l4_eq (x1 : (List Int)) (x3 : (Int × (List (Int × Int)))) (x7 : (List Int)) (x8 : Int) (x9 : Int) (x10 : Int) (x26 : Int) (x27 : Int) : impl_burn_l4 x1 x3 x7 x8 x9 x10 x26 x27 =
    cond (decide (x27 < x26))
      (cond (inside x27 x7.length)
        ((impl_Multiplicity x3 x9 (x7.getD x27.toNat 0)).bind fun r1 =>
          impl_burn_l4 x1 x3 x7 x8 x9 (w64 (x10 + r1)) x26 (w64 (x27 + 1)))
        (none))
      ((slices_Contains_int_int x7 x9).bind fun r2 =>
        cond (!r2)
          (cond (inside x9 x1.length)
            (cond (decide (x1.getD x9.toNat 0 < x10))
              (impl_burn_l2 x1 x3 x7 x9 (w64 (x9 + 1)))
              (impl_burn_l2 x1 x3 x7 x8 (w64 (x9 + 1))))
            (none))
          (impl_burn_l2 x1 x3 x7 x8 (w64 (x9 + 1)))) :=
  (at_eq Γ X 45 [1, 1, 0, 0, 0, 1, 0, 1, 0, 0, 1, 0, 0, 1, 0, 1, 0] _).trans (by kernel_rfl)
theorem impl_reduce_eq (a0 : (Int × (List (Int × Int)))) (a1 : (List Int)) (a2 : Int) : impl_reduce a0 a1 a2 =
    (impl_copyInts a1).bind fun r1 =>
      cond (decide (0 ≤ a0.1) && decide (a0.1 ≤ (room : Int)))
        ((impl_inDebt r1 a2).bind fun r2 =>
          impl_reduce_l0 a2 a0 r1 (List.replicate a0.1.toNat (0 : Int)) r2)
        (none) :=
  (den_eq Γ X 46 rfl _).trans (by kernel_rfl)
theorem impl_reduce_l0_eq (x2 : Int) (x3 : (Int × (List (Int × Int)))) (x8 : (List Int)) (x9 : (List Int)) (x10 : Int) : impl_reduce_l0 x2 x3 x8 x9 x10 =
    cond (decide (x10 ≥ 0))
      ((impl_Valence x3 x10).bind fun r3 =>
        cond (inside x10 x8.length)
          (cond (decide (r3 = 0))
            (none)
            ((impl_fire x3 x8 x10 (w64 (0 - (w64 (Int.tdiv (w64 ((w64 (r3 - 1)) - (x8.getD x10.toNat 0))) r3))))).bind fun r4 =>
              cond (inside x10 x9.length)
                (cond (inside x10 x9.length)
                  ((impl_inDebt r4 x2).bind fun r5 =>
                    impl_reduce_l0 x2 x3 r4 (x9.set x10.toNat (w64 ((x9.getD x10.toNat 0) - (w64 (Int.tdiv (w64 ((w64 (r3 - 1)) - (x8.getD x10.toNat 0))) r3))))) r5)
                  (none))
                (none)))
          (none))
      (impl_reduce_l2 x2 x3 x8 x9) :=
  (at_eq Γ X 46 [1, 1, 1, 0, 1, 0] _).trans (by kernel_rfl)
theorem impl_reduce_l2_eq (x2 : Int) (x3 : (Int × (List (Int × Int)))) (x8 : (List Int)) (x9 : (List Int)) : impl_reduce_l2 x2 x3 x8 x9 =
    (impl_burn x3 x8 x2).bind fun r6 =>
      cond (((r6.length : Int) : Int) == x3.1)
        (some (x8, x9))
        (impl_reduce_l4 x2 x3 x8 x9 r6 (x9.length : Int) 0) :=
  (at_eq Γ X 46 [1, 1, 1, 1, 0] _).trans (by kernel_rfl)
theorem impl_reduce_l4_eq (x2 : Int) (x3 : (Int × (List (Int × Int)))) (x8 : (List Int)) (x9 : (List Int)) (x13 : (List Int)) (x65 : Int) (x66 : Int) : impl_reduce_l4 x2 x3 x8 x9 x13 x65 x66 =
    cond (decide (x66 < x65))
      ((slices_Contains_int_int x13 x66).bind fun r7 =>
        cond (!r7)
          ((impl_fire x3 x8 x66 1).bind fun r8 =>
            cond (inside x66 x9.length)
              (cond (inside x66 x9.length)
                (impl_reduce_l4 x2 x3 r8 (x9.set x66.toNat (w64 ((x9.getD x66.toNat 0) + 1))) x13 x65 (w64 (x66 + 1)))
                (none))
              (none))
          (impl_reduce_l4 x2 x3 x8 x9 x13 x65 (w64 (x66 + 1))))
      (impl_reduce_l2 x2 x3 x8 x9) :=
  (at_eq Γ X 46 [1, 1, 1, 1, 0, 0, 0, 1, 1, 1, 0] _).trans (by kernel_rfl)
theorem strconv_Itoa_eq (a0 : Int) : strconv_Itoa a0 = Lb.itoa a0 := den_ext Γ X 47 rfl _
theorem impl_FormatInt_eq (a0 : Int) : impl_FormatInt a0 =
    (strconv_Itoa a0).bind fun r1 =>
      some r1 :=
  (den_eq Γ X 48 rfl _).trans (by kernel_rfl)
theorem strings_Join_eq (a0 : (List ByteArray)) (a1 : ByteArray) : strings_Join a0 a1 = Lb.join a0 a1 := den_ext Γ X 49 rfl _
theorem impl_Join_eq (a0 : (List ByteArray)) (a1 : ByteArray) : impl_Join a0 a1 =
    (strings_Join a0 a1).bind fun r1 =>
      some r1 :=
  (den_eq Γ X 50 rfl _).trans (by kernel_rfl)
theorem impl_FormatDivisor_eq (a0 : (List Int)) : impl_FormatDivisor a0 =
    cond (((a0.length : Int) : Int) == 0)
      (some (⟨#[110, 111, 110, 101]⟩ : ByteArray))
      (impl_FormatDivisor_l0 ([] : List ByteArray) a0 (a0.length : Int) 0) :=
  (den_eq Γ X 51 rfl _).trans (by kernel_rfl)
theorem impl_FormatDivisor_l0_eq (x3 : (List ByteArray)) (x9 : (List Int)) (x10 : Int) (x11 : Int) : impl_FormatDivisor_l0 x3 x9 x10 x11 =
    cond (decide (x11 < x10))
      (cond (inside x11 x9.length)
        ((impl_FormatInt (x9.getD x11.toNat 0)).bind fun r1 =>
          cond (decide (x3.length + ([r1] : List ByteArray).length ≤ room))
            (impl_FormatDivisor_l0 (x3 ++ ([r1] : List ByteArray)) x9 x10 (w64 (x11 + 1)))
            (none))
        (none))
      ((impl_Join x3 (⟨#[32]⟩ : ByteArray)).bind fun r2 =>
        some r2) :=
  (at_eq Γ X 51 [1, 1, 1, 0, 1, 0] _).trans (by kernel_rfl)
theorem impl_IsEffective_eq (a0 : (List Int)) : impl_IsEffective a0 =
    impl_IsEffective_l0 a0 (a0.length : Int) 0 :=
  (den_eq Γ X 52 rfl _).trans (by kernel_rfl)
theorem impl_IsEffective_l0_eq (x5 : (List Int)) (x6 : Int) (x7 : Int) : impl_IsEffective_l0 x5 x6 x7 =
    cond (decide (x7 < x6))
      (cond (inside x7 x5.length)
        (cond (decide (x5.getD x7.toNat 0 < 0))
          (some false)
          (impl_IsEffective_l0 x5 x6 (w64 (x7 + 1))))
        (none))
      (some true) :=
  (at_eq Γ X 52 [1, 0, 1, 0] _).trans (by kernel_rfl)
theorem slices_SortFunc_int_int__Compare_int_int_eq (a0 : (List (List Int))) : slices_SortFunc_int_int__Compare_int_int a0 = Lb.sortRows a0 := den_ext Γ X 53 rfl _
theorem impl_effectiveIn_eq (a0 : (Int × (List (Int × Int)))) (a1 : (List Int)) : impl_effectiveIn a0 a1 =
    (impl_sumOf a1).bind fun r1 =>
      (impl_reduce a0 a1 0).bind fun r2 =>
        cond (decide (r1 < 0))
          (some ([] : List (List Int)))
          (cond (inside 0 r2.1.length)
            (cond (decide (r2.1.getD 0 0 < 0))
              (some ([] : List (List Int)))
              ((impl_FormatDivisor (([r2.1] : List (List Int)).getD 0 ([] : List Int))).bind fun r3 =>
                impl_effectiveIn_l0 a0 ([r2.1] : List (List Int)) 0 (mput ([] : List (ByteArray × Int)) r3 1)))
            (none)) :=
  (den_eq Γ X 54 rfl _).trans (by kernel_rfl)
theorem impl_effectiveIn_l0_eq (x2 : (Int × (List (Int × Int)))) (x8 : (List (List Int))) (x10 : Int) (x32 : (List (ByteArray × Int))) : impl_effectiveIn_l0 x2 x8 x10 x32 =
    cond (decide (x10 < (x8.length : Int)))
      (impl_effectiveIn_l2 x2 x8 x10 1 x32)
      ((slices_SortFunc_int_int__Compare_int_int x8).bind fun r9 =>
        some r9) :=
  (at_eq Γ X 54 [1, 1, 1, 1, 1, 1, 0, 1, 0] _).trans (by kernel_rfl)
theorem impl_effectiveIn_l2_eq (x2 : (Int × (List (Int × Int)))) (x8 : (List (List Int))) (x10 : Int) (x11 : Int) (x32 : (List (ByteArray × Int))) : impl_effectiveIn_l2 x2 x8 x10 x11 x32 =
    cond (decide (x2.1 < 0))
      (none)
      (cond (decide (x11 < w64 ((w64 (1 * 2 ^ (min x2.1.toNat 64))) - 1)))
        (cond (inside x10 x8.length)
          ((impl_copyInts (x8.getD x10.toNat ([] : List Int))).bind fun r4 =>
            impl_effectiveIn_l4 x2 x8 x10 x11 r4 x32 (r4.length : Int) 0)
          (none))
        (impl_effectiveIn_l0 x2 x8 (w64 (x10 + 1)) x32)) :=
  (at_eq Γ X 54 [1, 1, 1, 1, 1, 1, 0, 1, 0, 0, 1, 0, 0, 1, 0] _).trans (by kernel_rfl)
theorem impl_effectiveIn_l4_eq (x2 : (Int × (List (Int × Int)))) (x8 : (List (List Int))) (x10 : Int) (x11 : Int) (x12 : (List Int)) (x32 : (List (ByteArray × Int))) (x56 : Int) (x57 : Int) : impl_effectiveIn_l4 x2 x8 x10 x11 x12 x32 x56 x57 =
    cond (decide (x57 < x56))
      (cond (decide (x57 < 0))
        (none)
        ((impl_fire x2 x12 x57 (bits .and .i64 (Int.fdiv x11 (2 ^ (min x57.toNat 64))) 1)).bind fun r5 =>
          impl_effectiveIn_l4 x2 x8 x10 x11 r5 x32 x56 (w64 (x57 + 1))))
      ((impl_IsEffective x12).bind fun r6 =>
        cond (r6)
          ((impl_FormatDivisor x12).bind fun r7 =>
            cond (((mget x32 r7) : Int) == 0)
              ((impl_FormatDivisor x12).bind fun r8 =>
                cond (decide (x8.length + ([x12] : List (List Int)).length ≤ room))
                  (impl_effectiveIn_l2 x2 (x8 ++ ([x12] : List (List Int))) x10 (w64 (x11 + 1)) (mput x32 r8 1))
                  (none))
              (impl_effectiveIn_l2 x2 x8 x10 (w64 (x11 + 1)) x32))
          (impl_effectiveIn_l2 x2 x8 x10 (w64 (x11 + 1)) x32)) :=
  (at_eq Γ X 54 [1, 1, 1, 1, 1, 1, 0, 1, 0, 0, 1, 0, 0, 1, 0, 0, 1, 0, 0, 1, 0, 1, 0] _).trans (by kernel_rfl)
theorem impl_EffectiveIn_eq (a0 : (Int × (List (Int × Int)))) (a1 : (List Int)) : impl_EffectiveIn a0 a1 =
    (impl_DivisorOk a0 a1).bind fun r1 =>
      cond (!r1)
        (some (([] : List (List Int)), false))
        ((impl_DegreeOf a1).bind fun r2 =>
          cond (decide (r2 > 7))
            (some (([] : List (List Int)), false))
            ((impl_effectiveIn a0 a1).bind fun r3 =>
              some (r3, true))) :=
  (den_eq Γ X 55 rfl _).trans (by kernel_rfl)
theorem laws_eqIntS_eq (a0 : (List Int)) (a1 : (List Int)) : laws_eqIntS a0 a1 =
    cond (((a0.length : Int) : Int) != (a1.length : Int))
      (some false)
      (laws_eqIntS_l0 a0 a1 0) :=
  (den_eq Γ X 56 rfl _).trans (by kernel_rfl)
theorem laws_eqIntS_l0_eq (x0 : (List Int)) (x1 : (List Int)) (x5 : Int) : laws_eqIntS_l0 x0 x1 x5 =
    cond (decide (x5 < (x0.length : Int)))
      (cond (inside x5 x0.length)
        (cond (inside x5 x1.length)
          (cond (((x0.getD x5.toNat 0) : Int) != (x1.getD x5.toNat 0))
            (some false)
            (laws_eqIntS_l0 x0 x1 (w64 (x5 + 1))))
          (none))
        (none))
      (some true) :=
  (at_eq Γ X 56 [1, 1, 0, 1, 0] _).trans (by kernel_rfl)
theorem laws_eqIntSS_eq (a0 : (List (List Int))) (a1 : (List (List Int))) : laws_eqIntSS a0 a1 =
    cond (((a0.length : Int) : Int) != (a1.length : Int))
      (some false)
      (laws_eqIntSS_l0 a0 a1 0) :=
  (den_eq Γ X 57 rfl _).trans (by kernel_rfl)
theorem laws_eqIntSS_l0_eq (x0 : (List (List Int))) (x1 : (List (List Int))) (x5 : Int) : laws_eqIntSS_l0 x0 x1 x5 =
    cond (decide (x5 < (x0.length : Int)))
      (cond (inside x5 x0.length)
        (cond (inside x5 x1.length)
          ((laws_eqIntS (x0.getD x5.toNat ([] : List Int)) (x1.getD x5.toNat ([] : List Int))).bind fun r1 =>
            cond (!r1)
              (some false)
              (laws_eqIntSS_l0 x0 x1 (w64 (x5 + 1))))
          (none))
        (none))
      (some true) :=
  (at_eq Γ X 57 [1, 1, 0, 1, 0] _).trans (by kernel_rfl)
theorem laws_eqEdge_eq (a0 : (Int × Int)) (a1 : (Int × Int)) : laws_eqEdge a0 a1 =
    cond ((a0.1 : Int) != a1.1)
      (some false)
      (cond ((a0.2 : Int) != a1.2)
        (some false)
        (some true)) :=
  (den_eq Γ X 58 rfl _).trans (by kernel_rfl)
theorem laws_eqEdgeS_eq (a0 : (List (Int × Int))) (a1 : (List (Int × Int))) : laws_eqEdgeS a0 a1 =
    cond (((a0.length : Int) : Int) != (a1.length : Int))
      (some false)
      (laws_eqEdgeS_l0 a0 a1 0) :=
  (den_eq Γ X 59 rfl _).trans (by kernel_rfl)
theorem laws_eqEdgeS_l0_eq (x0 : (List (Int × Int))) (x1 : (List (Int × Int))) (x5 : Int) : laws_eqEdgeS_l0 x0 x1 x5 =
    cond (decide (x5 < (x0.length : Int)))
      (cond (inside x5 x0.length)
        (cond (inside x5 x1.length)
          ((laws_eqEdge (x0.getD x5.toNat (0, 0)) (x1.getD x5.toNat (0, 0))).bind fun r1 =>
            cond (!r1)
              (some false)
              (laws_eqEdgeS_l0 x0 x1 (w64 (x5 + 1))))
          (none))
        (none))
      (some true) :=
  (at_eq Γ X 59 [1, 1, 0, 1, 0] _).trans (by kernel_rfl)
theorem laws_eqGraph_eq (a0 : (Int × (List (Int × Int)))) (a1 : (Int × (List (Int × Int)))) : laws_eqGraph a0 a1 =
    cond ((a0.1 : Int) != a1.1)
      (some false)
      ((laws_eqEdgeS a0.2 a1.2).bind fun r1 =>
        cond (!r1)
          (some false)
          (some true)) :=
  (den_eq Γ X 60 rfl _).trans (by kernel_rfl)
theorem laws_markEdgeS_eq (a0 : (List (Int × Int))) (a1 : Int) : laws_markEdgeS a0 a1 =
    laws_markEdgeS_l0 a0 a1 0 :=
  (den_eq Γ X 61 rfl _).trans (by kernel_rfl)
theorem laws_markEdgeS_l0_eq (x0 : (List (Int × Int))) (x1 : Int) (x5 : Int) : laws_markEdgeS_l0 x0 x1 x5 =
    cond (decide (x5 < (x0.length : Int)))
      (cond (inside x5 x0.length)
        (cond (inside x5 (x0.set x5.toNat (x1, (x0.getD x5.toNat (0, 0)).2)).length)
          (laws_markEdgeS_l0 ((x0.set x5.toNat (x1, (x0.getD x5.toNat (0, 0)).2)).set x5.toNat (((x0.set x5.toNat (x1, (x0.getD x5.toNat (0, 0)).2)).getD x5.toNat (0, 0)).1, w64 (x1 + 1))) (w64 ((w64 (x1 + 1)) + 1)) (w64 (x5 + 1)))
          (none))
        (none))
      (some (x1, x0)) :=
  (at_eq Γ X 61 [1, 0, 1, 0] _).trans (by kernel_rfl)
theorem laws_markGraph_eq (a0 : (Int × (List (Int × Int)))) (a1 : Int) : laws_markGraph a0 a1 =
    (laws_markEdgeS a0.2 a1).bind fun r1 =>
      some (r1.1, a0.1, r1.2) :=
  (den_eq Γ X 62 rfl _).trans (by kernel_rfl)
theorem laws_markIntS_eq (a0 : (List Int)) (a1 : Int) : laws_markIntS a0 a1 =
    laws_markIntS_l0 a0 a1 0 :=
  (den_eq Γ X 63 rfl _).trans (by kernel_rfl)
theorem laws_markIntS_l0_eq (x0 : (List Int)) (x1 : Int) (x5 : Int) : laws_markIntS_l0 x0 x1 x5 =
    cond (decide (x5 < (x0.length : Int)))
      (cond (inside x5 x0.length)
        (laws_markIntS_l0 (x0.set x5.toNat x1) (w64 (x1 + 1)) (w64 (x5 + 1)))
        (none))
      (some (x1, x0)) :=
  (at_eq Γ X 63 [1, 0, 1, 0] _).trans (by kernel_rfl)
theorem laws_markIntSS_eq (a0 : (List (List Int))) (a1 : Int) : laws_markIntSS a0 a1 =
    laws_markIntSS_l0 a0 a1 0 :=
  (den_eq Γ X 64 rfl _).trans (by kernel_rfl)
theorem laws_markIntSS_l0_eq (x0 : (List (List Int))) (x1 : Int) (x5 : Int) : laws_markIntSS_l0 x0 x1 x5 =
    cond (decide (x5 < (x0.length : Int)))
      (cond (inside x5 x0.length)
        ((laws_markIntS (x0.getD x5.toNat ([] : List Int)) x1).bind fun r1 =>
          laws_markIntSS_l0 (x0.set x5.toNat r1.2) r1.1 (w64 (x5 + 1)))
        (none))
      (some (x1, x0)) :=
  (at_eq Γ X 64 [1, 0, 1, 0] _).trans (by kernel_rfl)
theorem laws_heldIntS_eq (a0 : (List Int)) (a1 : Int) : laws_heldIntS a0 a1 =
    laws_heldIntS_l0 a0 a1 0 :=
  (den_eq Γ X 65 rfl _).trans (by kernel_rfl)
theorem laws_heldIntS_l0_eq (x0 : (List Int)) (x1 : Int) (x5 : Int) : laws_heldIntS_l0 x0 x1 x5 =
    cond (decide (x5 < (x0.length : Int)))
      (cond (inside x5 x0.length)
        (cond (((x0.getD x5.toNat 0) : Int) != x1)
          (some (-1))
          (laws_heldIntS_l0 x0 (w64 (x1 + 1)) (w64 (x5 + 1))))
        (none))
      (some x1) :=
  (at_eq Γ X 65 [1, 0, 1, 0] _).trans (by kernel_rfl)
theorem laws_heldIntSS_eq (a0 : (List (List Int))) (a1 : Int) : laws_heldIntSS a0 a1 =
    laws_heldIntSS_l0 a0 a1 0 :=
  (den_eq Γ X 66 rfl _).trans (by kernel_rfl)
theorem laws_heldIntSS_l0_eq (x0 : (List (List Int))) (x1 : Int) (x5 : Int) : laws_heldIntSS_l0 x0 x1 x5 =
    cond (decide (x5 < (x0.length : Int)))
      (cond (inside x5 x0.length)
        ((laws_heldIntS (x0.getD x5.toNat ([] : List Int)) x1).bind fun r1 =>
          cond (decide (r1 < 0))
            (some (-1))
            (laws_heldIntSS_l0 x0 r1 (w64 (x5 + 1))))
        (none))
      (some x1) :=
  (at_eq Γ X 66 [1, 0, 1, 0] _).trans (by kernel_rfl)
theorem laws_FnExactEffectiveIn_eq (a0 : (Int × (List (Int × Int)))) (a1 : (List Int)) : laws_FnExactEffectiveIn a0 a1 =
    cond (decide ((a1.length : Int) > 1048576))
      (some true)
      ((laws_szGraph a0 1048576).bind fun r1 =>
        cond (decide (r1 < 0))
          (some true)
          ((laws_toGraph a0).bind fun r2 =>
            (laws_toIntS a1).bind fun r3 =>
              (spec_EffectiveIn r2 r3).bind fun r4 =>
                (laws_toGraph a0).bind fun r5 =>
                  (laws_toIntS a1).bind fun r6 =>
                    (impl_EffectiveIn r5 r6).bind fun r7 =>
                      (laws_eqIntSS r7.1 r4.1).bind fun r8 =>
                        cond (!r8)
                          (some false)
                          (cond (!((r7.2 : Bool) == r4.2))
                            (some false)
                            (laws_FnExactEffectiveIn_c13 a1 a0 r4.1 r4.2 r5 r6 r7.1 r7.2)))) :=
  (den_eq Γ X 67 rfl _).trans (by kernel_rfl)
theorem laws_FnExactEffectiveIn_c13_eq (x1 : (List Int)) (x2 : (Int × (List (Int × Int)))) (x6 : (List (List Int))) (x7 : Bool) (x8 : (Int × (List (Int × Int)))) (x9 : (List Int)) (x10 : (List (List Int))) (x11 : Bool) : laws_FnExactEffectiveIn_c13 x1 x2 x6 x7 x8 x9 x10 x11 =
    (laws_toGraph x2).bind fun r9 =>
      (laws_eqGraph x8 r9).bind fun r10 =>
        cond (!r10)
          (some false)
          ((laws_toIntS x1).bind fun r11 =>
            (laws_eqIntS x9 r11).bind fun r12 =>
              cond (!r12)
                (some false)
                ((laws_markGraph x8 1).bind fun r13 =>
                  (laws_markIntS x9 r13.1).bind fun r14 =>
                    cond (decide (r14.1 < 0))
                      (some false)
                      ((laws_eqIntSS x10 x6).bind fun r15 =>
                        cond (!r15)
                          (some false)
                          (cond (!((x11 : Bool) == x7))
                            (some false)
                            ((laws_markIntSS x10 1).bind fun r16 =>
                              (laws_heldIntSS r16.2 1).bind fun r17 =>
                                laws_FnExactEffectiveIn_c26 x1 x2 x6 x7 r16.2 r16.1 r17))))) :=
  (at_eq Γ X 67 [1, 1, 1, 1, 1, 1, 1, 1, 1, 1, 0, 0] _).trans (by kernel_rfl)
theorem laws_FnExactEffectiveIn_c26_eq (x1 : (List Int)) (x2 : (Int × (List (Int × Int)))) (x6 : (List (List Int))) (x7 : Bool) (x10 : (List (List Int))) (x13 : Int) (x14 : Int) : laws_FnExactEffectiveIn_c26 x1 x2 x6 x7 x10 x13 x14 =
    cond (decide (x14 < 0))
      (some false)
      (cond ((x14 : Int) != x13)
        (some false)
        ((laws_toGraph x2).bind fun r18 =>
          (laws_toIntS x1).bind fun r19 =>
            (impl_EffectiveIn r18 r19).bind fun r20 =>
              (laws_eqIntSS r20.1 x6).bind fun r21 =>
                cond (!r21)
                  (some false)
                  (cond (!((r20.2 : Bool) == x7))
                    (some false)
                    ((laws_heldIntSS x10 1).bind fun r22 =>
                      cond (decide (r22 < 0))
                        (some false)
                        (cond ((r22 : Int) != x13)
                          (some false)
                          (some true)))))) :=
  (at_eq Γ X 67 [1, 1, 1, 1, 1, 1, 1, 1, 1, 1, 1, 1, 1, 1, 1, 1, 1, 1, 1, 1, 0, 0] _).trans (by kernel_rfl)
end Go.Proofs.YtplmeoocbocipaaGreatDoor.D

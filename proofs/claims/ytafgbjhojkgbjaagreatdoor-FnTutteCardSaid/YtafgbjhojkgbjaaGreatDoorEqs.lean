/-
  Each function and each loop by its equation: what the evaluator tells of it, for all arguments.
-/
import Derived.Test.YtafgbjhojkgbjaaGreatDoorCtx
import Derived.KernelRfl
namespace Go.Proofs.YtafgbjhojkgbjaaGreatDoor.D
open Go Go.Den
set_option linter.unusedVariables false
set_option maxRecDepth 100000
theorem spec_l01New_eq (a0 : (List Int)) : spec_l01New a0 =
    spec_l01New_l0 a0 (w64 (2069 + (a0.length : Int))) 0 :=
  (den_eq Γ X 0 rfl _).trans (by kernel_rfl)
theorem spec_l01New_l0_eq (x0 : (List Int)) (x3 : Int) (x4 : Int) : spec_l01New_l0 x0 x3 x4 =
    cond (decide (x4 < (x0.length : Int)))
      (cond (decide (x4 < 4000))
        (cond (inside x4 x0.length)
          (spec_l01New_l0 x0 (bits .and .i64 (w64 ((w64 ((w64 (x3 * 97)) + (w64 (x0.getD x4.toNat 0)))) + 7)) 1073741823) (w64 (x4 + 1)))
          (none))
        (some (x0, 0, x3)))
      (some (x0, 0, x3)) :=
  (at_eq Γ X 0 [1, 1, 0, 1, 0] _).trans (by kernel_rfl)
theorem spec_l01Byte_eq (a0 : ((List Int) × (Int × Int))) : spec_l01Byte a0 =
    cond (decide (a0.2.1 < (a0.1.length : Int)))
      (cond (inside a0.2.1 a0.1.length)
        (spec_l01Byte_c5 (a0.1, a0.2.1, w64 ((w64 (a0.2.2 * 6364136223846793005)) + 1442695040888963407)) (bits .and .i64 (w64 ((bits .and .i64 (bits .xor .i64 (Int.fdiv (w64 ((w64 (a0.2.2 * 6364136223846793005)) + 1442695040888963407)) (2 ^ 33)) (Int.fdiv (w64 ((w64 (a0.2.2 * 6364136223846793005)) + 1442695040888963407)) (2 ^ 45))) 255) + (w64 (a0.1.getD a0.2.1.toNat 0)))) 255))
        (none))
      (some (bits .and .i64 (bits .xor .i64 (Int.fdiv (w64 ((w64 (a0.2.2 * 6364136223846793005)) + 1442695040888963407)) (2 ^ 33)) (Int.fdiv (w64 ((w64 (a0.2.2 * 6364136223846793005)) + 1442695040888963407)) (2 ^ 45))) 255, a0.1, a0.2.1, w64 ((w64 (a0.2.2 * 6364136223846793005)) + 1442695040888963407))) :=
  (den_eq Γ X 1 rfl _).trans (by kernel_rfl)
theorem spec_l01Byte_c5_eq (x0 : ((List Int) × (Int × Int))) (x3 : Int) : spec_l01Byte_c5 x0 x3 =
    some (x3, x0.1, w64 (x0.2.1 + 1), x0.2.2) :=
  (at_eq Γ X 1 [1, 1, 1, 0, 1, 0, 1] _).trans (by kernel_rfl)
theorem spec_l01Below_eq (a0 : ((List Int) × (Int × Int))) (a1 : Int) : spec_l01Below a0 a1 =
    cond (decide (a1 ≤ 0))
      (some (0, a0))
      (cond (decide (a1 ≤ 256))
        ((spec_l01Byte a0).bind fun r1 =>
          cond (decide (a1 = 0))
            (none)
            (some (Int.tmod r1.1 a1, r1.2)))
        ((spec_l01Byte a0).bind fun r2 =>
          (spec_l01Byte r2.2).bind fun r3 =>
            (spec_l01Byte r3.2).bind fun r4 =>
              (spec_l01Byte r4.2).bind fun r5 =>
                cond (decide (a1 = 0))
                  (none)
                  (some (Int.tmod (w64 ((w64 ((w64 ((w64 (r2.1 * 16777216)) + (w64 (r3.1 * 65536)))) + (w64 (r4.1 * 256)))) + r5.1)) a1, r5.2)))) :=
  (den_eq Γ X 2 rfl _).trans (by kernel_rfl)
theorem spec_l02Vert_eq (a0 : (Int × (List (Int × Int)))) (a1 : Int) : spec_l02Vert a0 a1 =
    cond (decide (a1 ≥ 0))
      (some (decide (a1 < a0.1)))
      (some false) :=
  (den_eq Γ X 3 rfl _).trans (by kernel_rfl)
theorem spec_Multiplicity_eq (a0 : (Int × (List (Int × Int)))) (a1 : Int) (a2 : Int) : spec_Multiplicity a0 a1 a2 =
    (spec_l02Vert a0 a1).bind fun r1 =>
      cond (!r1)
        (some 0)
        ((spec_l02Vert a0 a2).bind fun r2 =>
          cond (!r2)
            (some 0)
            (cond ((a1 : Int) == a2)
              (some 0)
              (spec_Multiplicity_l0 a1 a2 0 a0.2 (a0.2.length : Int) 0))) :=
  (den_eq Γ X 4 rfl _).trans (by kernel_rfl)
theorem spec_Multiplicity_l0_eq (x1 : Int) (x2 : Int) (x7 : Int) (x26 : (List (Int × Int))) (x27 : Int) (x28 : Int) : spec_Multiplicity_l0 x1 x2 x7 x26 x27 x28 =
    cond (decide (x28 < x27))
      (cond (inside x28 x26.length)
        (cond ((((x26.getD x28.toNat (0, 0)).1) : Int) == (imin x1 x2))
          (cond ((((x26.getD x28.toNat (0, 0)).2) : Int) == (imax x1 x2))
            (spec_Multiplicity_l0 x1 x2 (w64 (x7 + 1)) x26 x27 (w64 (x28 + 1)))
            (spec_Multiplicity_l0 x1 x2 x7 x26 x27 (w64 (x28 + 1))))
          (spec_Multiplicity_l0 x1 x2 x7 x26 x27 (w64 (x28 + 1))))
        (none))
      (some x7) :=
  (at_eq Γ X 4 [1, 1, 1, 0, 1, 0] _).trans (by kernel_rfl)
theorem spec_l01In_eq (a0 : Int) (a1 : Int) (a2 : Int) : spec_l01In a0 a1 a2 =
    cond (decide (a0 ≥ a1))
      (some (decide (a0 ≤ a2)))
      (some false) :=
  (den_eq Γ X 5 rfl _).trans (by kernel_rfl)
theorem spec_EdgesOk_eq (a0 : (Int × (List (Int × Int)))) : spec_EdgesOk a0 =
    (spec_l01In a0.1 1 6).bind fun r1 =>
      cond (!r1)
        (some false)
        (cond (decide ((a0.2.length : Int) > 12))
          (some false)
          (spec_EdgesOk_l0 a0 a0.2 (a0.2.length : Int) 0)) :=
  (den_eq Γ X 6 rfl _).trans (by kernel_rfl)
theorem spec_EdgesOk_l0_eq (x1 : (Int × (List (Int × Int)))) (x16 : (List (Int × Int))) (x17 : Int) (x18 : Int) : spec_EdgesOk_l0 x1 x16 x17 x18 =
    cond (decide (x18 < x17))
      (cond (inside x18 x16.length)
        ((spec_l01In ((x16.getD x18.toNat (0, 0)).1) 0 (w64 (x1.1 - 1))).bind fun r2 =>
          cond (!r2)
            (some false)
            ((spec_l01In ((x16.getD x18.toNat (0, 0)).2) (w64 (((x16.getD x18.toNat (0, 0)).1) + 1)) (w64 (x1.1 - 1))).bind fun r3 =>
              cond (!r3)
                (some false)
                (spec_EdgesOk_l0 x1 x16 x17 (w64 (x18 + 1)))))
        (none))
      (some true) :=
  (at_eq Γ X 6 [1, 1, 0, 1, 0] _).trans (by kernel_rfl)
theorem spec_l02Has_eq (a0 : (List Int)) (a1 : Int) : spec_l02Has a0 a1 =
    spec_l02Has_l0 a1 a0 (a0.length : Int) 0 :=
  (den_eq Γ X 7 rfl _).trans (by kernel_rfl)
theorem spec_l02Has_l0_eq (x1 : Int) (x7 : (List Int)) (x8 : Int) (x9 : Int) : spec_l02Has_l0 x1 x7 x8 x9 =
    cond (decide (x9 < x8))
      (cond (inside x9 x7.length)
        (cond (((x7.getD x9.toNat 0) : Int) == x1)
          (some true)
          (spec_l02Has_l0 x1 x7 x8 (w64 (x9 + 1))))
        (none))
      (some false) :=
  (at_eq Γ X 7 [1, 0, 1, 0] _).trans (by kernel_rfl)
theorem spec_l02Reach_eq (a0 : (Int × (List (Int × Int)))) : spec_l02Reach a0 =
    spec_l02Reach_l0 a0 ([0] : List Int) 0 :=
  (den_eq Γ X 8 rfl _).trans (by kernel_rfl)
theorem spec_l02Reach_l0_eq (x1 : (Int × (List (Int × Int)))) (x3 : (List Int)) (x4 : Int) : spec_l02Reach_l0 x1 x3 x4 =
    cond (decide (x4 < (x3.length : Int)))
      (spec_l02Reach_l2 x1 x3 x4 x1.2 (x1.2.length : Int) 0)
      (some x3) :=
  (at_eq Γ X 8 [1, 1, 0, 1, 0] _).trans (by kernel_rfl)
theorem spec_l02Reach_l2_eq (x1 : (Int × (List (Int × Int)))) (x3 : (List Int)) (x4 : Int) (x15 : (List (Int × Int))) (x16 : Int) (x17 : Int) : spec_l02Reach_l2 x1 x3 x4 x15 x16 x17 =
    cond (decide (x17 < x16))
      (cond (inside x17 x15.length)
        (cond (inside x4 x3.length)
          (cond ((((x15.getD x17.toNat (0, 0)).1) : Int) == (x3.getD x4.toNat 0))
            ((spec_l02Has x3 ((x15.getD x17.toNat (0, 0)).2)).bind fun r1 =>
              cond (!r1)
                (cond (decide (x3.length + ([(x15.getD x17.toNat (0, 0)).2] : List Int).length ≤ room))
                  (cond (inside x4 (x3 ++ ([(x15.getD x17.toNat (0, 0)).2] : List Int)).length)
                    (cond ((((x15.getD x17.toNat (0, 0)).2) : Int) == ((x3 ++ ([(x15.getD x17.toNat (0, 0)).2] : List Int)).getD x4.toNat 0))
                      ((spec_l02Has (x3 ++ ([(x15.getD x17.toNat (0, 0)).2] : List Int)) ((x15.getD x17.toNat (0, 0)).1)).bind fun r2 =>
                        cond (!r2)
                          (spec_l02Reach_c11 x1 (x3 ++ ([(x15.getD x17.toNat (0, 0)).2] : List Int)) x4 (x15.getD x17.toNat (0, 0)) x15 x16 x17)
                          (spec_l02Reach_c12 x1 (x3 ++ ([(x15.getD x17.toNat (0, 0)).2] : List Int)) x4 x15 x16 x17))
                      (spec_l02Reach_c12 x1 (x3 ++ ([(x15.getD x17.toNat (0, 0)).2] : List Int)) x4 x15 x16 x17))
                    (none))
                  (none))
                (cond (inside x4 x3.length)
                  (cond ((((x15.getD x17.toNat (0, 0)).2) : Int) == (x3.getD x4.toNat 0))
                    ((spec_l02Has x3 ((x15.getD x17.toNat (0, 0)).1)).bind fun r3 =>
                      cond (!r3)
                        (spec_l02Reach_c11 x1 x3 x4 (x15.getD x17.toNat (0, 0)) x15 x16 x17)
                        (spec_l02Reach_c12 x1 x3 x4 x15 x16 x17))
                    (spec_l02Reach_c12 x1 x3 x4 x15 x16 x17))
                  (none)))
            (cond (inside x4 x3.length)
              (cond ((((x15.getD x17.toNat (0, 0)).2) : Int) == (x3.getD x4.toNat 0))
                ((spec_l02Has x3 ((x15.getD x17.toNat (0, 0)).1)).bind fun r4 =>
                  cond (!r4)
                    (spec_l02Reach_c11 x1 x3 x4 (x15.getD x17.toNat (0, 0)) x15 x16 x17)
                    (spec_l02Reach_c12 x1 x3 x4 x15 x16 x17))
                (spec_l02Reach_c12 x1 x3 x4 x15 x16 x17))
              (none)))
          (none))
        (none))
      (spec_l02Reach_l0 x1 x3 (w64 (x4 + 1))) :=
  (at_eq Γ X 8 [1, 1, 0, 1, 0, 0, 1, 0, 0, 1, 0] _).trans (by kernel_rfl)
theorem spec_l02Reach_c11_eq (x1 : (Int × (List (Int × Int)))) (x3 : (List Int)) (x4 : Int) (x6 : (Int × Int)) (x15 : (List (Int × Int))) (x16 : Int) (x17 : Int) : spec_l02Reach_c11 x1 x3 x4 x6 x15 x16 x17 =
    cond (decide (x3.length + ([x6.1] : List Int).length ≤ room))
      (spec_l02Reach_c12 x1 (x3 ++ ([x6.1] : List Int)) x4 x15 x16 x17)
      (none) :=
  (at_eq Γ X 8 [1, 1, 0, 1, 0, 0, 1, 0, 0, 1, 0, 0, 1, 1, 0, 0, 1, 1, 1, 0] _).trans (by kernel_rfl)
theorem spec_l02Reach_c12_eq (x1 : (Int × (List (Int × Int)))) (x3 : (List Int)) (x4 : Int) (x15 : (List (Int × Int))) (x16 : Int) (x17 : Int) : spec_l02Reach_c12 x1 x3 x4 x15 x16 x17 =
    spec_l02Reach_l2 x1 x3 x4 x15 x16 (w64 (x17 + 1)) :=
  (at_eq Γ X 8 [1, 1, 0, 1, 0, 0, 1, 0, 0, 1, 0, 0, 1, 1, 1] _).trans (by kernel_rfl)
theorem spec_GraphOk_eq (a0 : (Int × (List (Int × Int)))) : spec_GraphOk a0 =
    (spec_EdgesOk a0).bind fun r1 =>
      cond (!r1)
        (some false)
        (spec_GraphOk_l0 a0 a0.2 (a0.2.length : Int) 0) :=
  (den_eq Γ X 9 rfl _).trans (by kernel_rfl)
theorem spec_GraphOk_l0_eq (x1 : (Int × (List (Int × Int)))) (x9 : (List (Int × Int))) (x10 : Int) (x11 : Int) : spec_GraphOk_l0 x1 x9 x10 x11 =
    cond (decide (x11 < x10))
      (cond (inside x11 x9.length)
        (cond (decide (x11 > 0))
          (cond (inside (w64 (x11 - 1)) x1.2.length)
            (cond (decide ((x9.getD x11.toNat (0, 0)).1 < (x1.2.getD ((w64 (x11 - 1)).toNat) (0, 0)).1))
              (some false)
              (cond (inside (w64 (x11 - 1)) x1.2.length)
                (cond ((((x9.getD x11.toNat (0, 0)).1) : Int) == ((x1.2.getD ((w64 (x11 - 1)).toNat) (0, 0)).1))
                  (cond (inside (w64 (x11 - 1)) x1.2.length)
                    (cond (decide ((x9.getD x11.toNat (0, 0)).2 < (x1.2.getD ((w64 (x11 - 1)).toNat) (0, 0)).2))
                      (some false)
                      (spec_GraphOk_c8 x1 x9 x10 x11))
                    (none))
                  (spec_GraphOk_c8 x1 x9 x10 x11))
                (none)))
            (none))
          (spec_GraphOk_c8 x1 x9 x10 x11))
        (none))
      ((spec_l02Reach x1).bind fun r2 =>
        some (((r2.length : Int) : Int) == x1.1)) :=
  (at_eq Γ X 9 [1, 1, 0, 1, 0] _).trans (by kernel_rfl)
theorem spec_GraphOk_c8_eq (x1 : (Int × (List (Int × Int)))) (x9 : (List (Int × Int))) (x10 : Int) (x11 : Int) : spec_GraphOk_c8 x1 x9 x10 x11 =
    spec_GraphOk_l0 x1 x9 x10 (w64 (x11 + 1)) :=
  (at_eq Γ X 9 [1, 1, 0, 1, 0, 0, 1, 1, 1] _).trans (by kernel_rfl)
theorem spec_AddEdge_eq (a0 : (Int × (List (Int × Int)))) (a1 : Int) (a2 : Int) : spec_AddEdge a0 a1 a2 =
    (spec_GraphOk a0).bind fun r1 =>
      cond (!r1)
        (some ((0, ([] : List (Int × Int))), false))
        ((spec_l01In a1 0 (w64 (a0.1 - 1))).bind fun r2 =>
          cond (!r2)
            (some ((0, ([] : List (Int × Int))), false))
            ((spec_l01In a2 0 (w64 (a0.1 - 1))).bind fun r3 =>
              cond (!r3)
                (some ((0, ([] : List (Int × Int))), false))
                (cond ((a1 : Int) == a2)
                  (some ((0, ([] : List (Int × Int))), false))
                  (cond (((a0.2.length : Int) : Int) == 12)
                    (some ((0, ([] : List (Int × Int))), false))
                    (spec_AddEdge_c4 a0 (0, ([] : List (Int × Int))) (imin a1 a2, imax a1 a2)))))) :=
  (den_eq Γ X 10 rfl _).trans (by kernel_rfl)
theorem spec_AddEdge_l0_eq (x6 : (Int × (List (Int × Int)))) (x8 : (Int × Int)) (x9 : (Int × (List (Int × Int)))) (x10 : Bool) (x55 : (List (Int × Int))) (x56 : Int) (x57 : Int) : spec_AddEdge_l0 x6 x8 x9 x10 x55 x56 x57 =
    cond (decide (x57 < x56))
      (cond (inside x57 x55.length)
        (cond (!x10)
          (cond (decide ((x55.getD x57.toNat (0, 0)).1 > x8.1))
            (cond (decide (x9.2.length + ([x8] : List (Int × Int)).length ≤ room))
              (cond (decide ((x9.2 ++ ([x8] : List (Int × Int))).length + ([x55.getD x57.toNat (0, 0)] : List (Int × Int)).length ≤ room))
                (spec_AddEdge_c13 x6 x8 (x9.1, (x9.2 ++ ([x8] : List (Int × Int))) ++ ([x55.getD x57.toNat (0, 0)] : List (Int × Int))) true x55 x56 x57)
                (none))
              (none))
            (cond ((((x55.getD x57.toNat (0, 0)).1) : Int) == x8.1)
              (cond (decide ((x55.getD x57.toNat (0, 0)).2 > x8.2))
                (cond (decide (x9.2.length + ([x8] : List (Int × Int)).length ≤ room))
                  (cond (decide ((x9.2 ++ ([x8] : List (Int × Int))).length + ([x55.getD x57.toNat (0, 0)] : List (Int × Int)).length ≤ room))
                    (spec_AddEdge_c13 x6 x8 (x9.1, (x9.2 ++ ([x8] : List (Int × Int))) ++ ([x55.getD x57.toNat (0, 0)] : List (Int × Int))) true x55 x56 x57)
                    (none))
                  (none))
                (cond (decide (x9.2.length + ([x55.getD x57.toNat (0, 0)] : List (Int × Int)).length ≤ room))
                  (spec_AddEdge_c13 x6 x8 (x9.1, x9.2 ++ ([x55.getD x57.toNat (0, 0)] : List (Int × Int))) x10 x55 x56 x57)
                  (none)))
              (cond (decide (x9.2.length + ([x55.getD x57.toNat (0, 0)] : List (Int × Int)).length ≤ room))
                (spec_AddEdge_c13 x6 x8 (x9.1, x9.2 ++ ([x55.getD x57.toNat (0, 0)] : List (Int × Int))) x10 x55 x56 x57)
                (none))))
          (cond (decide (x9.2.length + ([x55.getD x57.toNat (0, 0)] : List (Int × Int)).length ≤ room))
            (spec_AddEdge_c13 x6 x8 (x9.1, x9.2 ++ ([x55.getD x57.toNat (0, 0)] : List (Int × Int))) x10 x55 x56 x57)
            (none)))
        (none))
      (cond (!x10)
        (cond (decide (x9.2.length + ([x8] : List (Int × Int)).length ≤ room))
          (some ((x9.1, x9.2 ++ ([x8] : List (Int × Int))), true))
          (none))
        (some (x9, true))) :=
  (at_eq Γ X 10 [1, 1, 1, 1, 1, 0, 1, 0] _).trans (by kernel_rfl)
theorem spec_AddEdge_c4_eq (x3 : (Int × (List (Int × Int)))) (x6 : (Int × (List (Int × Int)))) (x8 : (Int × Int)) : spec_AddEdge_c4 x3 x6 x8 =
    spec_AddEdge_l0 x6 x8 (x3.1, ([] : List (Int × Int))) false x3.2 (x3.2.length : Int) 0 :=
  (at_eq Γ X 10 [1, 1, 1, 0] _).trans (by kernel_rfl)
theorem spec_AddEdge_c13_eq (x6 : (Int × (List (Int × Int)))) (x8 : (Int × Int)) (x9 : (Int × (List (Int × Int)))) (x10 : Bool) (x55 : (List (Int × Int))) (x56 : Int) (x57 : Int) : spec_AddEdge_c13 x6 x8 x9 x10 x55 x56 x57 =
    spec_AddEdge_l0 x6 x8 x9 x10 x55 x56 (w64 (x57 + 1)) :=
  (at_eq Γ X 10 [1, 1, 1, 1, 1, 0, 1, 0, 0, 1, 1, 1] _).trans (by kernel_rfl)
theorem spec_l02Draw_eq (a0 : ((List Int) × (Int × Int))) (a1 : Int) : spec_l02Draw a0 a1 =
    (spec_l01Below a0 (w64 (a1 - 1))).bind fun r1 =>
      spec_l02Draw_l0 r1.2 (0, ([] : List (Int × Int))) (1, ([] : List (Int × Int))) (w64 (2 + r1.1)) 1 :=
  (den_eq Γ X 11 rfl _).trans (by kernel_rfl)
theorem spec_l02Draw_l0_eq (x0 : ((List Int) × (Int × Int))) (x4 : (Int × (List (Int × Int)))) (x5 : (Int × (List (Int × Int)))) (x6 : Int) (x7 : Int) : spec_l02Draw_l0 x0 x4 x5 x6 x7 =
    cond (decide (x7 < x6))
      ((spec_l01Below x0 x7).bind fun r2 =>
        cond (decide (x5.2.length + ([(r2.1, x7)] : List (Int × Int)).length ≤ room))
          (spec_l02Draw_l0 r2.2 x4 (w64 (x7 + 1), x5.2 ++ ([(r2.1, x7)] : List (Int × Int))) x6 (w64 (x7 + 1)))
          (none))
      (spec_l02Draw_l2 x0 x4 x5 x6 (x6, ([] : List (Int × Int))) 0) :=
  (at_eq Γ X 11 [1, 1, 1, 0, 1, 0] _).trans (by kernel_rfl)
theorem spec_l02Draw_l2_eq (x0 : ((List Int) × (Int × Int))) (x4 : (Int × (List (Int × Int)))) (x5 : (Int × (List (Int × Int)))) (x6 : Int) (x9 : (Int × (List (Int × Int)))) (x10 : Int) : spec_l02Draw_l2 x0 x4 x5 x6 x9 x10 =
    cond (decide (x10 < x6))
      (spec_l02Draw_l4 x0 x4 x5 x6 x9 x10 (w64 (x10 + 1)))
      ((spec_l01Below x0 5).bind fun r4 =>
        spec_l02Draw_l8 r4.2 x4 x6 x9 r4.1) :=
  (at_eq Γ X 11 [1, 1, 1, 1, 1, 0, 1, 0] _).trans (by kernel_rfl)
theorem spec_l02Draw_l4_eq (x0 : ((List Int) × (Int × Int))) (x4 : (Int × (List (Int × Int)))) (x5 : (Int × (List (Int × Int)))) (x6 : Int) (x9 : (Int × (List (Int × Int)))) (x10 : Int) (x11 : Int) : spec_l02Draw_l4 x0 x4 x5 x6 x9 x10 x11 =
    cond (decide (x11 < x6))
      ((spec_Multiplicity x5 x10 x11).bind fun r3 =>
        spec_l02Draw_l6 x0 x4 x5 x6 x9 x10 x11 r3)
      (spec_l02Draw_l2 x0 x4 x5 x6 x9 (w64 (x10 + 1))) :=
  (at_eq Γ X 11 [1, 1, 1, 1, 1, 0, 1, 0, 0, 1, 0, 0, 1, 0] _).trans (by kernel_rfl)
theorem spec_l02Draw_l6_eq (x0 : ((List Int) × (Int × Int))) (x4 : (Int × (List (Int × Int)))) (x5 : (Int × (List (Int × Int)))) (x6 : Int) (x9 : (Int × (List (Int × Int)))) (x10 : Int) (x11 : Int) (x12 : Int) : spec_l02Draw_l6 x0 x4 x5 x6 x9 x10 x11 x12 =
    cond (decide (x12 > 0))
      (cond (decide (x9.2.length + ([(x10, x11)] : List (Int × Int)).length ≤ room))
        (spec_l02Draw_l6 x0 x4 x5 x6 (x9.1, x9.2 ++ ([(x10, x11)] : List (Int × Int))) x10 x11 (w64 (x12 - 1)))
        (none))
      (spec_l02Draw_l4 x0 x4 x5 x6 x9 x10 (w64 (x11 + 1))) :=
  (at_eq Γ X 11 [1, 1, 1, 1, 1, 0, 1, 0, 0, 1, 0, 0, 1, 0, 0, 1, 0, 0, 1, 0] _).trans (by kernel_rfl)
theorem spec_l02Draw_l8_eq (x0 : ((List Int) × (Int × Int))) (x4 : (Int × (List (Int × Int)))) (x6 : Int) (x9 : (Int × (List (Int × Int)))) (x13 : Int) : spec_l02Draw_l8 x0 x4 x6 x9 x13 =
    cond (decide (x13 > 0))
      ((spec_l01Below x0 x6).bind fun r5 =>
        (spec_l01Below r5.2 (w64 (x6 - 1))).bind fun r6 =>
          cond (decide (x6 = 0))
            (none)
            ((spec_AddEdge x9 r5.1 (Int.tmod (w64 ((w64 (r5.1 + 1)) + r6.1)) x6)).bind fun r7 =>
              cond (r7.2)
                (spec_l02Draw_l8 r6.2 x4 x6 r7.1 (w64 (x13 - 1)))
                (spec_l02Draw_l8 r6.2 x4 x6 x9 (w64 (x13 - 1)))))
      (some (x9, x0)) :=
  (at_eq Γ X 11 [1, 1, 1, 1, 1, 1, 0, 1, 0] _).trans (by kernel_rfl)
theorem spec_MakeSmall_eq (a0 : (List Int)) : spec_MakeSmall a0 =
    (spec_l01New a0).bind fun r1 =>
      (spec_l02Draw r1 4).bind fun r2 =>
        some r2.1 :=
  (den_eq Γ X 12 rfl _).trans (by kernel_rfl)
theorem spec_l21New_eq (a0 : (List Int)) (a1 : Int) : spec_l21New a0 a1 =
    (spec_l01New a0).bind fun r1 =>
      spec_l21New_l0 a1 0 r1 :=
  (den_eq Γ X 13 rfl _).trans (by kernel_rfl)
theorem spec_l21New_l0_eq (x1 : Int) (x6 : Int) (x8 : ((List Int) × (Int × Int))) : spec_l21New_l0 x1 x6 x8 =
    cond (decide (x6 < x1))
      ((spec_l01Byte x8).bind fun r2 =>
        spec_l21New_l0 x1 (w64 (x6 + 1)) r2.2)
      (some x8) :=
  (at_eq Γ X 13 [1, 1, 0, 1, 0] _).trans (by kernel_rfl)
theorem spec_MakeNum_eq (a0 : (List Int)) (a1 : Int) : spec_MakeNum a0 a1 =
    (spec_l21New a0 a1).bind fun r1 =>
      (spec_l01Byte r1).bind fun r2 =>
        (spec_l01Byte r2.2).bind fun r3 =>
          some (w64 ((w64 (r2.1 * 256)) + r3.1)) :=
  (den_eq Γ X 14 rfl _).trans (by kernel_rfl)
theorem impl_within_eq (a0 : Int) (a1 : Int) (a2 : Int) : impl_within a0 a1 a2 =
    cond (decide (a0 ≥ a1))
      (some (decide (a0 ≤ a2)))
      (some false) :=
  (den_eq Γ X 15 rfl _).trans (by kernel_rfl)
theorem impl_EdgesOk_eq (a0 : (Int × (List (Int × Int)))) : impl_EdgesOk a0 =
    (impl_within a0.1 1 6).bind fun r1 =>
      cond (!r1)
        (some false)
        (cond (decide ((a0.2.length : Int) > 12))
          (some false)
          (impl_EdgesOk_l0 a0 a0.2 (a0.2.length : Int) 0)) :=
  (den_eq Γ X 16 rfl _).trans (by kernel_rfl)
theorem impl_EdgesOk_l0_eq (x1 : (Int × (List (Int × Int)))) (x16 : (List (Int × Int))) (x17 : Int) (x18 : Int) : impl_EdgesOk_l0 x1 x16 x17 x18 =
    cond (decide (x18 < x17))
      (cond (inside x18 x16.length)
        (cond (decide ((x16.getD x18.toNat (0, 0)).1 < 0))
          (some false)
          (cond (decide ((x16.getD x18.toNat (0, 0)).1 ≥ (x16.getD x18.toNat (0, 0)).2))
            (some false)
            (cond (decide ((x16.getD x18.toNat (0, 0)).2 ≥ x1.1))
              (some false)
              (impl_EdgesOk_l0 x1 x16 x17 (w64 (x18 + 1))))))
        (none))
      (some true) :=
  (at_eq Γ X 16 [1, 1, 0, 1, 0] _).trans (by kernel_rfl)
theorem cmp_isNaN_int_eq (a0 : Int) : cmp_isNaN_int a0 =
    some ((a0 : Int) != a0) :=
  (den_eq Γ X 17 rfl _).trans (by kernel_rfl)
theorem cmp_Compare_int_eq (a0 : Int) (a1 : Int) : cmp_Compare_int a0 a1 =
    (cmp_isNaN_int a0).bind fun r1 =>
      (cmp_isNaN_int a1).bind fun r2 =>
        cond (r1)
          (cond (r2)
            (some 0)
            (some (-1)))
          (cond (r2)
            (some 1)
            (cond (decide (a0 < a1))
              (some (-1))
              (cond (decide (a0 > a1))
                (some 1)
                (some 0)))) :=
  (den_eq Γ X 18 rfl _).trans (by kernel_rfl)
theorem impl_compareEdges_eq (a0 : (Int × Int)) (a1 : (Int × Int)) : impl_compareEdges a0 a1 =
    (cmp_Compare_int a0.1 a1.1).bind fun r1 =>
      cond ((r1 : Int) != 0)
        (some r1)
        ((cmp_Compare_int a0.2 a1.2).bind fun r2 =>
          some r2) :=
  (den_eq Γ X 19 rfl _).trans (by kernel_rfl)
theorem impl_Edge__compareEdges_eq (a0 : (List (Int × Int))) : impl_Edge__compareEdges a0 =
    impl_Edge__compareEdges_l0 a0 (w64 ((a0.length : Int) - 1)) :=
  (den_eq Γ X 20 rfl _).trans (by kernel_rfl)
theorem impl_Edge__compareEdges_l0_eq (x0 : (List (Int × Int))) (x5 : Int) : impl_Edge__compareEdges_l0 x0 x5 =
    cond (decide (x5 > 0))
      (cond (inside x5 x0.length)
        (cond (inside (w64 (x5 - 1)) x0.length)
          ((impl_compareEdges (x0.getD x5.toNat (0, 0)) (x0.getD ((w64 (x5 - 1)).toNat) (0, 0))).bind fun r1 =>
            cond (decide (r1 < 0))
              (some false)
              (impl_Edge__compareEdges_l0 x0 (w64 (x5 - 1))))
          (none))
        (none))
      (some true) :=
  (at_eq Γ X 20 [1, 0, 1, 0] _).trans (by kernel_rfl)
theorem impl_connected_eq (a0 : Int) (a1 : (List (Int × Int))) : impl_connected a0 a1 =
    impl_connected_l0 a0 a1 1 a0 0 :=
  (den_eq Γ X 21 rfl _).trans (by kernel_rfl)
theorem impl_connected_l0_eq (x0 : Int) (x1 : (List (Int × Int))) (x5 : Int) (x8 : Int) (x9 : Int) : impl_connected_l0 x0 x1 x5 x8 x9 =
    cond (decide (x9 < x8))
      (impl_connected_l2 x0 x1 x5 x8 x9 x1 (x1.length : Int) 0)
      (cond (decide (x0 < 0))
        (none)
        (some ((x5 : Int) == (w64 ((w64 (1 * 2 ^ (min x0.toNat 64))) - 1))))) :=
  (at_eq Γ X 21 [1, 1, 0, 1, 0] _).trans (by kernel_rfl)
theorem impl_connected_l2_eq (x0 : Int) (x1 : (List (Int × Int))) (x5 : Int) (x8 : Int) (x9 : Int) (x11 : (List (Int × Int))) (x12 : Int) (x13 : Int) : impl_connected_l2 x0 x1 x5 x8 x9 x11 x12 x13 =
    cond (decide (x13 < x12))
      (cond (inside x13 x11.length)
        (cond (decide ((x11.getD x13.toNat (0, 0)).1 < 0))
          (none)
          (cond (((bits .and .i64 (Int.fdiv x5 (2 ^ (min ((x11.getD x13.toNat (0, 0)).1).toNat 64))) 1) : Int) == 1)
            (cond (decide ((x11.getD x13.toNat (0, 0)).1 < 0))
              (none)
              (cond (decide ((x11.getD x13.toNat (0, 0)).2 < 0))
                (none)
                (impl_connected_l2 x0 x1 (bits .or .i64 x5 (bits .or .i64 (w64 (1 * 2 ^ (min ((x11.getD x13.toNat (0, 0)).1).toNat 64))) (w64 (1 * 2 ^ (min ((x11.getD x13.toNat (0, 0)).2).toNat 64))))) x8 x9 x11 x12 (w64 (x13 + 1)))))
            (cond (decide ((x11.getD x13.toNat (0, 0)).2 < 0))
              (none)
              (cond (((bits .and .i64 (Int.fdiv x5 (2 ^ (min ((x11.getD x13.toNat (0, 0)).2).toNat 64))) 1) : Int) == 1)
                (cond (decide ((x11.getD x13.toNat (0, 0)).1 < 0))
                  (none)
                  (cond (decide ((x11.getD x13.toNat (0, 0)).2 < 0))
                    (none)
                    (impl_connected_l2 x0 x1 (bits .or .i64 x5 (bits .or .i64 (w64 (1 * 2 ^ (min ((x11.getD x13.toNat (0, 0)).1).toNat 64))) (w64 (1 * 2 ^ (min ((x11.getD x13.toNat (0, 0)).2).toNat 64))))) x8 x9 x11 x12 (w64 (x13 + 1)))))
                (impl_connected_l2 x0 x1 x5 x8 x9 x11 x12 (w64 (x13 + 1)))))))
        (none))
      (impl_connected_l0 x0 x1 x5 x8 (w64 (x9 + 1))) :=
  (at_eq Γ X 21 [1, 1, 0, 1, 0, 0, 1, 1, 0, 0, 1, 0] _).trans (by kernel_rfl)
theorem impl_GraphOk_eq (a0 : (Int × (List (Int × Int)))) : impl_GraphOk a0 =
    (impl_EdgesOk a0).bind fun r1 =>
      cond (r1)
        ((impl_Edge__compareEdges a0.2).bind fun r2 =>
          cond (r2)
            ((impl_connected a0.1 a0.2).bind fun r3 =>
              some r3)
            (some false))
        (some false) :=
  (den_eq Γ X 22 rfl _).trans (by kernel_rfl)
theorem impl_addTerms_eq (a0 : (Ty.den A46)) (a1 : (Ty.den A46)) (a2 : Int) (a3 : Int) : impl_addTerms a0 a1 a2 a3 = Lb.addTm A46 a0 a1 a2 a3 := den_ext Γ X 23 rfl _
theorem impl_joins_eq (a0 : (List (Int × Int))) (a1 : Int) (a2 : Int) : impl_joins a0 a1 a2 =
    cond (decide (a1 < 0))
      (none)
      (impl_joins_l0 a0 a2 (w64 (1 * 2 ^ (min a1.toNat 64))) (a0.length : Int) 0) :=
  (den_eq Γ X 24 rfl _).trans (by kernel_rfl)
theorem impl_joins_l0_eq (x0 : (List (Int × Int))) (x2 : Int) (x7 : Int) (x13 : Int) (x14 : Int) : impl_joins_l0 x0 x2 x7 x13 x14 =
    cond (decide (x14 < x13))
      (impl_joins_l2 x0 x2 x7 x13 x14 x0 (x0.length : Int) 0)
      (cond (decide (x2 < 0))
        (none)
        (some (((bits .and .i64 (Int.fdiv x7 (2 ^ (min x2.toNat 64))) 1) : Int) == 1))) :=
  (at_eq Γ X 24 [1, 1, 0, 1, 0] _).trans (by kernel_rfl)
theorem impl_joins_l2_eq (x0 : (List (Int × Int))) (x2 : Int) (x7 : Int) (x13 : Int) (x14 : Int) (x16 : (List (Int × Int))) (x17 : Int) (x18 : Int) : impl_joins_l2 x0 x2 x7 x13 x14 x16 x17 x18 =
    cond (decide (x18 < x17))
      (cond (inside x18 x16.length)
        (cond (decide ((x16.getD x18.toNat (0, 0)).1 < 0))
          (none)
          (cond (((bits .and .i64 (Int.fdiv x7 (2 ^ (min ((x16.getD x18.toNat (0, 0)).1).toNat 64))) 1) : Int) == 1)
            (cond (decide ((x16.getD x18.toNat (0, 0)).1 < 0))
              (none)
              (cond (decide ((x16.getD x18.toNat (0, 0)).2 < 0))
                (none)
                (impl_joins_l2 x0 x2 (bits .or .i64 x7 (bits .or .i64 (w64 (1 * 2 ^ (min ((x16.getD x18.toNat (0, 0)).1).toNat 64))) (w64 (1 * 2 ^ (min ((x16.getD x18.toNat (0, 0)).2).toNat 64))))) x13 x14 x16 x17 (w64 (x18 + 1)))))
            (cond (decide ((x16.getD x18.toNat (0, 0)).2 < 0))
              (none)
              (cond (((bits .and .i64 (Int.fdiv x7 (2 ^ (min ((x16.getD x18.toNat (0, 0)).2).toNat 64))) 1) : Int) == 1)
                (cond (decide ((x16.getD x18.toNat (0, 0)).1 < 0))
                  (none)
                  (cond (decide ((x16.getD x18.toNat (0, 0)).2 < 0))
                    (none)
                    (impl_joins_l2 x0 x2 (bits .or .i64 x7 (bits .or .i64 (w64 (1 * 2 ^ (min ((x16.getD x18.toNat (0, 0)).1).toNat 64))) (w64 (1 * 2 ^ (min ((x16.getD x18.toNat (0, 0)).2).toNat 64))))) x13 x14 x16 x17 (w64 (x18 + 1)))))
                (impl_joins_l2 x0 x2 x7 x13 x14 x16 x17 (w64 (x18 + 1)))))))
        (none))
      (impl_joins_l0 x0 x2 x7 x13 (w64 (x14 + 1))) :=
  (at_eq Γ X 24 [1, 1, 0, 1, 0, 0, 1, 1, 0, 0, 1, 0] _).trans (by kernel_rfl)
theorem impl_tutte_eq (a0 : (List (Int × Int))) : impl_tutte a0 =
    cond (((a0.length : Int) : Int) == 0)
      (some ((1, ((Ty.dflt A46).1).2), (Ty.dflt A46).2))
      (cond (inside 0 a0.length)
        (cond (decide (0 ≤ 1) && decide (1 ≤ (a0.length : Int)) && decide ((a0.length : Int) ≤ (a0.length : Int)))
          (cond ((((a0.getD 0 (0, 0)).1) : Int) == ((a0.getD 0 (0, 0)).2))
            ((impl_tutte ((a0.take ((a0.length : Int).toNat)).drop 1)).bind fun r1 =>
              (impl_addTerms (Ty.dflt A46) r1 0 1).bind fun r2 =>
                some r2)
            (impl_tutte_l0 (Ty.dflt A46) (Ty.dflt A46) (a0.getD 0 (0, 0)) ((a0.take ((a0.length : Int).toNat)).drop 1) ([] : List (Int × Int)) ((a0.take ((a0.length : Int).toNat)).drop 1) (((a0.take ((a0.length : Int).toNat)).drop 1).length : Int) 0))
          (none))
        (none)) :=
  (den_eq Γ X 25 rfl _).trans (by kernel_rfl)
theorem impl_tutte_l0_eq (x2 : (Ty.den A46)) (x3 : (Ty.den A46)) (x4 : (Int × Int)) (x5 : (List (Int × Int))) (x6 : (List (Int × Int))) (x29 : (List (Int × Int))) (x30 : Int) (x31 : Int) : impl_tutte_l0 x2 x3 x4 x5 x6 x29 x30 x31 =
    cond (decide (x31 < x30))
      (cond (inside x31 x29.length)
        (cond ((((x29.getD x31.toNat (0, 0)).1) : Int) == x4.2)
          (cond ((((x29.getD x31.toNat (0, 0)).2) : Int) == x4.2)
            (cond (decide (x6.length + ([(x4.1, x4.1)] : List (Int × Int)).length ≤ room))
              (impl_tutte_l0 x2 x3 x4 x5 (x6 ++ ([(x4.1, x4.1)] : List (Int × Int))) x29 x30 (w64 (x31 + 1)))
              (none))
            (cond (decide (x6.length + ([(x4.1, (x29.getD x31.toNat (0, 0)).2)] : List (Int × Int)).length ≤ room))
              (impl_tutte_l0 x2 x3 x4 x5 (x6 ++ ([(x4.1, (x29.getD x31.toNat (0, 0)).2)] : List (Int × Int))) x29 x30 (w64 (x31 + 1)))
              (none)))
          (cond ((((x29.getD x31.toNat (0, 0)).2) : Int) == x4.2)
            (cond (decide (x6.length + ([((x29.getD x31.toNat (0, 0)).1, x4.1)] : List (Int × Int)).length ≤ room))
              (impl_tutte_l0 x2 x3 x4 x5 (x6 ++ ([((x29.getD x31.toNat (0, 0)).1, x4.1)] : List (Int × Int))) x29 x30 (w64 (x31 + 1)))
              (none))
            (cond (decide (x6.length + ([x29.getD x31.toNat (0, 0)] : List (Int × Int)).length ≤ room))
              (impl_tutte_l0 x2 x3 x4 x5 (x6 ++ ([x29.getD x31.toNat (0, 0)] : List (Int × Int))) x29 x30 (w64 (x31 + 1)))
              (none))))
        (none))
      ((impl_joins x5 x4.1 x4.2).bind fun r3 =>
        cond (!r3)
          ((impl_tutte x6).bind fun r4 =>
            (impl_addTerms x3 r4 1 0).bind fun r5 =>
              some r5)
          ((impl_tutte x5).bind fun r6 =>
            (impl_addTerms x3 r6 0 0).bind fun r7 =>
              (impl_tutte x6).bind fun r8 =>
                (impl_addTerms r7 r8 0 0).bind fun r9 =>
                  some r9)) :=
  (at_eq Γ X 25 [1, 1, 1, 1, 1, 1, 0, 1, 0] _).trans (by kernel_rfl)
theorem impl_trimmed_eq (a0 : (List Int)) : impl_trimmed a0 =
    impl_trimmed_l0 a0 :=
  (den_eq Γ X 26 rfl _).trans (by kernel_rfl)
theorem impl_trimmed_l0_eq (x0 : (List Int)) : impl_trimmed_l0 x0 =
    cond (decide ((x0.length : Int) > 0))
      (cond (inside (w64 ((x0.length : Int) - 1)) x0.length)
        (cond (((x0.getD ((w64 ((x0.length : Int) - 1)).toNat) 0) : Int) == 0)
          (cond (decide (0 ≤ 0) && decide (0 ≤ w64 ((x0.length : Int) - 1)) && decide (w64 ((x0.length : Int) - 1) ≤ (x0.length : Int)))
            (impl_trimmed_l0 ((x0.take ((w64 ((x0.length : Int) - 1)).toNat)).drop 0))
            (none))
          (some x0))
        (none))
      (some x0) :=
  (at_eq Γ X 26 [1, 0, 0] _).trans (by kernel_rfl)
theorem impl_copyInts_eq (a0 : (List Int)) : impl_copyInts a0 =
    cond (decide (([] : List Int).length + a0.length ≤ room))
      (some (([] : List Int) ++ a0))
      (none) :=
  (den_eq Γ X 27 rfl _).trans (by kernel_rfl)
theorem impl_TutteOf_eq (a0 : (Int × (List (Int × Int)))) : impl_TutteOf a0 = Lb.tutOf A46 impl_GraphOk impl_tutte impl_trimmed impl_copyInts a0 := den_ext Γ X 28 rfl _
theorem impl_isVertex_eq (a0 : (Int × (List (Int × Int)))) (a1 : Int) : impl_isVertex a0 a1 =
    (impl_GraphOk a0).bind fun r1 =>
      cond (r1)
        ((impl_within a1 0 (w64 (a0.1 - 1))).bind fun r2 =>
          some r2)
        (some false) :=
  (den_eq Γ X 29 rfl _).trans (by kernel_rfl)
theorem impl_Multiplicity_eq (a0 : (Int × (List (Int × Int)))) (a1 : Int) (a2 : Int) : impl_Multiplicity a0 a1 a2 =
    cond (decide (imin a1 a2 < 0))
      (some 0)
      (cond (decide (imax a1 a2 ≥ a0.1))
        (some 0)
        (cond ((a1 : Int) == a2)
          (some 0)
          (impl_Multiplicity_l0 a1 a2 0 a0.2 (a0.2.length : Int) 0))) :=
  (den_eq Γ X 30 rfl _).trans (by kernel_rfl)
theorem impl_Multiplicity_l0_eq (x1 : Int) (x2 : Int) (x7 : Int) (x28 : (List (Int × Int))) (x29 : Int) (x30 : Int) : impl_Multiplicity_l0 x1 x2 x7 x28 x29 x30 =
    cond (decide (x30 < x29))
      (cond (inside x30 x28.length)
        (cond ((((x28.getD x30.toNat (0, 0)).1) : Int) == (imin x1 x2))
          (cond ((((x28.getD x30.toNat (0, 0)).2) : Int) == (imax x1 x2))
            (impl_Multiplicity_l0 x1 x2 (w64 (x7 + 1)) x28 x29 (w64 (x30 + 1)))
            (impl_Multiplicity_l0 x1 x2 x7 x28 x29 (w64 (x30 + 1))))
          (impl_Multiplicity_l0 x1 x2 x7 x28 x29 (w64 (x30 + 1))))
        (none))
      (some x7) :=
  (at_eq Γ X 30 [1, 1, 1, 0, 1, 0] _).trans (by kernel_rfl)
theorem impl_Valence_eq (a0 : (Int × (List (Int × Int)))) (a1 : Int) : impl_Valence a0 a1 =
    cond (decide (a1 < 0))
      (some 0)
      (cond (decide (a1 ≥ a0.1))
        (some 0)
        (impl_Valence_l0 a1 0 a0.2 (a0.2.length : Int) 0)) :=
  (den_eq Γ X 31 rfl _).trans (by kernel_rfl)
theorem impl_Valence_l0_eq (x1 : Int) (x5 : Int) (x17 : (List (Int × Int))) (x18 : Int) (x19 : Int) : impl_Valence_l0 x1 x5 x17 x18 x19 =
    cond (decide (x19 < x18))
      (cond (inside x19 x17.length)
        (cond ((((x17.getD x19.toNat (0, 0)).1) : Int) == x1)
          (impl_Valence_l0 x1 (w64 (x5 + 1)) x17 x18 (w64 (x19 + 1)))
          (cond ((((x17.getD x19.toNat (0, 0)).2) : Int) == x1)
            (impl_Valence_l0 x1 (w64 (x5 + 1)) x17 x18 (w64 (x19 + 1)))
            (impl_Valence_l0 x1 x5 x17 x18 (w64 (x19 + 1)))))
        (none))
      (some x5) :=
  (at_eq Γ X 31 [1, 1, 1, 0, 1, 0] _).trans (by kernel_rfl)
theorem impl_LaplacianOf_eq (a0 : (Int × (List (Int × Int)))) : impl_LaplacianOf a0 =
    (impl_GraphOk a0).bind fun r1 =>
      cond (!r1)
        (some ([] : List (List Int)))
        (impl_LaplacianOf_l0 a0 ([] : List (List Int)) 0) :=
  (den_eq Γ X 32 rfl _).trans (by kernel_rfl)
theorem impl_LaplacianOf_l0_eq (x1 : (Int × (List (Int × Int)))) (x3 : (List (List Int))) (x4 : Int) : impl_LaplacianOf_l0 x1 x3 x4 =
    cond (decide (x4 < x1.1))
      (cond (decide (0 ≤ x1.1) && decide (x1.1 ≤ (room : Int)))
        (impl_LaplacianOf_l2 x1 x3 x4 (List.replicate x1.1.toNat (0 : Int)) ((List.replicate x1.1.toNat (0 : Int)).length : Int) 0)
        (none))
      (some x3) :=
  (at_eq Γ X 32 [1, 1, 1, 0, 1, 0] _).trans (by kernel_rfl)
theorem impl_LaplacianOf_l2_eq (x1 : (Int × (List (Int × Int)))) (x3 : (List (List Int))) (x4 : Int) (x5 : (List Int)) (x20 : Int) (x21 : Int) : impl_LaplacianOf_l2 x1 x3 x4 x5 x20 x21 =
    cond (decide (x21 < x20))
      ((impl_Multiplicity x1 x4 x21).bind fun r2 =>
        cond (inside x21 x5.length)
          (impl_LaplacianOf_l2 x1 x3 x4 (x5.set x21.toNat (w64 (0 - r2))) x20 (w64 (x21 + 1)))
          (none))
      ((impl_Valence x1 x4).bind fun r3 =>
        cond (inside x4 x5.length)
          (cond (decide (x3.length + ([x5.set x4.toNat r3] : List (List Int)).length ≤ room))
            (impl_LaplacianOf_l0 x1 (x3 ++ ([x5.set x4.toNat r3] : List (List Int))) (w64 (x4 + 1)))
            (none))
          (none)) :=
  (at_eq Γ X 32 [1, 1, 1, 0, 1, 0, 0, 1, 0, 0, 1, 0, 1, 0] _).trans (by kernel_rfl)
theorem impl_ReducedLaplacian_eq (a0 : (Int × (List (Int × Int)))) (a1 : Int) : impl_ReducedLaplacian a0 a1 = Lb.redLap impl_isVertex impl_LaplacianOf a0 a1 := den_ext Γ X 33 rfl _
theorem impl_allWithin_eq (a0 : (List Int)) (a1 : Int) (a2 : Int) : impl_allWithin a0 a1 a2 =
    impl_allWithin_l0 a1 a2 a0 (a0.length : Int) 0 :=
  (den_eq Γ X 34 rfl _).trans (by kernel_rfl)
theorem impl_allWithin_l0_eq (x1 : Int) (x2 : Int) (x9 : (List Int)) (x10 : Int) (x11 : Int) : impl_allWithin_l0 x1 x2 x9 x10 x11 =
    cond (decide (x11 < x10))
      (cond (inside x11 x9.length)
        ((impl_within (x9.getD x11.toNat 0) x1 x2).bind fun r1 =>
          cond (!r1)
            (some false)
            (impl_allWithin_l0 x1 x2 x9 x10 (w64 (x11 + 1))))
        (none))
      (some true) :=
  (at_eq Γ X 34 [1, 0, 1, 0] _).trans (by kernel_rfl)
theorem impl_MatrixOk_eq (a0 : (List (List Int))) : impl_MatrixOk a0 =
    cond (decide ((a0.length : Int) > 6))
      (some false)
      (impl_MatrixOk_l0 a0 a0 (a0.length : Int) 0) :=
  (den_eq Γ X 35 rfl _).trans (by kernel_rfl)
theorem impl_MatrixOk_l0_eq (x0 : (List (List Int))) (x8 : (List (List Int))) (x9 : Int) (x10 : Int) : impl_MatrixOk_l0 x0 x8 x9 x10 =
    cond (decide (x10 < x9))
      (cond (inside x10 x8.length)
        (cond ((((x8.getD x10.toNat ([] : List Int)).length : Int) : Int) != (x0.length : Int))
          (some false)
          ((impl_allWithin (x8.getD x10.toNat ([] : List Int)) (-500) 500).bind fun r1 =>
            cond (!r1)
              (some false)
              (impl_MatrixOk_l0 x0 x8 x9 (w64 (x10 + 1)))))
        (none))
      (some true) :=
  (at_eq Γ X 35 [1, 1, 0, 1, 0] _).trans (by kernel_rfl)
theorem impl_bitsOf_eq (a0 : Int) : impl_bitsOf a0 =
    impl_bitsOf_l0 a0 ([] : List Int) 0 :=
  (den_eq Γ X 36 rfl _).trans (by kernel_rfl)
theorem impl_bitsOf_l0_eq (x0 : Int) (x3 : (List Int)) (x4 : Int) : impl_bitsOf_l0 x0 x3 x4 =
    cond (decide (x4 < 0))
      (none)
      (cond (decide (Int.fdiv x0 (2 ^ (min x4.toNat 64)) > 0))
        (cond (decide (x4 < 0))
          (none)
          (cond (((bits .and .i64 (Int.fdiv x0 (2 ^ (min x4.toNat 64))) 1) : Int) == 1)
            (cond (decide (x3.length + ([x4] : List Int).length ≤ room))
              (impl_bitsOf_l0 x0 (x3 ++ ([x4] : List Int)) (w64 (x4 + 1)))
              (none))
            (impl_bitsOf_l0 x0 x3 (w64 (x4 + 1)))))
        (some x3)) :=
  (at_eq Γ X 36 [1, 1, 0, 1, 0] _).trans (by kernel_rfl)
theorem impl_determinant_eq (a0 : (List (List Int))) (a1 : (List Int)) (a2 : Int) : impl_determinant a0 a1 a2 =
    cond (((a1.length : Int) : Int) == 0)
      (some 1)
      (cond (inside 0 a1.length)
        (cond (inside (a1.getD 0 0) a0.length)
          (impl_determinant_l0 a0 a1 a2 0 1 (a0.getD ((a1.getD 0 0).toNat) ([] : List Int)) ((a0.getD ((a1.getD 0 0).toNat) ([] : List Int)).length : Int) 0)
          (none))
        (none)) :=
  (den_eq Γ X 37 rfl _).trans (by kernel_rfl)
theorem impl_determinant_l0_eq (x0 : (List (List Int))) (x1 : (List Int)) (x2 : Int) (x7 : Int) (x8 : Int) (x19 : (List Int)) (x20 : Int) (x21 : Int) : impl_determinant_l0 x0 x1 x2 x7 x8 x19 x20 x21 =
    cond (decide (x21 < x20))
      (cond (inside x21 x19.length)
        (cond (decide (x21 < 0))
          (none)
          (cond (((bits .and .i64 (Int.fdiv x2 (2 ^ (min x21.toNat 64))) 1) : Int) == 0)
            (impl_determinant_l0 x0 x1 x2 x7 x8 x19 x20 (w64 (x21 + 1)))
            (cond (((x19.getD x21.toNat 0) : Int) != 0)
              (cond (decide (0 ≤ 1) && decide (1 ≤ (x1.length : Int)) && decide ((x1.length : Int) ≤ (x1.length : Int)))
                (cond (decide (x21 < 0))
                  (none)
                  ((impl_determinant x0 ((x1.take ((x1.length : Int).toNat)).drop 1) (bits .andNot .i64 x2 (w64 (1 * 2 ^ (min x21.toNat 64))))).bind fun r1 =>
                    impl_determinant_l0 x0 x1 x2 (w64 (x7 + (w64 ((w64 (x8 * (x19.getD x21.toNat 0))) * r1)))) (w64 (0 - x8)) x19 x20 (w64 (x21 + 1))))
                (none))
              (impl_determinant_l0 x0 x1 x2 x7 (w64 (0 - x8)) x19 x20 (w64 (x21 + 1))))))
        (none))
      (some x7) :=
  (at_eq Γ X 37 [1, 1, 1, 0, 1, 0] _).trans (by kernel_rfl)
theorem impl_Determinant_eq (a0 : (List (List Int))) : impl_Determinant a0 =
    (impl_MatrixOk a0).bind fun r1 =>
      cond (!r1)
        (some 0)
        (cond (decide ((a0.length : Int) < 0))
          (none)
          ((impl_bitsOf (w64 ((w64 (1 * 2 ^ (min (a0.length : Int).toNat 64))) - 1))).bind fun r2 =>
            cond (decide ((a0.length : Int) < 0))
              (none)
              ((impl_determinant a0 r2 (w64 ((w64 (1 * 2 ^ (min (a0.length : Int).toNat 64))) - 1))).bind fun r3 =>
                some r3))) :=
  (den_eq Γ X 38 rfl _).trans (by kernel_rfl)
theorem impl_CountTrees_eq (a0 : (Int × (List (Int × Int)))) : impl_CountTrees a0 =
    (impl_GraphOk a0).bind fun r1 =>
      cond (!r1)
        (some 0)
        ((impl_ReducedLaplacian a0 0).bind fun r2 =>
          (impl_Determinant r2).bind fun r3 =>
            some r3) :=
  (den_eq Γ X 39 rfl _).trans (by kernel_rfl)
theorem impl_GroupOrder_eq (a0 : (Int × (List (Int × Int)))) : impl_GroupOrder a0 =
    (impl_CountTrees a0).bind fun r1 =>
      some r1 :=
  (den_eq Γ X 40 rfl _).trans (by kernel_rfl)
theorem impl_FullPile_eq (a0 : (Int × (List (Int × Int)))) (a1 : Int) : impl_FullPile a0 a1 =
    (impl_isVertex a0 a1).bind fun r1 =>
      cond (!r1)
        (some ([] : List Int))
        (cond (decide (0 ≤ a0.1) && decide (a0.1 ≤ (room : Int)))
          (impl_FullPile_l0 a1 a0 (List.replicate a0.1.toNat (0 : Int)) ((List.replicate a0.1.toNat (0 : Int)).length : Int) 0)
          (none)) :=
  (den_eq Γ X 41 rfl _).trans (by kernel_rfl)
theorem impl_FullPile_l0_eq (x1 : Int) (x2 : (Int × (List (Int × Int)))) (x5 : (List Int)) (x15 : Int) (x16 : Int) : impl_FullPile_l0 x1 x2 x5 x15 x16 =
    cond (decide (x16 < x15))
      (cond ((x16 : Int) != x1)
        ((impl_Valence x2 x16).bind fun r2 =>
          cond (inside x16 x5.length)
            (impl_FullPile_l0 x1 x2 (x5.set x16.toNat (w64 (r2 - 1))) x15 (w64 (x16 + 1)))
            (none))
        (impl_FullPile_l0 x1 x2 x5 x15 (w64 (x16 + 1))))
      (some x5) :=
  (at_eq Γ X 41 [1, 1, 1, 0, 1, 0] _).trans (by kernel_rfl)
theorem slices_Index_int_int_eq (a0 : (List Int)) (a1 : Int) : slices_Index_int_int a0 a1 =
    slices_Index_int_int_l0 a0 a1 (a0.length : Int) 0 :=
  (den_eq Γ X 42 rfl _).trans (by kernel_rfl)
theorem slices_Index_int_int_l0_eq (x0 : (List Int)) (x1 : Int) (x7 : Int) (x8 : Int) : slices_Index_int_int_l0 x0 x1 x7 x8 =
    cond (decide (x8 < x7))
      (cond (inside x8 x0.length)
        (cond ((x1 : Int) == (x0.getD x8.toNat 0))
          (some x8)
          (slices_Index_int_int_l0 x0 x1 x7 (w64 (x8 + 1))))
        (none))
      (some (-1)) :=
  (at_eq Γ X 42 [1, 0, 1, 0] _).trans (by kernel_rfl)
theorem slices_Contains_int_int_eq (a0 : (List Int)) (a1 : Int) : slices_Contains_int_int a0 a1 =
    (slices_Index_int_int a0 a1).bind fun r1 =>
      some (decide (r1 ≥ 0)) :=
  (den_eq Γ X 43 rfl _).trans (by kernel_rfl)
theorem impl_burn_eq (a0 : (Int × (List (Int × Int)))) (a1 : (List Int)) (a2 : Int) : impl_burn a0 a1 a2 =
    impl_burn_l0 a1 a0 ([a2] : List Int) :=
  (den_eq Γ X 44 rfl _).trans (by kernel_rfl)
theorem impl_burn_l0_eq (x1 : (List Int)) (x3 : (Int × (List (Int × Int)))) (x7 : (List Int)) : impl_burn_l0 x1 x3 x7 =
    impl_burn_l2 x1 x3 x7 (-1) 0 :=
  (at_eq Γ X 44 [1, 1, 0] _).trans (by kernel_rfl)
theorem impl_burn_l2_eq (x1 : (List Int)) (x3 : (Int × (List (Int × Int)))) (x7 : (List Int)) (x8 : Int) (x9 : Int) : impl_burn_l2 x1 x3 x7 x8 x9 =
    cond (decide (x9 < x3.1))
      (cond (decide (x8 < 0))
        (impl_burn_l4 x1 x3 x7 x8 x9 0 (x7.length : Int) 0)
        (cond (decide (x8 < 0))
          (some x7)
          (cond (decide (x7.length + ([x8] : List Int).length ≤ room))
            (impl_burn_l0 x1 x3 (x7 ++ ([x8] : List Int)))
            (none))))
      (cond (decide (x8 < 0))
        (some x7)
        (cond (decide (x7.length + ([x8] : List Int).length ≤ room))
          (impl_burn_l0 x1 x3 (x7 ++ ([x8] : List Int)))
          (none))) :=
  (at_eq Γ X 44 [1, 1, 0, 0, 0, 1, 0, 1, 0] _).trans (by kernel_rfl)
theorem impl_burn_l4_eq (x1 : (List Int)) (x3 : (Int × (List (Int × Int)))) (x7 : (List Int)) (x8 : Int) (x9 : Int) (x10 : Int) (x26 : Int) (x27 : Int) : impl_burn_l4 x1 x3 x7 x8 x9 x10 x26 x27 =
    cond (decide (x27 < x26))
      (cond (inside x27 x7.length)
        ((impl_Multiplicity x3 x9 (x7.getD x27.toNat 0)).bind fun r1 =>
          impl_burn_l4 x1 x3 x7 x8 x9 (w64 (x10 + r1)) x26 (w64 (x27 + 1)))
        (none))
      ((slices_Contains_int_int x7 x9).bind fun r2 =>
        cond (!r2)
          (cond (inside x9 x1.length)
            (cond (decide (x1.getD x9.toNat 0 < x10))
              (impl_burn_l2 x1 x3 x7 x9 (w64 (x9 + 1)))
              (impl_burn_l2 x1 x3 x7 x8 (w64 (x9 + 1))))
            (none))
          (impl_burn_l2 x1 x3 x7 x8 (w64 (x9 + 1)))) :=
  (at_eq Γ X 44 [1, 1, 0, 0, 0, 1, 0, 1, 0, 0, 1, 0, 0, 1, 0, 1, 0] _).trans (by kernel_rfl)
theorem impl_reducedAt_1_eq (a0 : (List Int)) (a1 : (Int × (List (Int × Int)))) (a2 : Int) : impl_reducedAt_1 a0 a1 a2 =
    (impl_burn a1 a0 a2).bind fun r1 =>
      some (decide ((r1.length : Int) < a1.1)) :=
  (den_eq Γ X 45 rfl _).trans (by kernel_rfl)
theorem slices_DeleteFunc_int_int__reducedAt_1_eq (a0 : (List (List Int))) (a1 : (Int × (List (Int × Int)))) (a2 : Int) : slices_DeleteFunc_int_int__reducedAt_1 a0 a1 a2 = Lb.delRows impl_reducedAt_1 a0 a1 a2 := den_ext Γ X 46 rfl _
theorem impl_reducedAt_eq (a0 : (Int × (List (Int × Int)))) (a1 : Int) : impl_reducedAt a0 a1 =
    impl_reducedAt_l0 a0 a1 ([([] : List Int)] : List (List Int)) 0 :=
  (den_eq Γ X 47 rfl _).trans (by kernel_rfl)
theorem impl_reducedAt_l0_eq (x2 : (Int × (List (Int × Int)))) (x3 : Int) (x5 : (List (List Int))) (x6 : Int) : impl_reducedAt_l0 x2 x3 x5 x6 =
    cond (decide (x6 < x2.1))
      ((impl_Valence x2 x6).bind fun r1 =>
        cond ((x6 : Int) == x3)
          (impl_reducedAt_l2 x2 x3 x5 x6 0 ([] : List (List Int)) (x5.length : Int) 0)
          (impl_reducedAt_l2 x2 x3 x5 x6 (w64 (r1 - 1)) ([] : List (List Int)) (x5.length : Int) 0))
      ((slices_DeleteFunc_int_int__reducedAt_1 x5 x2 x3).bind fun r3 =>
        some r3) :=
  (at_eq Γ X 47 [1, 1, 0, 1, 0] _).trans (by kernel_rfl)
theorem impl_reducedAt_l2_eq (x2 : (Int × (List (Int × Int)))) (x3 : Int) (x5 : (List (List Int))) (x6 : Int) (x7 : Int) (x8 : (List (List Int))) (x27 : Int) (x28 : Int) : impl_reducedAt_l2 x2 x3 x5 x6 x7 x8 x27 x28 =
    cond (decide (x28 < x27))
      (cond (inside x28 x5.length)
        (impl_reducedAt_l4 x2 x3 x5 x6 x7 x8 0 x27 x28 x28.toNat)
        (none))
      (impl_reducedAt_l0 x2 x3 x8 (w64 (x6 + 1))) :=
  (at_eq Γ X 47 [1, 1, 0, 1, 0, 0, 1, 0, 0, 1, 1, 1, 0, 1, 0] _).trans (by kernel_rfl)
theorem impl_reducedAt_l4_eq (x2 : (Int × (List (Int × Int)))) (x3 : Int) (x5 : (List (List Int))) (x6 : Int) (x7 : Int) (x8 : (List (List Int))) (x11 : Int) (x27 : Int) (x28 : Int) (i10_0 : Nat) : impl_reducedAt_l4 x2 x3 x5 x6 x7 x8 x11 x27 x28 i10_0 =
    cond (decide (x11 ≤ x7))
      ((impl_copyInts (x5.getD i10_0 ([] : List Int))).bind fun r2 =>
        cond (decide (r2.length + ([x11] : List Int).length ≤ room))
          (cond (decide (x8.length + ([r2 ++ ([x11] : List Int)] : List (List Int)).length ≤ room))
            (impl_reducedAt_l4 x2 x3 x5 x6 x7 (x8 ++ ([r2 ++ ([x11] : List Int)] : List (List Int))) (w64 (x11 + 1)) x27 x28 i10_0)
            (none))
          (none))
      (impl_reducedAt_l2 x2 x3 x5 x6 x7 x8 x27 (w64 (x28 + 1))) :=
  (at_eq Γ X 47 [1, 1, 0, 1, 0, 0, 1, 0, 0, 1, 1, 1, 0, 1, 0, 0, 1, 1, 0, 0, 1, 1, 0] _).trans (by kernel_rfl)
theorem impl_NegateDivisor_eq (a0 : (List Int)) : impl_NegateDivisor a0 =
    (impl_copyInts a0).bind fun r1 =>
      impl_NegateDivisor_l0 r1 (r1.length : Int) 0 :=
  (den_eq Γ X 48 rfl _).trans (by kernel_rfl)
theorem impl_NegateDivisor_l0_eq (x3 : (List Int)) (x8 : Int) (x9 : Int) : impl_NegateDivisor_l0 x3 x8 x9 =
    cond (decide (x9 < x8))
      (cond (inside x9 x3.length)
        (cond (inside x9 x3.length)
          (impl_NegateDivisor_l0 (x3.set x9.toNat (w64 (0 - (x3.getD x9.toNat 0)))) x8 (w64 (x9 + 1)))
          (none))
        (none))
      (some x3) :=
  (at_eq Γ X 48 [1, 1, 0, 1, 0] _).trans (by kernel_rfl)
theorem impl_plus_eq (a0 : (List Int)) (a1 : (List Int)) : impl_plus a0 a1 =
    (impl_copyInts a0).bind fun r1 =>
      impl_plus_l0 a1 r1 (r1.length : Int) 0 :=
  (den_eq Γ X 49 rfl _).trans (by kernel_rfl)
theorem impl_plus_l0_eq (x1 : (List Int)) (x5 : (List Int)) (x10 : Int) (x11 : Int) : impl_plus_l0 x1 x5 x10 x11 =
    cond (decide (x11 < x10))
      (cond (inside x11 x5.length)
        (cond (inside x11 x1.length)
          (cond (inside x11 x5.length)
            (impl_plus_l0 x1 (x5.set x11.toNat (w64 ((x5.getD x11.toNat 0) + (x1.getD x11.toNat 0)))) x10 (w64 (x11 + 1)))
            (none))
          (none))
        (none))
      (some x5) :=
  (at_eq Γ X 49 [1, 1, 0, 1, 0] _).trans (by kernel_rfl)
theorem slices_SortFunc_int_int__Compare_int_int_eq (a0 : (List (List Int))) : slices_SortFunc_int_int__Compare_int_int a0 = Lb.sortRows a0 := den_ext Γ X 50 rfl _
theorem impl_RecurrentPiles_eq (a0 : (Int × (List (Int × Int)))) (a1 : Int) : impl_RecurrentPiles a0 a1 =
    (impl_isVertex a0 a1).bind fun r1 =>
      cond (!r1)
        (some (([] : List (List Int)), false))
        ((impl_GroupOrder a0).bind fun r2 =>
          cond (decide (r2 > 400))
            (some (([] : List (List Int)), false))
            ((impl_FullPile a0 a1).bind fun r3 =>
              (impl_reducedAt a0 a1).bind fun r4 =>
                impl_RecurrentPiles_l0 r3 ([] : List (List Int)) r4 (r4.length : Int) 0)) :=
  (den_eq Γ X 51 rfl _).trans (by kernel_rfl)
theorem impl_RecurrentPiles_l0_eq (x6 : (List Int)) (x7 : (List (List Int))) (x24 : (List (List Int))) (x25 : Int) (x26 : Int) : impl_RecurrentPiles_l0 x6 x7 x24 x25 x26 =
    cond (decide (x26 < x25))
      (cond (inside x26 x24.length)
        ((impl_NegateDivisor (x24.getD x26.toNat ([] : List Int))).bind fun r5 =>
          (impl_plus x6 r5).bind fun r6 =>
            cond (decide (x7.length + ([r6] : List (List Int)).length ≤ room))
              (impl_RecurrentPiles_l0 x6 (x7 ++ ([r6] : List (List Int))) x24 x25 (w64 (x26 + 1)))
              (none))
        (none))
      ((slices_SortFunc_int_int__Compare_int_int x7).bind fun r7 =>
        some (r7, true)) :=
  (at_eq Γ X 51 [1, 1, 1, 1, 0, 1, 0] _).trans (by kernel_rfl)
theorem impl_GenusOf_eq (a0 : (Int × (List (Int × Int)))) : impl_GenusOf a0 =
    (impl_GraphOk a0).bind fun r1 =>
      cond (!r1)
        (some (-1))
        (some (w64 ((w64 ((a0.2.length : Int) - a0.1)) + 1))) :=
  (den_eq Γ X 52 rfl _).trans (by kernel_rfl)
theorem impl_sumOf_eq (a0 : (List Int)) : impl_sumOf a0 =
    impl_sumOf_l0 0 a0 (a0.length : Int) 0 :=
  (den_eq Γ X 53 rfl _).trans (by kernel_rfl)
theorem impl_sumOf_l0_eq (x3 : Int) (x6 : (List Int)) (x7 : Int) (x8 : Int) : impl_sumOf_l0 x3 x6 x7 x8 =
    cond (decide (x8 < x7))
      (cond (inside x8 x6.length)
        (impl_sumOf_l0 (w64 (x3 + (x6.getD x8.toNat 0))) x6 x7 (w64 (x8 + 1)))
        (none))
      (some x3) :=
  (at_eq Γ X 53 [1, 1, 0, 1, 0] _).trans (by kernel_rfl)
theorem impl_LevelCounts_eq (a0 : (Int × (List (Int × Int)))) (a1 : Int) : impl_LevelCounts a0 a1 =
    (impl_RecurrentPiles a0 a1).bind fun r1 =>
      cond (!r1.2)
        (some (([] : List Int), false))
        ((impl_GenusOf a0).bind fun r2 =>
          cond (decide (0 ≤ w64 (r2 + 1)) && decide (w64 (r2 + 1) ≤ (room : Int)))
            (impl_LevelCounts_l0 a1 a0 r1.1 (List.replicate (w64 (r2 + 1)).toNat (0 : Int)) (r1.1.length : Int) 0)
            (none)) :=
  (den_eq Γ X 54 rfl _).trans (by kernel_rfl)
theorem impl_LevelCounts_l0_eq (x1 : Int) (x2 : (Int × (List (Int × Int)))) (x6 : (List (List Int))) (x8 : (List Int)) (x24 : Int) (x25 : Int) : impl_LevelCounts_l0 x1 x2 x6 x8 x24 x25 =
    cond (decide (x25 < x24))
      (cond (inside x25 x6.length)
        ((impl_sumOf (x6.getD x25.toNat ([] : List Int))).bind fun r3 =>
          (impl_Valence x2 x1).bind fun r4 =>
            cond (inside (w64 ((w64 (r3 + r4)) - (x2.2.length : Int))) x8.length)
              (cond (inside (w64 ((w64 (r3 + r4)) - (x2.2.length : Int))) x8.length)
                (impl_LevelCounts_l0 x1 x2 x6 (x8.set ((w64 ((w64 (r3 + r4)) - (x2.2.length : Int))).toNat) (w64 ((x8.getD ((w64 ((w64 (r3 + r4)) - (x2.2.length : Int))).toNat) 0) + 1))) x24 (w64 (x25 + 1)))
                (none))
              (none))
        (none))
      (some (x8, true)) :=
  (at_eq Γ X 54 [1, 1, 1, 1, 0, 1, 0] _).trans (by kernel_rfl)
theorem impl_RowOfOne_eq (a0 : (List (List Int))) : impl_RowOfOne a0 =
    impl_RowOfOne_l0 ([] : List Int) a0 (a0.length : Int) 0 :=
  (den_eq Γ X 55 rfl _).trans (by kernel_rfl)
theorem impl_RowOfOne_l0_eq (x3 : (List Int)) (x8 : (List (List Int))) (x9 : Int) (x10 : Int) : impl_RowOfOne_l0 x3 x8 x9 x10 =
    cond (decide (x10 < x9))
      (cond (inside x10 x8.length)
        (impl_RowOfOne_l2 x3 (x8.getD x10.toNat ([] : List Int)) x8 x9 x10)
        (none))
      ((impl_trimmed x3).bind fun r1 =>
        some r1) :=
  (at_eq Γ X 55 [1, 1, 0, 1, 0] _).trans (by kernel_rfl)
theorem impl_RowOfOne_l2_eq (x3 : (List Int)) (x5 : (List Int)) (x8 : (List (List Int))) (x9 : Int) (x10 : Int) : impl_RowOfOne_l2 x3 x5 x8 x9 x10 =
    cond (decide ((x3.length : Int) < (x5.length : Int)))
      (cond (decide (x3.length + ([0] : List Int).length ≤ room))
        (impl_RowOfOne_l2 (x3 ++ ([0] : List Int)) x5 x8 x9 x10)
        (none))
      (impl_RowOfOne_l4 x3 x8 x9 x10 x5 (x5.length : Int) 0) :=
  (at_eq Γ X 55 [1, 1, 0, 1, 0, 0, 1, 1, 0, 0, 1, 0, 0] _).trans (by kernel_rfl)
theorem impl_RowOfOne_l4_eq (x3 : (List Int)) (x8 : (List (List Int))) (x9 : Int) (x10 : Int) (x22 : (List Int)) (x23 : Int) (x24 : Int) : impl_RowOfOne_l4 x3 x8 x9 x10 x22 x23 x24 =
    cond (decide (x24 < x23))
      (cond (inside x24 x22.length)
        (cond (inside x24 x3.length)
          (cond (inside x24 x3.length)
            (impl_RowOfOne_l4 (x3.set x24.toNat (w64 ((x3.getD x24.toNat 0) + (x22.getD x24.toNat 0)))) x8 x9 x10 x22 x23 (w64 (x24 + 1)))
            (none))
          (none))
        (none))
      (impl_RowOfOne_l0 x3 x8 x9 (w64 (x10 + 1))) :=
  (at_eq Γ X 55 [1, 1, 0, 1, 0, 0, 1, 1, 0, 0, 1, 1, 1, 0] _).trans (by kernel_rfl)
theorem laws_same_eq (a0 : (List Int)) (a1 : (List Int)) : laws_same a0 a1 =
    cond (((a0.length : Int) : Int) != (a1.length : Int))
      (some false)
      (laws_same_l0 a1 a0 (a0.length : Int) 0) :=
  (den_eq Γ X 56 rfl _).trans (by kernel_rfl)
theorem laws_same_l0_eq (x1 : (List Int)) (x12 : (List Int)) (x13 : Int) (x14 : Int) : laws_same_l0 x1 x12 x13 x14 =
    cond (decide (x14 < x13))
      (cond (inside x14 x12.length)
        (cond (inside x14 x1.length)
          (cond (((x12.getD x14.toNat 0) : Int) != (x1.getD x14.toNat 0))
            (some false)
            (laws_same_l0 x1 x12 x13 (w64 (x14 + 1))))
          (none))
        (none))
      (some true) :=
  (at_eq Γ X 56 [1, 1, 0, 1, 0] _).trans (by kernel_rfl)
theorem impl_ValueAt_eq (a0 : (List (List Int))) (a1 : Int) (a2 : Int) : impl_ValueAt a0 a1 a2 =
    impl_ValueAt_l0 a1 a2 0 1 a0 (a0.length : Int) 0 :=
  (den_eq Γ X 57 rfl _).trans (by kernel_rfl)
theorem impl_ValueAt_l0_eq (x1 : Int) (x2 : Int) (x7 : Int) (x8 : Int) (x14 : (List (List Int))) (x15 : Int) (x16 : Int) : impl_ValueAt_l0 x1 x2 x7 x8 x14 x15 x16 =
    cond (decide (x16 < x15))
      (cond (inside x16 x14.length)
        (impl_ValueAt_l2 x1 x2 x7 x8 1 x14 x15 x16 (x14.getD x16.toNat ([] : List Int)) ((x14.getD x16.toNat ([] : List Int)).length : Int) 0)
        (none))
      (some x7) :=
  (at_eq Γ X 57 [1, 1, 0, 1, 0] _).trans (by kernel_rfl)
theorem impl_ValueAt_l2_eq (x1 : Int) (x2 : Int) (x7 : Int) (x8 : Int) (x11 : Int) (x14 : (List (List Int))) (x15 : Int) (x16 : Int) (x20 : (List Int)) (x21 : Int) (x22 : Int) : impl_ValueAt_l2 x1 x2 x7 x8 x11 x14 x15 x16 x20 x21 x22 =
    cond (decide (x22 < x21))
      (cond (inside x22 x20.length)
        (impl_ValueAt_l2 x1 x2 (w64 (x7 + (w64 ((w64 ((x20.getD x22.toNat 0) * x8)) * x11)))) x8 (w64 (x11 * x2)) x14 x15 x16 x20 x21 (w64 (x22 + 1)))
        (none))
      (impl_ValueAt_l0 x1 x2 x7 (w64 (x8 * x1)) x14 x15 (w64 (x16 + 1))) :=
  (at_eq Γ X 57 [1, 1, 0, 1, 0, 0, 1, 1, 0, 0, 1, 1, 0, 1, 0] _).trans (by kernel_rfl)
theorem strconv_Itoa_eq (a0 : Int) : strconv_Itoa a0 = Lb.itoa a0 := den_ext Γ X 58 rfl _
theorem impl_FormatInt_eq (a0 : Int) : impl_FormatInt a0 =
    (strconv_Itoa a0).bind fun r1 =>
      some r1 :=
  (den_eq Γ X 59 rfl _).trans (by kernel_rfl)
theorem impl_powerText_eq (a0 : ByteArray) (a1 : Int) : impl_powerText a0 a1 =
    cond ((a1 : Int) == 0)
      (some (⟨#[]⟩ : ByteArray))
      (cond ((a1 : Int) == 1)
        (some a0)
        ((impl_FormatInt a1).bind fun r1 =>
          cond (decide (a0.size + r1.size ≤ 9223372036854775807))
            (some (a0 ++ r1))
            (none))) :=
  (den_eq Γ X 60 rfl _).trans (by kernel_rfl)
theorem strings_Join_eq (a0 : (List ByteArray)) (a1 : ByteArray) : strings_Join a0 a1 = Lb.join a0 a1 := den_ext Γ X 61 rfl _
theorem impl_Join_eq (a0 : (List ByteArray)) (a1 : ByteArray) : impl_Join a0 a1 =
    (strings_Join a0 a1).bind fun r1 =>
      some r1 :=
  (den_eq Γ X 62 rfl _).trans (by kernel_rfl)
theorem impl_FormatPolynomial_eq (a0 : (List (List Int))) : impl_FormatPolynomial a0 =
    impl_FormatPolynomial_l0 ([] : List ByteArray) a0 (a0.length : Int) 0 :=
  (den_eq Γ X 63 rfl _).trans (by kernel_rfl)
theorem impl_FormatPolynomial_l0_eq (x3 : (List ByteArray)) (x9 : (List (List Int))) (x10 : Int) (x11 : Int) : impl_FormatPolynomial_l0 x3 x9 x10 x11 =
    cond (decide (x11 < x10))
      (cond (inside x11 x9.length)
        (impl_FormatPolynomial_l2 x3 x11 x9 x10 x11 (x9.getD x11.toNat ([] : List Int)) ((x9.getD x11.toNat ([] : List Int)).length : Int) 0)
        (none))
      (cond (((x3.length : Int) : Int) == 0)
        (some (⟨#[48]⟩ : ByteArray))
        ((impl_Join x3 (⟨#[32, 43, 32]⟩ : ByteArray)).bind fun r5 =>
          some r5)) :=
  (at_eq Γ X 63 [1, 1, 0, 1, 0] _).trans (by kernel_rfl)
theorem impl_FormatPolynomial_l2_eq (x3 : (List ByteArray)) (x4 : Int) (x9 : (List (List Int))) (x10 : Int) (x11 : Int) (x16 : (List Int)) (x17 : Int) (x18 : Int) : impl_FormatPolynomial_l2 x3 x4 x9 x10 x11 x16 x17 x18 =
    cond (decide (x18 < x17))
      (cond (inside x18 x16.length)
        (cond (((x16.getD x18.toNat 0) : Int) == 0)
          (impl_FormatPolynomial_l2 x3 x4 x9 x10 x11 x16 x17 (w64 (x18 + 1)))
          ((impl_powerText (⟨#[120]⟩ : ByteArray) x4).bind fun r1 =>
            (impl_powerText (⟨#[121]⟩ : ByteArray) x18).bind fun r2 =>
              cond (decide (r1.size + r2.size ≤ 9223372036854775807))
                (cond (((x16.getD x18.toNat 0) : Int) == 1)
                  (cond (!((r1 ++ r2).toList == (⟨#[]⟩ : ByteArray).toList))
                    (cond (decide (x3.length + ([r1 ++ r2] : List ByteArray).length ≤ room))
                      (impl_FormatPolynomial_l2 (x3 ++ ([r1 ++ r2] : List ByteArray)) x4 x9 x10 x11 x16 x17 (w64 (x18 + 1)))
                      (none))
                    ((impl_FormatInt (x16.getD x18.toNat 0)).bind fun r3 =>
                      cond (decide (r3.size + (r1 ++ r2).size ≤ 9223372036854775807))
                        (cond (decide (x3.length + ([r3 ++ (r1 ++ r2)] : List ByteArray).length ≤ room))
                          (impl_FormatPolynomial_l2 (x3 ++ ([r3 ++ (r1 ++ r2)] : List ByteArray)) x4 x9 x10 x11 x16 x17 (w64 (x18 + 1)))
                          (none))
                        (none)))
                  ((impl_FormatInt (x16.getD x18.toNat 0)).bind fun r4 =>
                    cond (decide (r4.size + (r1 ++ r2).size ≤ 9223372036854775807))
                      (cond (decide (x3.length + ([r4 ++ (r1 ++ r2)] : List ByteArray).length ≤ room))
                        (impl_FormatPolynomial_l2 (x3 ++ ([r4 ++ (r1 ++ r2)] : List ByteArray)) x4 x9 x10 x11 x16 x17 (w64 (x18 + 1)))
                        (none))
                      (none)))
                (none)))
        (none))
      (impl_FormatPolynomial_l0 x3 x9 x10 (w64 (x11 + 1))) :=
  (at_eq Γ X 63 [1, 1, 0, 1, 0, 0, 1, 1, 0, 0, 1, 1, 0] _).trans (by kernel_rfl)
theorem laws_FnTutte_eq (a0 : (List Int)) : laws_FnTutte a0 =
    cond (decide ((a0.length : Int) > 1048576))
      (some true)
      ((spec_MakeSmall a0).bind fun r1 =>
        (spec_MakeNum a0 60).bind fun r2 =>
          cond (decide (r1.1 = 0))
            (none)
            ((impl_TutteOf r1).bind fun r3 =>
              cond (!r3.2)
                (cond (!r3.2)
                  (some (decide ((r1.2.length : Int) > 9)))
                  (some false))
                ((impl_GraphOk r1).bind fun r4 =>
                  cond (!r4)
                    (cond (!r3.2)
                      (some (decide ((r1.2.length : Int) > 9)))
                      (some false))
                    ((impl_LevelCounts r1 (Int.tmod r2 r1.1)).bind fun r5 =>
                      laws_FnTutte_l0 r3.1 r5.1 r5.2 1 (r1.2.length : Int) 0)))) :=
  (den_eq Γ X 64 rfl _).trans (by kernel_rfl)
theorem laws_FnTutte_l0_eq (x5 : (List (List Int))) (x7 : (List Int)) (x8 : Bool) (x9 : Int) (x48 : Int) (x49 : Int) : laws_FnTutte_l0 x5 x7 x8 x9 x48 x49 =
    cond (decide (x49 < x48))
      (laws_FnTutte_l0 x5 x7 x8 (w64 (2 * x9)) x48 (w64 (x49 + 1)))
      (cond (x8)
        ((impl_RowOfOne x5).bind fun r6 =>
          (laws_same x7 r6).bind fun r7 =>
            cond (r7)
              ((impl_ValueAt x5 2 2).bind fun r8 =>
                cond ((r8 : Int) == x9)
                  ((impl_FormatPolynomial x5).bind fun r9 =>
                    some (!(r9.toList == (⟨#[]⟩ : ByteArray).toList)))
                  (some false))
              (some false))
        (some false)) :=
  (at_eq Γ X 64 [1, 1, 1, 1, 1, 1, 1, 1, 0, 1, 0] _).trans (by kernel_rfl)
end Go.Proofs.YtafgbjhojkgbjaaGreatDoor.D

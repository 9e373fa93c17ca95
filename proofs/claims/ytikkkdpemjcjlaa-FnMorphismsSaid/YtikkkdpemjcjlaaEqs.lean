/-
  Each function and each loop by its equation: what the evaluator tells of it, for all arguments.
-/
import Derived.Test.YtikkkdpemjcjlaaCtx
import Derived.KernelRfl
namespace Go.Proofs.Ytikkkdpemjcjlaa.D
open Go Go.Den
set_option linter.unusedVariables false
set_option maxRecDepth 100000
theorem spec_l01New_eq (a0 : (List Int)) : spec_l01New a0 =
    spec_l01New_l0 a0 (w64 (2069 + (a0.length : Int))) 0 :=
  (den_eq Γ X 0 rfl _).trans (by kernel_rfl)
theorem spec_l01New_l0_eq (x0 : (List Int)) (x3 : Int) (x4 : Int) : spec_l01New_l0 x0 x3 x4 =
    cond (decide (x4 < (x0.length : Int)))
      (cond (decide (x4 < 4000))
        (cond (inside x4 x0.length)
          (spec_l01New_l0 x0 (bits .and .i64 (w64 ((w64 ((w64 (x3 * 97)) + (w64 (x0.getD x4.toNat 0)))) + 7)) 1073741823) (w64 (x4 + 1)))
          (none))
        (some (x0, 0, x3)))
      (some (x0, 0, x3)) :=
  (at_eq Γ X 0 [1, 1, 0, 1, 0] _).trans (by kernel_rfl)
theorem spec_l01Byte_eq (a0 : ((List Int) × (Int × Int))) : spec_l01Byte a0 =
    cond (decide (a0.2.1 < (a0.1.length : Int)))
      (cond (inside a0.2.1 a0.1.length)
        (spec_l01Byte_c5 (a0.1, a0.2.1, w64 ((w64 (a0.2.2 * 6364136223846793005)) + 1442695040888963407)) (bits .and .i64 (w64 ((bits .and .i64 (bits .xor .i64 (Int.fdiv (w64 ((w64 (a0.2.2 * 6364136223846793005)) + 1442695040888963407)) (2 ^ 33)) (Int.fdiv (w64 ((w64 (a0.2.2 * 6364136223846793005)) + 1442695040888963407)) (2 ^ 45))) 255) + (w64 (a0.1.getD a0.2.1.toNat 0)))) 255))
        (none))
      (some (bits .and .i64 (bits .xor .i64 (Int.fdiv (w64 ((w64 (a0.2.2 * 6364136223846793005)) + 1442695040888963407)) (2 ^ 33)) (Int.fdiv (w64 ((w64 (a0.2.2 * 6364136223846793005)) + 1442695040888963407)) (2 ^ 45))) 255, a0.1, a0.2.1, w64 ((w64 (a0.2.2 * 6364136223846793005)) + 1442695040888963407))) :=
  (den_eq Γ X 1 rfl _).trans (by kernel_rfl)
theorem spec_l01Byte_c5_eq (x0 : ((List Int) × (Int × Int))) (x3 : Int) : spec_l01Byte_c5 x0 x3 =
    some (x3, x0.1, w64 (x0.2.1 + 1), x0.2.2) :=
  (at_eq Γ X 1 [1, 1, 1, 0, 1, 0, 1] _).trans (by kernel_rfl)
theorem spec_l01Below_eq (a0 : ((List Int) × (Int × Int))) (a1 : Int) : spec_l01Below a0 a1 =
    cond (decide (a1 ≤ 0))
      (some (0, a0))
      (cond (decide (a1 ≤ 256))
        ((spec_l01Byte a0).bind fun r1 =>
          cond (decide (a1 = 0))
            (none)
            (some (Int.tmod r1.1 a1, r1.2)))
        ((spec_l01Byte a0).bind fun r2 =>
          (spec_l01Byte r2.2).bind fun r3 =>
            (spec_l01Byte r3.2).bind fun r4 =>
              (spec_l01Byte r4.2).bind fun r5 =>
                cond (decide (a1 = 0))
                  (none)
                  (some (Int.tmod (w64 ((w64 ((w64 ((w64 (r2.1 * 16777216)) + (w64 (r3.1 * 65536)))) + (w64 (r4.1 * 256)))) + r5.1)) a1, r5.2)))) :=
  (den_eq Γ X 2 rfl _).trans (by kernel_rfl)
theorem spec_l02Vert_eq (a0 : (Int × (List (Int × Int)))) (a1 : Int) : spec_l02Vert a0 a1 =
    cond (decide (a1 ≥ 0))
      (some (decide (a1 < a0.1)))
      (some false) :=
  (den_eq Γ X 3 rfl _).trans (by kernel_rfl)
theorem spec_Multiplicity_eq (a0 : (Int × (List (Int × Int)))) (a1 : Int) (a2 : Int) : spec_Multiplicity a0 a1 a2 =
    (spec_l02Vert a0 a1).bind fun r1 =>
      cond (!r1)
        (some 0)
        ((spec_l02Vert a0 a2).bind fun r2 =>
          cond (!r2)
            (some 0)
            (cond ((a1 : Int) == a2)
              (some 0)
              (spec_Multiplicity_l0 a1 a2 0 a0.2 (a0.2.length : Int) 0))) :=
  (den_eq Γ X 4 rfl _).trans (by kernel_rfl)
theorem spec_Multiplicity_l0_eq (x1 : Int) (x2 : Int) (x7 : Int) (x26 : (List (Int × Int))) (x27 : Int) (x28 : Int) : spec_Multiplicity_l0 x1 x2 x7 x26 x27 x28 =
    cond (decide (x28 < x27))
      (cond (inside x28 x26.length)
        (cond ((((x26.getD x28.toNat (0, 0)).1) : Int) == (imin x1 x2))
          (cond ((((x26.getD x28.toNat (0, 0)).2) : Int) == (imax x1 x2))
            (spec_Multiplicity_l0 x1 x2 (w64 (x7 + 1)) x26 x27 (w64 (x28 + 1)))
            (spec_Multiplicity_l0 x1 x2 x7 x26 x27 (w64 (x28 + 1))))
          (spec_Multiplicity_l0 x1 x2 x7 x26 x27 (w64 (x28 + 1))))
        (none))
      (some x7) :=
  (at_eq Γ X 4 [1, 1, 1, 0, 1, 0] _).trans (by kernel_rfl)
theorem spec_l01In_eq (a0 : Int) (a1 : Int) (a2 : Int) : spec_l01In a0 a1 a2 =
    cond (decide (a0 ≥ a1))
      (some (decide (a0 ≤ a2)))
      (some false) :=
  (den_eq Γ X 5 rfl _).trans (by kernel_rfl)
theorem spec_EdgesOk_eq (a0 : (Int × (List (Int × Int)))) : spec_EdgesOk a0 =
    (spec_l01In a0.1 1 6).bind fun r1 =>
      cond (!r1)
        (some false)
        (cond (decide ((a0.2.length : Int) > 12))
          (some false)
          (spec_EdgesOk_l0 a0 a0.2 (a0.2.length : Int) 0)) :=
  (den_eq Γ X 6 rfl _).trans (by kernel_rfl)
theorem spec_EdgesOk_l0_eq (x1 : (Int × (List (Int × Int)))) (x16 : (List (Int × Int))) (x17 : Int) (x18 : Int) : spec_EdgesOk_l0 x1 x16 x17 x18 =
    cond (decide (x18 < x17))
      (cond (inside x18 x16.length)
        ((spec_l01In ((x16.getD x18.toNat (0, 0)).1) 0 (w64 (x1.1 - 1))).bind fun r2 =>
          cond (!r2)
            (some false)
            ((spec_l01In ((x16.getD x18.toNat (0, 0)).2) (w64 (((x16.getD x18.toNat (0, 0)).1) + 1)) (w64 (x1.1 - 1))).bind fun r3 =>
              cond (!r3)
                (some false)
                (spec_EdgesOk_l0 x1 x16 x17 (w64 (x18 + 1)))))
        (none))
      (some true) :=
  (at_eq Γ X 6 [1, 1, 0, 1, 0] _).trans (by kernel_rfl)
theorem spec_l02Has_eq (a0 : (List Int)) (a1 : Int) : spec_l02Has a0 a1 =
    spec_l02Has_l0 a1 a0 (a0.length : Int) 0 :=
  (den_eq Γ X 7 rfl _).trans (by kernel_rfl)
theorem spec_l02Has_l0_eq (x1 : Int) (x7 : (List Int)) (x8 : Int) (x9 : Int) : spec_l02Has_l0 x1 x7 x8 x9 =
    cond (decide (x9 < x8))
      (cond (inside x9 x7.length)
        (cond (((x7.getD x9.toNat 0) : Int) == x1)
          (some true)
          (spec_l02Has_l0 x1 x7 x8 (w64 (x9 + 1))))
        (none))
      (some false) :=
  (at_eq Γ X 7 [1, 0, 1, 0] _).trans (by kernel_rfl)
theorem spec_l02Reach_eq (a0 : (Int × (List (Int × Int)))) : spec_l02Reach a0 =
    spec_l02Reach_l0 a0 ([0] : List Int) 0 :=
  (den_eq Γ X 8 rfl _).trans (by kernel_rfl)
theorem spec_l02Reach_l0_eq (x1 : (Int × (List (Int × Int)))) (x3 : (List Int)) (x4 : Int) : spec_l02Reach_l0 x1 x3 x4 =
    cond (decide (x4 < (x3.length : Int)))
      (spec_l02Reach_l2 x1 x3 x4 x1.2 (x1.2.length : Int) 0)
      (some x3) :=
  (at_eq Γ X 8 [1, 1, 0, 1, 0] _).trans (by kernel_rfl)
theorem spec_l02Reach_l2_eq (x1 : (Int × (List (Int × Int)))) (x3 : (List Int)) (x4 : Int) (x15 : (List (Int × Int))) (x16 : Int) (x17 : Int) : spec_l02Reach_l2 x1 x3 x4 x15 x16 x17 =
    cond (decide (x17 < x16))
      (cond (inside x17 x15.length)
        (cond (inside x4 x3.length)
          (cond ((((x15.getD x17.toNat (0, 0)).1) : Int) == (x3.getD x4.toNat 0))
            ((spec_l02Has x3 ((x15.getD x17.toNat (0, 0)).2)).bind fun r1 =>
              cond (!r1)
                (cond (decide (x3.length + ([(x15.getD x17.toNat (0, 0)).2] : List Int).length ≤ room))
                  (cond (inside x4 (x3 ++ ([(x15.getD x17.toNat (0, 0)).2] : List Int)).length)
                    (cond ((((x15.getD x17.toNat (0, 0)).2) : Int) == ((x3 ++ ([(x15.getD x17.toNat (0, 0)).2] : List Int)).getD x4.toNat 0))
                      ((spec_l02Has (x3 ++ ([(x15.getD x17.toNat (0, 0)).2] : List Int)) ((x15.getD x17.toNat (0, 0)).1)).bind fun r2 =>
                        cond (!r2)
                          (spec_l02Reach_c11 x1 (x3 ++ ([(x15.getD x17.toNat (0, 0)).2] : List Int)) x4 (x15.getD x17.toNat (0, 0)) x15 x16 x17)
                          (spec_l02Reach_c12 x1 (x3 ++ ([(x15.getD x17.toNat (0, 0)).2] : List Int)) x4 x15 x16 x17))
                      (spec_l02Reach_c12 x1 (x3 ++ ([(x15.getD x17.toNat (0, 0)).2] : List Int)) x4 x15 x16 x17))
                    (none))
                  (none))
                (cond (inside x4 x3.length)
                  (cond ((((x15.getD x17.toNat (0, 0)).2) : Int) == (x3.getD x4.toNat 0))
                    ((spec_l02Has x3 ((x15.getD x17.toNat (0, 0)).1)).bind fun r3 =>
                      cond (!r3)
                        (spec_l02Reach_c11 x1 x3 x4 (x15.getD x17.toNat (0, 0)) x15 x16 x17)
                        (spec_l02Reach_c12 x1 x3 x4 x15 x16 x17))
                    (spec_l02Reach_c12 x1 x3 x4 x15 x16 x17))
                  (none)))
            (cond (inside x4 x3.length)
              (cond ((((x15.getD x17.toNat (0, 0)).2) : Int) == (x3.getD x4.toNat 0))
                ((spec_l02Has x3 ((x15.getD x17.toNat (0, 0)).1)).bind fun r4 =>
                  cond (!r4)
                    (spec_l02Reach_c11 x1 x3 x4 (x15.getD x17.toNat (0, 0)) x15 x16 x17)
                    (spec_l02Reach_c12 x1 x3 x4 x15 x16 x17))
                (spec_l02Reach_c12 x1 x3 x4 x15 x16 x17))
              (none)))
          (none))
        (none))
      (spec_l02Reach_l0 x1 x3 (w64 (x4 + 1))) :=
  (at_eq Γ X 8 [1, 1, 0, 1, 0, 0, 1, 0, 0, 1, 0] _).trans (by kernel_rfl)
theorem spec_l02Reach_c11_eq (x1 : (Int × (List (Int × Int)))) (x3 : (List Int)) (x4 : Int) (x6 : (Int × Int)) (x15 : (List (Int × Int))) (x16 : Int) (x17 : Int) : spec_l02Reach_c11 x1 x3 x4 x6 x15 x16 x17 =
    cond (decide (x3.length + ([x6.1] : List Int).length ≤ room))
      (spec_l02Reach_c12 x1 (x3 ++ ([x6.1] : List Int)) x4 x15 x16 x17)
      (none) :=
  (at_eq Γ X 8 [1, 1, 0, 1, 0, 0, 1, 0, 0, 1, 0, 0, 1, 1, 0, 0, 1, 1, 1, 0] _).trans (by kernel_rfl)
theorem spec_l02Reach_c12_eq (x1 : (Int × (List (Int × Int)))) (x3 : (List Int)) (x4 : Int) (x15 : (List (Int × Int))) (x16 : Int) (x17 : Int) : spec_l02Reach_c12 x1 x3 x4 x15 x16 x17 =
    spec_l02Reach_l2 x1 x3 x4 x15 x16 (w64 (x17 + 1)) :=
  (at_eq Γ X 8 [1, 1, 0, 1, 0, 0, 1, 0, 0, 1, 0, 0, 1, 1, 1] _).trans (by kernel_rfl)
theorem spec_GraphOk_eq (a0 : (Int × (List (Int × Int)))) : spec_GraphOk a0 =
    (spec_EdgesOk a0).bind fun r1 =>
      cond (!r1)
        (some false)
        (spec_GraphOk_l0 a0 a0.2 (a0.2.length : Int) 0) :=
  (den_eq Γ X 9 rfl _).trans (by kernel_rfl)
theorem spec_GraphOk_l0_eq (x1 : (Int × (List (Int × Int)))) (x9 : (List (Int × Int))) (x10 : Int) (x11 : Int) : spec_GraphOk_l0 x1 x9 x10 x11 =
    cond (decide (x11 < x10))
      (cond (inside x11 x9.length)
        (cond (decide (x11 > 0))
          (cond (inside (w64 (x11 - 1)) x1.2.length)
            (cond (decide ((x9.getD x11.toNat (0, 0)).1 < (x1.2.getD ((w64 (x11 - 1)).toNat) (0, 0)).1))
              (some false)
              (cond (inside (w64 (x11 - 1)) x1.2.length)
                (cond ((((x9.getD x11.toNat (0, 0)).1) : Int) == ((x1.2.getD ((w64 (x11 - 1)).toNat) (0, 0)).1))
                  (cond (inside (w64 (x11 - 1)) x1.2.length)
                    (cond (decide ((x9.getD x11.toNat (0, 0)).2 < (x1.2.getD ((w64 (x11 - 1)).toNat) (0, 0)).2))
                      (some false)
                      (spec_GraphOk_c8 x1 x9 x10 x11))
                    (none))
                  (spec_GraphOk_c8 x1 x9 x10 x11))
                (none)))
            (none))
          (spec_GraphOk_c8 x1 x9 x10 x11))
        (none))
      ((spec_l02Reach x1).bind fun r2 =>
        some (((r2.length : Int) : Int) == x1.1)) :=
  (at_eq Γ X 9 [1, 1, 0, 1, 0] _).trans (by kernel_rfl)
theorem spec_GraphOk_c8_eq (x1 : (Int × (List (Int × Int)))) (x9 : (List (Int × Int))) (x10 : Int) (x11 : Int) : spec_GraphOk_c8 x1 x9 x10 x11 =
    spec_GraphOk_l0 x1 x9 x10 (w64 (x11 + 1)) :=
  (at_eq Γ X 9 [1, 1, 0, 1, 0, 0, 1, 1, 1] _).trans (by kernel_rfl)
theorem spec_AddEdge_eq (a0 : (Int × (List (Int × Int)))) (a1 : Int) (a2 : Int) : spec_AddEdge a0 a1 a2 =
    (spec_GraphOk a0).bind fun r1 =>
      cond (!r1)
        (some ((0, ([] : List (Int × Int))), false))
        ((spec_l01In a1 0 (w64 (a0.1 - 1))).bind fun r2 =>
          cond (!r2)
            (some ((0, ([] : List (Int × Int))), false))
            ((spec_l01In a2 0 (w64 (a0.1 - 1))).bind fun r3 =>
              cond (!r3)
                (some ((0, ([] : List (Int × Int))), false))
                (cond ((a1 : Int) == a2)
                  (some ((0, ([] : List (Int × Int))), false))
                  (cond (((a0.2.length : Int) : Int) == 12)
                    (some ((0, ([] : List (Int × Int))), false))
                    (spec_AddEdge_c4 a0 (0, ([] : List (Int × Int))) (imin a1 a2, imax a1 a2)))))) :=
  (den_eq Γ X 10 rfl _).trans (by kernel_rfl)
theorem spec_AddEdge_l0_eq (x6 : (Int × (List (Int × Int)))) (x8 : (Int × Int)) (x9 : (Int × (List (Int × Int)))) (x10 : Bool) (x55 : (List (Int × Int))) (x56 : Int) (x57 : Int) : spec_AddEdge_l0 x6 x8 x9 x10 x55 x56 x57 =
    cond (decide (x57 < x56))
      (cond (inside x57 x55.length)
        (cond (!x10)
          (cond (decide ((x55.getD x57.toNat (0, 0)).1 > x8.1))
            (cond (decide (x9.2.length + ([x8] : List (Int × Int)).length ≤ room))
              (cond (decide ((x9.2 ++ ([x8] : List (Int × Int))).length + ([x55.getD x57.toNat (0, 0)] : List (Int × Int)).length ≤ room))
                (spec_AddEdge_c13 x6 x8 (x9.1, (x9.2 ++ ([x8] : List (Int × Int))) ++ ([x55.getD x57.toNat (0, 0)] : List (Int × Int))) true x55 x56 x57)
                (none))
              (none))
            (cond ((((x55.getD x57.toNat (0, 0)).1) : Int) == x8.1)
              (cond (decide ((x55.getD x57.toNat (0, 0)).2 > x8.2))
                (cond (decide (x9.2.length + ([x8] : List (Int × Int)).length ≤ room))
                  (cond (decide ((x9.2 ++ ([x8] : List (Int × Int))).length + ([x55.getD x57.toNat (0, 0)] : List (Int × Int)).length ≤ room))
                    (spec_AddEdge_c13 x6 x8 (x9.1, (x9.2 ++ ([x8] : List (Int × Int))) ++ ([x55.getD x57.toNat (0, 0)] : List (Int × Int))) true x55 x56 x57)
                    (none))
                  (none))
                (cond (decide (x9.2.length + ([x55.getD x57.toNat (0, 0)] : List (Int × Int)).length ≤ room))
                  (spec_AddEdge_c13 x6 x8 (x9.1, x9.2 ++ ([x55.getD x57.toNat (0, 0)] : List (Int × Int))) x10 x55 x56 x57)
                  (none)))
              (cond (decide (x9.2.length + ([x55.getD x57.toNat (0, 0)] : List (Int × Int)).length ≤ room))
                (spec_AddEdge_c13 x6 x8 (x9.1, x9.2 ++ ([x55.getD x57.toNat (0, 0)] : List (Int × Int))) x10 x55 x56 x57)
                (none))))
          (cond (decide (x9.2.length + ([x55.getD x57.toNat (0, 0)] : List (Int × Int)).length ≤ room))
            (spec_AddEdge_c13 x6 x8 (x9.1, x9.2 ++ ([x55.getD x57.toNat (0, 0)] : List (Int × Int))) x10 x55 x56 x57)
            (none)))
        (none))
      (cond (!x10)
        (cond (decide (x9.2.length + ([x8] : List (Int × Int)).length ≤ room))
          (some ((x9.1, x9.2 ++ ([x8] : List (Int × Int))), true))
          (none))
        (some (x9, true))) :=
  (at_eq Γ X 10 [1, 1, 1, 1, 1, 0, 1, 0] _).trans (by kernel_rfl)
theorem spec_AddEdge_c4_eq (x3 : (Int × (List (Int × Int)))) (x6 : (Int × (List (Int × Int)))) (x8 : (Int × Int)) : spec_AddEdge_c4 x3 x6 x8 =
    spec_AddEdge_l0 x6 x8 (x3.1, ([] : List (Int × Int))) false x3.2 (x3.2.length : Int) 0 :=
  (at_eq Γ X 10 [1, 1, 1, 0] _).trans (by kernel_rfl)
theorem spec_AddEdge_c13_eq (x6 : (Int × (List (Int × Int)))) (x8 : (Int × Int)) (x9 : (Int × (List (Int × Int)))) (x10 : Bool) (x55 : (List (Int × Int))) (x56 : Int) (x57 : Int) : spec_AddEdge_c13 x6 x8 x9 x10 x55 x56 x57 =
    spec_AddEdge_l0 x6 x8 x9 x10 x55 x56 (w64 (x57 + 1)) :=
  (at_eq Γ X 10 [1, 1, 1, 1, 1, 0, 1, 0, 0, 1, 1, 1] _).trans (by kernel_rfl)
theorem spec_l02Draw_eq (a0 : ((List Int) × (Int × Int))) (a1 : Int) : spec_l02Draw a0 a1 =
    (spec_l01Below a0 (w64 (a1 - 1))).bind fun r1 =>
      spec_l02Draw_l0 r1.2 (0, ([] : List (Int × Int))) (1, ([] : List (Int × Int))) (w64 (2 + r1.1)) 1 :=
  (den_eq Γ X 11 rfl _).trans (by kernel_rfl)
theorem spec_l02Draw_l0_eq (x0 : ((List Int) × (Int × Int))) (x4 : (Int × (List (Int × Int)))) (x5 : (Int × (List (Int × Int)))) (x6 : Int) (x7 : Int) : spec_l02Draw_l0 x0 x4 x5 x6 x7 =
    cond (decide (x7 < x6))
      ((spec_l01Below x0 x7).bind fun r2 =>
        cond (decide (x5.2.length + ([(r2.1, x7)] : List (Int × Int)).length ≤ room))
          (spec_l02Draw_l0 r2.2 x4 (w64 (x7 + 1), x5.2 ++ ([(r2.1, x7)] : List (Int × Int))) x6 (w64 (x7 + 1)))
          (none))
      (spec_l02Draw_l2 x0 x4 x5 x6 (x6, ([] : List (Int × Int))) 0) :=
  (at_eq Γ X 11 [1, 1, 1, 0, 1, 0] _).trans (by kernel_rfl)
theorem spec_l02Draw_l2_eq (x0 : ((List Int) × (Int × Int))) (x4 : (Int × (List (Int × Int)))) (x5 : (Int × (List (Int × Int)))) (x6 : Int) (x9 : (Int × (List (Int × Int)))) (x10 : Int) : spec_l02Draw_l2 x0 x4 x5 x6 x9 x10 =
    cond (decide (x10 < x6))
      (spec_l02Draw_l4 x0 x4 x5 x6 x9 x10 (w64 (x10 + 1)))
      ((spec_l01Below x0 5).bind fun r4 =>
        spec_l02Draw_l8 r4.2 x4 x6 x9 r4.1) :=
  (at_eq Γ X 11 [1, 1, 1, 1, 1, 0, 1, 0] _).trans (by kernel_rfl)
theorem spec_l02Draw_l4_eq (x0 : ((List Int) × (Int × Int))) (x4 : (Int × (List (Int × Int)))) (x5 : (Int × (List (Int × Int)))) (x6 : Int) (x9 : (Int × (List (Int × Int)))) (x10 : Int) (x11 : Int) : spec_l02Draw_l4 x0 x4 x5 x6 x9 x10 x11 =
    cond (decide (x11 < x6))
      ((spec_Multiplicity x5 x10 x11).bind fun r3 =>
        spec_l02Draw_l6 x0 x4 x5 x6 x9 x10 x11 r3)
      (spec_l02Draw_l2 x0 x4 x5 x6 x9 (w64 (x10 + 1))) :=
  (at_eq Γ X 11 [1, 1, 1, 1, 1, 0, 1, 0, 0, 1, 0, 0, 1, 0] _).trans (by kernel_rfl)
theorem spec_l02Draw_l6_eq (x0 : ((List Int) × (Int × Int))) (x4 : (Int × (List (Int × Int)))) (x5 : (Int × (List (Int × Int)))) (x6 : Int) (x9 : (Int × (List (Int × Int)))) (x10 : Int) (x11 : Int) (x12 : Int) : spec_l02Draw_l6 x0 x4 x5 x6 x9 x10 x11 x12 =
    cond (decide (x12 > 0))
      (cond (decide (x9.2.length + ([(x10, x11)] : List (Int × Int)).length ≤ room))
        (spec_l02Draw_l6 x0 x4 x5 x6 (x9.1, x9.2 ++ ([(x10, x11)] : List (Int × Int))) x10 x11 (w64 (x12 - 1)))
        (none))
      (spec_l02Draw_l4 x0 x4 x5 x6 x9 x10 (w64 (x11 + 1))) :=
  (at_eq Γ X 11 [1, 1, 1, 1, 1, 0, 1, 0, 0, 1, 0, 0, 1, 0, 0, 1, 0, 0, 1, 0] _).trans (by kernel_rfl)
theorem spec_l02Draw_l8_eq (x0 : ((List Int) × (Int × Int))) (x4 : (Int × (List (Int × Int)))) (x6 : Int) (x9 : (Int × (List (Int × Int)))) (x13 : Int) : spec_l02Draw_l8 x0 x4 x6 x9 x13 =
    cond (decide (x13 > 0))
      ((spec_l01Below x0 x6).bind fun r5 =>
        (spec_l01Below r5.2 (w64 (x6 - 1))).bind fun r6 =>
          cond (decide (x6 = 0))
            (none)
            ((spec_AddEdge x9 r5.1 (Int.tmod (w64 ((w64 (r5.1 + 1)) + r6.1)) x6)).bind fun r7 =>
              cond (r7.2)
                (spec_l02Draw_l8 r6.2 x4 x6 r7.1 (w64 (x13 - 1)))
                (spec_l02Draw_l8 r6.2 x4 x6 x9 (w64 (x13 - 1)))))
      (some (x9, x0)) :=
  (at_eq Γ X 11 [1, 1, 1, 1, 1, 1, 0, 1, 0] _).trans (by kernel_rfl)
theorem spec_l02Graph_eq (a0 : ((List Int) × (Int × Int))) : spec_l02Graph a0 =
    (spec_l02Draw a0 5).bind fun r1 =>
      some (r1.1, r1.2) :=
  (den_eq Γ X 12 rfl _).trans (by kernel_rfl)
theorem spec_l03All_eq (a0 : Int) : spec_l03All a0 =
    spec_l03All_l0 a0 ([] : List Int) 0 :=
  (den_eq Γ X 13 rfl _).trans (by kernel_rfl)
theorem spec_l03All_l0_eq (x0 : Int) (x3 : (List Int)) (x4 : Int) : spec_l03All_l0 x0 x3 x4 =
    cond (decide (x4 < x0))
      (cond (decide (x3.length + ([x4] : List Int).length ≤ room))
        (spec_l03All_l0 x0 (x3 ++ ([x4] : List Int)) (w64 (x4 + 1)))
        (none))
      (some x3) :=
  (at_eq Γ X 13 [1, 1, 0, 1, 0] _).trans (by kernel_rfl)
theorem spec_IdentityMorphism_eq (a0 : (Int × (List (Int × Int)))) : spec_IdentityMorphism a0 =
    (spec_GraphOk a0).bind fun r1 =>
      cond (!r1)
        (some ((([] : List Int), ([] : List Int)), false))
        ((spec_l03All a0.1).bind fun r2 =>
          (spec_l03All (a0.2.length : Int)).bind fun r3 =>
            some ((r2, r3), true)) :=
  (den_eq Γ X 14 rfl _).trans (by kernel_rfl)
theorem spec_l01Pick_eq (a0 : ((List Int) × (Int × Int))) (a1 : (List Int)) : spec_l01Pick a0 a1 =
    (spec_l01Below a0 (a1.length : Int)).bind fun r1 =>
      cond (inside r1.1 a1.length)
        (some (a1.getD r1.1.toNat 0, r1.2))
        (none) :=
  (den_eq Γ X 15 rfl _).trans (by kernel_rfl)
theorem spec_l01Near_eq (a0 : ((List Int) × (Int × Int))) (a1 : Int) (a2 : Int) : spec_l01Near a0 a1 a2 =
    (spec_l01Below a0 12).bind fun r1 =>
      cond ((r1.1 : Int) == 0)
        (some (a1, r1.2))
        (cond ((r1.1 : Int) == 1)
          (some (a2, r1.2))
          (cond ((r1.1 : Int) == 2)
            (some (w64 (a1 - 1), r1.2))
            (cond ((r1.1 : Int) == 3)
              (some (w64 (a2 + 1), r1.2))
              (cond ((r1.1 : Int) == 4)
                ((spec_l01Pick r1.2 ([9223372036854775807, (-9223372036854775808), (-1), 0, 1000000000] : List Int)).bind fun r2 =>
                  some (r2.1, r2.2))
                (cond (decide (w64 (a2 - a1) > 60000))
                  ((spec_l01Below r1.2 60000).bind fun r3 =>
                    some (w64 (a1 + r3.1), r3.2))
                  ((spec_l01Below r1.2 (w64 ((w64 (a2 - a1)) + 1))).bind fun r4 =>
                    some (w64 (a1 + r4.1), r4.2))))))) :=
  (den_eq Γ X 16 rfl _).trans (by kernel_rfl)
theorem spec_l02Any_eq (a0 : ((List Int) × (Int × Int))) : spec_l02Any a0 =
    (spec_l02Graph a0).bind fun r1 =>
      (spec_l01Below r1.2 14).bind fun r2 =>
        cond ((r2.1 : Int) == 0)
          ((spec_l01Near r2.2 1 6).bind fun r3 =>
            some ((r3.1, r1.1.2), r3.2))
          (cond ((r2.1 : Int) == 1)
            (cond (decide (0 ≤ 1) && decide (1 ≤ (r1.1.2.length : Int)) && decide ((r1.1.2.length : Int) ≤ (r1.1.2.length : Int)))
              (some ((r1.1.1, (r1.1.2.take ((r1.1.2.length : Int).toNat)).drop 1), r2.2))
              (none))
            (cond ((r2.1 : Int) == 2)
              ((spec_l01Near r2.2 0 (w64 (r1.1.1 - 1))).bind fun r4 =>
                cond (inside 0 r1.1.2.length)
                  (some ((r1.1.1, r1.1.2.set 0 (r4.1, (r1.1.2.getD 0 (0, 0)).2)), r4.2))
                  (none))
              (cond ((r2.1 : Int) == 3)
                (cond (inside 0 r1.1.2.length)
                  (cond (decide (r1.1.2.length + ([r1.1.2.getD 0 (0, 0)] : List (Int × Int)).length ≤ room))
                    (some ((r1.1.1, r1.1.2 ++ ([r1.1.2.getD 0 (0, 0)] : List (Int × Int))), r2.2))
                    (none))
                  (none))
                (some (r1.1, r2.2))))) :=
  (den_eq Γ X 17 rfl _).trans (by kernel_rfl)
theorem spec_l16Case_eq (a0 : ((List Int) × (Int × Int))) : spec_l16Case a0 =
    (spec_l02Graph a0).bind fun r1 =>
      (spec_IdentityMorphism r1.1).bind fun r2 =>
        (spec_l01Below r1.2 4).bind fun r3 =>
          cond ((r3.1 : Int) == 0)
            ((spec_l01Below r3.2 4).bind fun r4 =>
              spec_l16Case_l1 r4.2 (0, ([] : List (Int × Int))) (0, ([] : List (Int × Int))) (([] : List Int), ([] : List Int)) (2, ([] : List (Int × Int))) (2, ([(0, 1)] : List (Int × Int))) (([0, 1] : List Int), ([] : List Int)) (w64 (1 + r4.1)) 0)
            (cond ((r3.1 : Int) == 1)
              ((spec_l01Below r3.2 10).bind fun r9 =>
                spec_l16Case_c20 r9.2 (0, ([] : List (Int × Int))) (0, ([] : List (Int × Int))) (([] : List Int), ([] : List Int)) (4, ([(0, 1), (0, 3), (1, 2), (2, 3)] : List (Int × Int))) (3, ([(0, 1), (1, 2)] : List (Int × Int))) (([0, 1, 2, 1] : List Int), ([0, 0, 1, 1] : List Int)) r9.1)
              ((spec_l01Below r3.2 10).bind fun r10 =>
                spec_l16Case_c20 r10.2 (0, ([] : List (Int × Int))) (0, ([] : List (Int × Int))) (([] : List Int), ([] : List Int)) r1.1 r1.1 r2.1 r10.1)) :=
  (den_eq Γ X 18 rfl _).trans (by kernel_rfl)
theorem spec_l16Case_l1_eq (x0 : ((List Int) × (Int × Int))) (x2 : (Int × (List (Int × Int)))) (x3 : (Int × (List (Int × Int)))) (x4 : ((List Int) × (List Int))) (x5 : (Int × (List (Int × Int)))) (x6 : (Int × (List (Int × Int)))) (x7 : ((List Int) × (List Int))) (x9 : Int) (x10 : Int) : spec_l16Case_l1 x0 x2 x3 x4 x5 x6 x7 x9 x10 =
    cond (decide (x10 < x9))
      (cond (decide (x5.2.length + ([(0, 1)] : List (Int × Int)).length ≤ room))
        (cond (decide (x7.2.length + ([0] : List Int).length ≤ room))
          (spec_l16Case_l1 x0 x2 x3 x4 (x5.1, x5.2 ++ ([(0, 1)] : List (Int × Int))) x6 (x7.1, x7.2 ++ ([0] : List Int)) x9 (w64 (x10 + 1)))
          (none))
        (none))
      ((spec_l01Below x0 10).bind fun r5 =>
        spec_l16Case_c20 r5.2 x2 x3 x4 x5 x6 x7 r5.1) :=
  (at_eq Γ X 18 [1, 1, 1, 1, 0, 1, 0, 1, 0, 1, 1, 1, 1, 1, 0] _).trans (by kernel_rfl)
theorem spec_l16Case_c20_eq (x0 : ((List Int) × (Int × Int))) (x2 : (Int × (List (Int × Int)))) (x3 : (Int × (List (Int × Int)))) (x4 : ((List Int) × (List Int))) (x5 : (Int × (List (Int × Int)))) (x6 : (Int × (List (Int × Int)))) (x7 : ((List Int) × (List Int))) (x64 : Int) : spec_l16Case_c20 x0 x2 x3 x4 x5 x6 x7 x64 =
    cond ((x64 : Int) == 0)
      ((spec_l01Near x0 0 (w64 (x6.1 - 1))).bind fun r6 =>
        cond (inside 0 x7.1.length)
          (some (x5, x6, (x7.1.set 0 r6.1, x7.2), r6.2))
          (none))
      (cond ((x64 : Int) == 1)
        ((spec_l01Near x0 (-1) (w64 ((x6.2.length : Int) - 1))).bind fun r7 =>
          cond (inside 0 x7.2.length)
            (some (x5, x6, (x7.1, x7.2.set 0 r7.1), r7.2))
            (none))
        (cond ((x64 : Int) == 2)
          ((spec_l02Any x0).bind fun r8 =>
            some (x5, r8.1, x7, r8.2))
          (some (x5, x6, x7, x0)))) :=
  (at_eq Γ X 18 [1, 1, 1, 1, 1, 0, 1, 0, 0] _).trans (by kernel_rfl)
theorem spec_MorphismOk_eq (a0 : (Int × (List (Int × Int)))) (a1 : (Int × (List (Int × Int)))) (a2 : ((List Int) × (List Int))) : spec_MorphismOk a0 a1 a2 =
    (spec_GraphOk a0).bind fun r1 =>
      cond (!r1)
        (some false)
        ((spec_GraphOk a1).bind fun r2 =>
          cond (!r2)
            (some false)
            (cond (((a2.1.length : Int) : Int) != a0.1)
              (some false)
              (cond (((a2.2.length : Int) : Int) != (a0.2.length : Int))
                (some false)
                (spec_MorphismOk_l0 a0 a1 a2 a2.1 (a2.1.length : Int) 0)))) :=
  (den_eq Γ X 19 rfl _).trans (by kernel_rfl)
theorem spec_MorphismOk_l0_eq (x3 : (Int × (List (Int × Int)))) (x4 : (Int × (List (Int × Int)))) (x5 : ((List Int) × (List Int))) (x40 : (List Int)) (x41 : Int) (x42 : Int) : spec_MorphismOk_l0 x3 x4 x5 x40 x41 x42 =
    cond (decide (x42 < x41))
      (cond (inside x42 x40.length)
        ((spec_l01In (x40.getD x42.toNat 0) 0 (w64 (x4.1 - 1))).bind fun r3 =>
          cond (!r3)
            (some false)
            (spec_MorphismOk_l0 x3 x4 x5 x40 x41 (w64 (x42 + 1))))
        (none))
      (spec_MorphismOk_l2 x4 x5 x3.2 (x3.2.length : Int) 0) :=
  (at_eq Γ X 19 [1, 1, 0, 1, 0] _).trans (by kernel_rfl)
theorem spec_MorphismOk_l2_eq (x4 : (Int × (List (Int × Int)))) (x5 : ((List Int) × (List Int))) (x54 : (List (Int × Int))) (x55 : Int) (x56 : Int) : spec_MorphismOk_l2 x4 x5 x54 x55 x56 =
    cond (decide (x56 < x55))
      (cond (inside x56 x54.length)
        (cond (inside ((x54.getD x56.toNat (0, 0)).1) x5.1.length)
          (cond (inside ((x54.getD x56.toNat (0, 0)).2) x5.1.length)
            (cond (inside x56 x5.2.length)
              (cond (((x5.2.getD x56.toNat 0) : Int) == (-1))
                (cond (((x5.1.getD (((x54.getD x56.toNat (0, 0)).1).toNat) 0) : Int) != (x5.1.getD (((x54.getD x56.toNat (0, 0)).2).toNat) 0))
                  (some false)
                  (spec_MorphismOk_c20 x4 x5 x54 x55 x56))
                ((spec_l01In (x5.2.getD x56.toNat 0) 0 (w64 ((x4.2.length : Int) - 1))).bind fun r4 =>
                  cond (!r4)
                    (some false)
                    (cond (inside (x5.2.getD x56.toNat 0) x4.2.length)
                      (cond ((((x4.2.getD ((x5.2.getD x56.toNat 0).toNat) (0, 0)).1) : Int) != (imin (x5.1.getD (((x54.getD x56.toNat (0, 0)).1).toNat) 0) (x5.1.getD (((x54.getD x56.toNat (0, 0)).2).toNat) 0)))
                        (some false)
                        (cond (inside (x5.2.getD x56.toNat 0) x4.2.length)
                          (cond ((((x4.2.getD ((x5.2.getD x56.toNat 0).toNat) (0, 0)).2) : Int) != (imax (x5.1.getD (((x54.getD x56.toNat (0, 0)).1).toNat) 0) (x5.1.getD (((x54.getD x56.toNat (0, 0)).2).toNat) 0)))
                            (some false)
                            (spec_MorphismOk_c20 x4 x5 x54 x55 x56))
                          (none)))
                      (none))))
              (none))
            (none))
          (none))
        (none))
      (some true) :=
  (at_eq Γ X 19 [1, 1, 1, 0, 1, 0] _).trans (by kernel_rfl)
theorem spec_MorphismOk_c20_eq (x4 : (Int × (List (Int × Int)))) (x5 : ((List Int) × (List Int))) (x54 : (List (Int × Int))) (x55 : Int) (x56 : Int) : spec_MorphismOk_c20 x4 x5 x54 x55 x56 =
    spec_MorphismOk_l2 x4 x5 x54 x55 (w64 (x56 + 1)) :=
  (at_eq Γ X 19 [1, 1, 1, 0, 1, 0, 0, 1, 1, 1] _).trans (by kernel_rfl)
theorem spec_l16Over_eq (a0 : (Int × (List (Int × Int)))) (a1 : ((List Int) × (List Int))) (a2 : Int) (a3 : Int) : spec_l16Over a0 a1 a2 a3 =
    spec_l16Over_l0 a2 a3 a1 0 a0.2 (a0.2.length : Int) 0 :=
  (den_eq Γ X 20 rfl _).trans (by kernel_rfl)
theorem spec_l16Over_l0_eq (x2 : Int) (x3 : Int) (x5 : ((List Int) × (List Int))) (x9 : Int) (x13 : (List (Int × Int))) (x14 : Int) (x15 : Int) : spec_l16Over_l0 x2 x3 x5 x9 x13 x14 x15 =
    cond (decide (x15 < x14))
      (cond (inside x15 x13.length)
        (cond ((((x13.getD x15.toNat (0, 0)).1) : Int) == x2)
          (cond (inside x15 x5.2.length)
            (cond (((x5.2.getD x15.toNat 0) : Int) == x3)
              (spec_l16Over_l0 x2 x3 x5 (w64 (x9 + 1)) x13 x14 (w64 (x15 + 1)))
              (spec_l16Over_l0 x2 x3 x5 x9 x13 x14 (w64 (x15 + 1))))
            (none))
          (cond ((((x13.getD x15.toNat (0, 0)).2) : Int) == x2)
            (cond (inside x15 x5.2.length)
              (cond (((x5.2.getD x15.toNat 0) : Int) == x3)
                (spec_l16Over_l0 x2 x3 x5 (w64 (x9 + 1)) x13 x14 (w64 (x15 + 1)))
                (spec_l16Over_l0 x2 x3 x5 x9 x13 x14 (w64 (x15 + 1))))
              (none))
            (spec_l16Over_l0 x2 x3 x5 x9 x13 x14 (w64 (x15 + 1)))))
        (none))
      (some x9) :=
  (at_eq Γ X 20 [1, 1, 0, 1, 0] _).trans (by kernel_rfl)
theorem spec_l16Horizontal_eq (a0 : (Int × (List (Int × Int)))) (a1 : (Int × (List (Int × Int)))) (a2 : ((List Int) × (List Int))) (a3 : Int) : spec_l16Horizontal a0 a1 a2 a3 =
    spec_l16Horizontal_l0 a3 a0 a2 0 true a1.2 (a1.2.length : Int) 0 :=
  (den_eq Γ X 21 rfl _).trans (by kernel_rfl)
theorem spec_l16Horizontal_l0_eq (x3 : Int) (x4 : (Int × (List (Int × Int)))) (x6 : ((List Int) × (List Int))) (x9 : Int) (x10 : Bool) (x15 : (List (Int × Int))) (x16 : Int) (x17 : Int) : spec_l16Horizontal_l0 x3 x4 x6 x9 x10 x15 x16 x17 =
    cond (decide (x17 < x16))
      (cond (inside x17 x15.length)
        (cond (inside x3 x6.1.length)
          (cond ((((x15.getD x17.toNat (0, 0)).1) : Int) != (x6.1.getD x3.toNat 0))
            (cond (inside x3 x6.1.length)
              (cond ((((x15.getD x17.toNat (0, 0)).2) : Int) != (x6.1.getD x3.toNat 0))
                (spec_l16Horizontal_c12 x3 x4 x6 x9 x10 x15 x16 x17)
                ((spec_l16Over x4 x6 x3 x17).bind fun r1 =>
                  cond (!x10)
                    (cond ((r1 : Int) != x9)
                      (some (-1))
                      (spec_l16Horizontal_c12 x3 x4 x6 r1 false x15 x16 x17))
                    (spec_l16Horizontal_c12 x3 x4 x6 r1 false x15 x16 x17)))
              (none))
            ((spec_l16Over x4 x6 x3 x17).bind fun r2 =>
              cond (!x10)
                (cond ((r2 : Int) != x9)
                  (some (-1))
                  (spec_l16Horizontal_c12 x3 x4 x6 r2 false x15 x16 x17))
                (spec_l16Horizontal_c12 x3 x4 x6 r2 false x15 x16 x17)))
          (none))
        (none))
      (some x9) :=
  (at_eq Γ X 21 [1, 1, 1, 0, 1, 0] _).trans (by kernel_rfl)
theorem spec_l16Horizontal_c12_eq (x3 : Int) (x4 : (Int × (List (Int × Int)))) (x6 : ((List Int) × (List Int))) (x9 : Int) (x10 : Bool) (x15 : (List (Int × Int))) (x16 : Int) (x17 : Int) : spec_l16Horizontal_c12 x3 x4 x6 x9 x10 x15 x16 x17 =
    spec_l16Horizontal_l0 x3 x4 x6 x9 x10 x15 x16 (w64 (x17 + 1)) :=
  (at_eq Γ X 21 [1, 1, 1, 0, 1, 0, 0, 1, 1, 1] _).trans (by kernel_rfl)
theorem spec_IsHarmonic_eq (a0 : (Int × (List (Int × Int)))) (a1 : (Int × (List (Int × Int)))) (a2 : ((List Int) × (List Int))) : spec_IsHarmonic a0 a1 a2 =
    (spec_MorphismOk a0 a1 a2).bind fun r1 =>
      cond (!r1)
        (some false)
        (spec_IsHarmonic_l0 a0 a1 a2 0) :=
  (den_eq Γ X 22 rfl _).trans (by kernel_rfl)
theorem spec_IsHarmonic_l0_eq (x3 : (Int × (List (Int × Int)))) (x4 : (Int × (List (Int × Int)))) (x5 : ((List Int) × (List Int))) (x7 : Int) : spec_IsHarmonic_l0 x3 x4 x5 x7 =
    cond (decide (x7 < x3.1))
      ((spec_l16Horizontal x3 x4 x5 x7).bind fun r2 =>
        cond (decide (r2 < 0))
          (some false)
          (spec_IsHarmonic_l0 x3 x4 x5 (w64 (x7 + 1))))
      (some true) :=
  (at_eq Γ X 22 [1, 1, 0, 1, 0] _).trans (by kernel_rfl)
theorem spec_MakeMorphism_eq (a0 : (List Int)) : spec_MakeMorphism a0 =
    (spec_l01New a0).bind fun r1 =>
      spec_MakeMorphism_l0 (0, ([] : List (Int × Int))) (0, ([] : List (Int × Int))) (([] : List Int), ([] : List Int)) 0 r1 :=
  (den_eq Γ X 23 rfl _).trans (by kernel_rfl)
theorem spec_MakeMorphism_l0_eq (x2 : (Int × (List (Int × Int)))) (x3 : (Int × (List (Int × Int)))) (x4 : ((List Int) × (List Int))) (x6 : Int) (x14 : ((List Int) × (Int × Int))) : spec_MakeMorphism_l0 x2 x3 x4 x6 x14 =
    cond (decide (x6 < 9))
      ((spec_l16Case x14).bind fun r2 =>
        (spec_IsHarmonic r2.1 r2.2.1 r2.2.2.1).bind fun r3 =>
          cond (r3)
            (some (r2.1, r2.2.1, r2.2.2.1))
            (spec_MakeMorphism_l0 x2 x3 x4 (w64 (x6 + 1)) r2.2.2.2))
      ((spec_l02Graph x14).bind fun r4 =>
        (spec_IdentityMorphism r4.1).bind fun r5 =>
          some (r4.1, r4.1, r5.1)) :=
  (at_eq Γ X 23 [1, 1, 0, 1, 0] _).trans (by kernel_rfl)
theorem impl_within_eq (a0 : Int) (a1 : Int) (a2 : Int) : impl_within a0 a1 a2 =
    cond (decide (a0 ≥ a1))
      (some (decide (a0 ≤ a2)))
      (some false) :=
  (den_eq Γ X 24 rfl _).trans (by kernel_rfl)
theorem impl_EdgesOk_eq (a0 : (Int × (List (Int × Int)))) : impl_EdgesOk a0 =
    (impl_within a0.1 1 6).bind fun r1 =>
      cond (!r1)
        (some false)
        (cond (decide ((a0.2.length : Int) > 12))
          (some false)
          (impl_EdgesOk_l0 a0 a0.2 (a0.2.length : Int) 0)) :=
  (den_eq Γ X 25 rfl _).trans (by kernel_rfl)
theorem impl_EdgesOk_l0_eq (x1 : (Int × (List (Int × Int)))) (x16 : (List (Int × Int))) (x17 : Int) (x18 : Int) : impl_EdgesOk_l0 x1 x16 x17 x18 =
    cond (decide (x18 < x17))
      (cond (inside x18 x16.length)
        (cond (decide ((x16.getD x18.toNat (0, 0)).1 < 0))
          (some false)
          (cond (decide ((x16.getD x18.toNat (0, 0)).1 ≥ (x16.getD x18.toNat (0, 0)).2))
            (some false)
            (cond (decide ((x16.getD x18.toNat (0, 0)).2 ≥ x1.1))
              (some false)
              (impl_EdgesOk_l0 x1 x16 x17 (w64 (x18 + 1))))))
        (none))
      (some true) :=
  (at_eq Γ X 25 [1, 1, 0, 1, 0] _).trans (by kernel_rfl)
theorem cmp_isNaN_int_eq (a0 : Int) : cmp_isNaN_int a0 =
    some ((a0 : Int) != a0) :=
  (den_eq Γ X 26 rfl _).trans (by kernel_rfl)
theorem cmp_Compare_int_eq (a0 : Int) (a1 : Int) : cmp_Compare_int a0 a1 =
    (cmp_isNaN_int a0).bind fun r1 =>
      (cmp_isNaN_int a1).bind fun r2 =>
        cond (r1)
          (cond (r2)
            (some 0)
            (some (-1)))
          (cond (r2)
            (some 1)
            (cond (decide (a0 < a1))
              (some (-1))
              (cond (decide (a0 > a1))
                (some 1)
                (some 0)))) :=
  (den_eq Γ X 27 rfl _).trans (by kernel_rfl)
theorem impl_compareEdges_eq (a0 : (Int × Int)) (a1 : (Int × Int)) : impl_compareEdges a0 a1 =
    (cmp_Compare_int a0.1 a1.1).bind fun r1 =>
      cond ((r1 : Int) != 0)
        (some r1)
        ((cmp_Compare_int a0.2 a1.2).bind fun r2 =>
          some r2) :=
  (den_eq Γ X 28 rfl _).trans (by kernel_rfl)
theorem impl_Edge__compareEdges_eq (a0 : (List (Int × Int))) : impl_Edge__compareEdges a0 =
    impl_Edge__compareEdges_l0 a0 (w64 ((a0.length : Int) - 1)) :=
  (den_eq Γ X 29 rfl _).trans (by kernel_rfl)
theorem impl_Edge__compareEdges_l0_eq (x0 : (List (Int × Int))) (x5 : Int) : impl_Edge__compareEdges_l0 x0 x5 =
    cond (decide (x5 > 0))
      (cond (inside x5 x0.length)
        (cond (inside (w64 (x5 - 1)) x0.length)
          ((impl_compareEdges (x0.getD x5.toNat (0, 0)) (x0.getD ((w64 (x5 - 1)).toNat) (0, 0))).bind fun r1 =>
            cond (decide (r1 < 0))
              (some false)
              (impl_Edge__compareEdges_l0 x0 (w64 (x5 - 1))))
          (none))
        (none))
      (some true) :=
  (at_eq Γ X 29 [1, 0, 1, 0] _).trans (by kernel_rfl)
theorem impl_connected_eq (a0 : Int) (a1 : (List (Int × Int))) : impl_connected a0 a1 =
    impl_connected_l0 a0 a1 1 a0 0 :=
  (den_eq Γ X 30 rfl _).trans (by kernel_rfl)
theorem impl_connected_l0_eq (x0 : Int) (x1 : (List (Int × Int))) (x5 : Int) (x8 : Int) (x9 : Int) : impl_connected_l0 x0 x1 x5 x8 x9 =
    cond (decide (x9 < x8))
      (impl_connected_l2 x0 x1 x5 x8 x9 x1 (x1.length : Int) 0)
      (cond (decide (x0 < 0))
        (none)
        (some ((x5 : Int) == (w64 ((w64 (1 * 2 ^ (min x0.toNat 64))) - 1))))) :=
  (at_eq Γ X 30 [1, 1, 0, 1, 0] _).trans (by kernel_rfl)
theorem impl_connected_l2_eq (x0 : Int) (x1 : (List (Int × Int))) (x5 : Int) (x8 : Int) (x9 : Int) (x11 : (List (Int × Int))) (x12 : Int) (x13 : Int) : impl_connected_l2 x0 x1 x5 x8 x9 x11 x12 x13 =
    cond (decide (x13 < x12))
      (cond (inside x13 x11.length)
        (cond (decide ((x11.getD x13.toNat (0, 0)).1 < 0))
          (none)
          (cond (((bits .and .i64 (Int.fdiv x5 (2 ^ (min ((x11.getD x13.toNat (0, 0)).1).toNat 64))) 1) : Int) == 1)
            (cond (decide ((x11.getD x13.toNat (0, 0)).1 < 0))
              (none)
              (cond (decide ((x11.getD x13.toNat (0, 0)).2 < 0))
                (none)
                (impl_connected_l2 x0 x1 (bits .or .i64 x5 (bits .or .i64 (w64 (1 * 2 ^ (min ((x11.getD x13.toNat (0, 0)).1).toNat 64))) (w64 (1 * 2 ^ (min ((x11.getD x13.toNat (0, 0)).2).toNat 64))))) x8 x9 x11 x12 (w64 (x13 + 1)))))
            (cond (decide ((x11.getD x13.toNat (0, 0)).2 < 0))
              (none)
              (cond (((bits .and .i64 (Int.fdiv x5 (2 ^ (min ((x11.getD x13.toNat (0, 0)).2).toNat 64))) 1) : Int) == 1)
                (cond (decide ((x11.getD x13.toNat (0, 0)).1 < 0))
                  (none)
                  (cond (decide ((x11.getD x13.toNat (0, 0)).2 < 0))
                    (none)
                    (impl_connected_l2 x0 x1 (bits .or .i64 x5 (bits .or .i64 (w64 (1 * 2 ^ (min ((x11.getD x13.toNat (0, 0)).1).toNat 64))) (w64 (1 * 2 ^ (min ((x11.getD x13.toNat (0, 0)).2).toNat 64))))) x8 x9 x11 x12 (w64 (x13 + 1)))))
                (impl_connected_l2 x0 x1 x5 x8 x9 x11 x12 (w64 (x13 + 1)))))))
        (none))
      (impl_connected_l0 x0 x1 x5 x8 (w64 (x9 + 1))) :=
  (at_eq Γ X 30 [1, 1, 0, 1, 0, 0, 1, 1, 0, 0, 1, 0] _).trans (by kernel_rfl)
theorem impl_GraphOk_eq (a0 : (Int × (List (Int × Int)))) : impl_GraphOk a0 =
    (impl_EdgesOk a0).bind fun r1 =>
      cond (r1)
        ((impl_Edge__compareEdges a0.2).bind fun r2 =>
          cond (r2)
            ((impl_connected a0.1 a0.2).bind fun r3 =>
              some r3)
            (some false))
        (some false) :=
  (den_eq Γ X 31 rfl _).trans (by kernel_rfl)
theorem impl_allWithin_eq (a0 : (List Int)) (a1 : Int) (a2 : Int) : impl_allWithin a0 a1 a2 =
    impl_allWithin_l0 a1 a2 a0 (a0.length : Int) 0 :=
  (den_eq Γ X 32 rfl _).trans (by kernel_rfl)
theorem impl_allWithin_l0_eq (x1 : Int) (x2 : Int) (x9 : (List Int)) (x10 : Int) (x11 : Int) : impl_allWithin_l0 x1 x2 x9 x10 x11 =
    cond (decide (x11 < x10))
      (cond (inside x11 x9.length)
        ((impl_within (x9.getD x11.toNat 0) x1 x2).bind fun r1 =>
          cond (!r1)
            (some false)
            (impl_allWithin_l0 x1 x2 x9 x10 (w64 (x11 + 1))))
        (none))
      (some true) :=
  (at_eq Γ X 32 [1, 0, 1, 0] _).trans (by kernel_rfl)
theorem impl_MorphismOk_eq (a0 : (Int × (List (Int × Int)))) (a1 : (Int × (List (Int × Int)))) (a2 : ((List Int) × (List Int))) : impl_MorphismOk a0 a1 a2 =
    (impl_GraphOk a0).bind fun r1 =>
      cond (!r1)
        (some false)
        ((impl_GraphOk a1).bind fun r2 =>
          cond (!r2)
            (some false)
            (cond (((a2.1.length : Int) : Int) != a0.1)
              (some false)
              (cond (((a2.2.length : Int) : Int) != (a0.2.length : Int))
                (some false)
                ((impl_allWithin a2.1 0 (w64 (a1.1 - 1))).bind fun r3 =>
                  cond (!r3)
                    (some false)
                    ((impl_allWithin a2.2 (-1) (w64 ((a1.2.length : Int) - 1))).bind fun r4 =>
                      cond (!r4)
                        (some false)
                        (impl_MorphismOk_c3 a0 a1 a2)))))) :=
  (den_eq Γ X 33 rfl _).trans (by kernel_rfl)
theorem impl_MorphismOk_l0_eq (x3 : (Int × (List (Int × Int)))) (x4 : (Int × (List (Int × Int)))) (x5 : ((List Int) × (List Int))) (x56 : (List Int)) (x57 : Int) (x58 : Int) : impl_MorphismOk_l0 x3 x4 x5 x56 x57 x58 =
    cond (decide (x58 < x57))
      (cond (inside x58 x56.length)
        (cond (inside x58 x3.2.length)
          (cond (inside ((x3.2.getD x58.toNat (0, 0)).1) x5.1.length)
            (cond (inside x58 x3.2.length)
              (cond (inside ((x3.2.getD x58.toNat (0, 0)).2) x5.1.length)
                (cond (((x56.getD x58.toNat 0) : Int) == (-1))
                  (cond (((x5.1.getD (((x3.2.getD x58.toNat (0, 0)).1).toNat) 0) : Int) != (x5.1.getD (((x3.2.getD x58.toNat (0, 0)).2).toNat) 0))
                    (some false)
                    (cond (decide (x56.getD x58.toNat 0 ≥ 0))
                      (cond (inside (x56.getD x58.toNat 0) x4.2.length)
                        (cond (!(((((x4.2.getD ((x56.getD x58.toNat 0).toNat) (0, 0)).1) : Int) == (imin (x5.1.getD (((x3.2.getD x58.toNat (0, 0)).1).toNat) 0) (x5.1.getD (((x3.2.getD x58.toNat (0, 0)).2).toNat) 0))) && ((((x4.2.getD ((x56.getD x58.toNat 0).toNat) (0, 0)).2) : Int) == (imax (x5.1.getD (((x3.2.getD x58.toNat (0, 0)).1).toNat) 0) (x5.1.getD (((x3.2.getD x58.toNat (0, 0)).2).toNat) 0)))))
                          (some false)
                          (impl_MorphismOk_c9 x3 x4 x5 x56 x57 x58))
                        (none))
                      (impl_MorphismOk_c9 x3 x4 x5 x56 x57 x58)))
                  (cond (decide (x56.getD x58.toNat 0 ≥ 0))
                    (cond (inside (x56.getD x58.toNat 0) x4.2.length)
                      (cond (!(((((x4.2.getD ((x56.getD x58.toNat 0).toNat) (0, 0)).1) : Int) == (imin (x5.1.getD (((x3.2.getD x58.toNat (0, 0)).1).toNat) 0) (x5.1.getD (((x3.2.getD x58.toNat (0, 0)).2).toNat) 0))) && ((((x4.2.getD ((x56.getD x58.toNat 0).toNat) (0, 0)).2) : Int) == (imax (x5.1.getD (((x3.2.getD x58.toNat (0, 0)).1).toNat) 0) (x5.1.getD (((x3.2.getD x58.toNat (0, 0)).2).toNat) 0)))))
                        (some false)
                        (impl_MorphismOk_c9 x3 x4 x5 x56 x57 x58))
                      (none))
                    (impl_MorphismOk_c9 x3 x4 x5 x56 x57 x58)))
                (none))
              (none))
            (none))
          (none))
        (none))
      (some true) :=
  (at_eq Γ X 33 [1, 1, 0, 1, 0] _).trans (by kernel_rfl)
theorem impl_MorphismOk_c3_eq (x3 : (Int × (List (Int × Int)))) (x4 : (Int × (List (Int × Int)))) (x5 : ((List Int) × (List Int))) : impl_MorphismOk_c3 x3 x4 x5 =
    impl_MorphismOk_l0 x3 x4 x5 x5.2 (x5.2.length : Int) 0 :=
  (at_eq Γ X 33 [1, 1, 0, 0] _).trans (by kernel_rfl)
theorem impl_MorphismOk_c9_eq (x3 : (Int × (List (Int × Int)))) (x4 : (Int × (List (Int × Int)))) (x5 : ((List Int) × (List Int))) (x56 : (List Int)) (x57 : Int) (x58 : Int) : impl_MorphismOk_c9 x3 x4 x5 x56 x57 x58 =
    impl_MorphismOk_l0 x3 x4 x5 x56 x57 (w64 (x58 + 1)) :=
  (at_eq Γ X 33 [1, 1, 0, 1, 0, 0, 1, 1, 1] _).trans (by kernel_rfl)
theorem impl_isAt_eq (a0 : (Int × (List (Int × Int)))) (a1 : Int) (a2 : Int) : impl_isAt a0 a1 a2 =
    (impl_within a1 0 (w64 ((a0.2.length : Int) - 1))).bind fun r1 =>
      cond (r1)
        (cond (inside a1 a0.2.length)
          (cond ((((a0.2.getD a1.toNat (0, 0)).1) : Int) == a2)
            (some true)
            (cond (inside a1 a0.2.length)
              (some ((((a0.2.getD a1.toNat (0, 0)).2) : Int) == a2))
              (none)))
          (none))
        (some false) :=
  (den_eq Γ X 34 rfl _).trans (by kernel_rfl)
theorem impl_multiplicities_eq (a0 : (Int × (List (Int × Int)))) (a1 : (Int × (List (Int × Int)))) (a2 : ((List Int) × (List Int))) (a3 : Int) : impl_multiplicities a0 a1 a2 a3 =
    impl_multiplicities_l0 a3 a0 a1 a2 ([] : List Int) (a1.2.length : Int) 0 :=
  (den_eq Γ X 35 rfl _).trans (by kernel_rfl)
theorem impl_multiplicities_l0_eq (x3 : Int) (x4 : (Int × (List (Int × Int)))) (x5 : (Int × (List (Int × Int)))) (x6 : ((List Int) × (List Int))) (x9 : (List Int)) (x16 : Int) (x17 : Int) : impl_multiplicities_l0 x3 x4 x5 x6 x9 x16 x17 =
    cond (decide (x17 < x16))
      (cond (inside x3 x6.1.length)
        ((impl_isAt x5 x17 (x6.1.getD x3.toNat 0)).bind fun r1 =>
          cond (!r1)
            (impl_multiplicities_l0 x3 x4 x5 x6 x9 x16 (w64 (x17 + 1)))
            (impl_multiplicities_l2 x3 x4 x5 x6 x9 x17 0 x16 x17 x6.2 (x6.2.length : Int) 0))
        (none))
      (some x9) :=
  (at_eq Γ X 35 [1, 1, 0, 1, 0] _).trans (by kernel_rfl)
theorem impl_multiplicities_l2_eq (x3 : Int) (x4 : (Int × (List (Int × Int)))) (x5 : (Int × (List (Int × Int)))) (x6 : ((List Int) × (List Int))) (x9 : (List Int)) (x10 : Int) (x11 : Int) (x16 : Int) (x17 : Int) (x30 : (List Int)) (x31 : Int) (x32 : Int) : impl_multiplicities_l2 x3 x4 x5 x6 x9 x10 x11 x16 x17 x30 x31 x32 =
    cond (decide (x32 < x31))
      (cond (inside x32 x30.length)
        (cond (((x30.getD x32.toNat 0) : Int) == x10)
          ((impl_isAt x4 x32 x3).bind fun r2 =>
            cond (r2)
              (impl_multiplicities_l2 x3 x4 x5 x6 x9 x10 (w64 (x11 + 1)) x16 x17 x30 x31 (w64 (x32 + 1)))
              (impl_multiplicities_l2 x3 x4 x5 x6 x9 x10 x11 x16 x17 x30 x31 (w64 (x32 + 1))))
          (impl_multiplicities_l2 x3 x4 x5 x6 x9 x10 x11 x16 x17 x30 x31 (w64 (x32 + 1))))
        (none))
      (cond (decide (x9.length + ([x11] : List Int).length ≤ room))
        (impl_multiplicities_l0 x3 x4 x5 x6 (x9 ++ ([x11] : List Int)) x16 (w64 (x17 + 1)))
        (none)) :=
  (at_eq Γ X 35 [1, 1, 0, 1, 0, 0, 1, 1, 0, 0, 1, 1, 1, 0, 1, 0] _).trans (by kernel_rfl)
theorem slices_Min_int_int_eq (a0 : (List Int)) : slices_Min_int_int a0 =
    cond (decide ((a0.length : Int) < 1))
      (none)
      (cond (inside 0 a0.length)
        (slices_Min_int_int_l0 a0 (a0.getD 0 0) 1)
        (none)) :=
  (den_eq Γ X 36 rfl _).trans (by kernel_rfl)
theorem slices_Min_int_int_l0_eq (x0 : (List Int)) (x3 : Int) (x4 : Int) : slices_Min_int_int_l0 x0 x3 x4 =
    cond (decide (x4 < (x0.length : Int)))
      (cond (inside x4 x0.length)
        (slices_Min_int_int_l0 x0 (imin x3 (x0.getD x4.toNat 0)) (w64 (x4 + 1)))
        (none))
      (some x3) :=
  (at_eq Γ X 36 [1, 1, 1, 0, 1, 0] _).trans (by kernel_rfl)
theorem slices_Max_int_int_eq (a0 : (List Int)) : slices_Max_int_int a0 =
    cond (decide ((a0.length : Int) < 1))
      (none)
      (cond (inside 0 a0.length)
        (slices_Max_int_int_l0 a0 (a0.getD 0 0) 1)
        (none)) :=
  (den_eq Γ X 37 rfl _).trans (by kernel_rfl)
theorem slices_Max_int_int_l0_eq (x0 : (List Int)) (x3 : Int) (x4 : Int) : slices_Max_int_int_l0 x0 x3 x4 =
    cond (decide (x4 < (x0.length : Int)))
      (cond (inside x4 x0.length)
        (slices_Max_int_int_l0 x0 (imax x3 (x0.getD x4.toNat 0)) (w64 (x4 + 1)))
        (none))
      (some x3) :=
  (at_eq Γ X 37 [1, 1, 1, 0, 1, 0] _).trans (by kernel_rfl)
theorem impl_IsHarmonic_eq (a0 : (Int × (List (Int × Int)))) (a1 : (Int × (List (Int × Int)))) (a2 : ((List Int) × (List Int))) : impl_IsHarmonic a0 a1 a2 =
    (impl_MorphismOk a0 a1 a2).bind fun r1 =>
      cond (!r1)
        (some false)
        (impl_IsHarmonic_l0 a0 a1 a2 (a2.1.length : Int) 0) :=
  (den_eq Γ X 38 rfl _).trans (by kernel_rfl)
theorem impl_IsHarmonic_l0_eq (x3 : (Int × (List (Int × Int)))) (x4 : (Int × (List (Int × Int)))) (x5 : ((List Int) × (List Int))) (x16 : Int) (x17 : Int) : impl_IsHarmonic_l0 x3 x4 x5 x16 x17 =
    cond (decide (x17 < x16))
      ((impl_multiplicities x3 x4 x5 x17).bind fun r2 =>
        cond (decide ((r2.length : Int) > 0))
          ((slices_Min_int_int r2).bind fun r3 =>
            (slices_Max_int_int r2).bind fun r4 =>
              cond ((r3 : Int) != r4)
                (some false)
                (impl_IsHarmonic_l0 x3 x4 x5 x16 (w64 (x17 + 1))))
          (impl_IsHarmonic_l0 x3 x4 x5 x16 (w64 (x17 + 1))))
      (some true) :=
  (at_eq Γ X 38 [1, 1, 0, 1, 0] _).trans (by kernel_rfl)
theorem impl_DegreeOfMorphism_eq (a0 : (Int × (List (Int × Int)))) (a1 : (Int × (List (Int × Int)))) (a2 : ((List Int) × (List Int))) : impl_DegreeOfMorphism a0 a1 a2 =
    (impl_IsHarmonic a0 a1 a2).bind fun r1 =>
      cond (!r1)
        (some (-1))
        (impl_DegreeOfMorphism_l0 0 a2.2 (a2.2.length : Int) 0) :=
  (den_eq Γ X 39 rfl _).trans (by kernel_rfl)
theorem impl_DegreeOfMorphism_l0_eq (x7 : Int) (x16 : (List Int)) (x17 : Int) (x18 : Int) : impl_DegreeOfMorphism_l0 x7 x16 x17 x18 =
    cond (decide (x18 < x17))
      (cond (inside x18 x16.length)
        (cond (((x16.getD x18.toNat 0) : Int) == 0)
          (impl_DegreeOfMorphism_l0 (w64 (x7 + 1)) x16 x17 (w64 (x18 + 1)))
          (impl_DegreeOfMorphism_l0 x7 x16 x17 (w64 (x18 + 1))))
        (none))
      (some x7) :=
  (at_eq Γ X 39 [1, 1, 1, 0, 1, 0] _).trans (by kernel_rfl)
theorem impl_HorizontalOf_eq (a0 : (Int × (List (Int × Int)))) (a1 : (Int × (List (Int × Int)))) (a2 : ((List Int) × (List Int))) (a3 : Int) : impl_HorizontalOf a0 a1 a2 a3 =
    (impl_IsHarmonic a0 a1 a2).bind fun r1 =>
      cond (!r1)
        (some (-1))
        ((impl_within a3 0 (w64 (a0.1 - 1))).bind fun r2 =>
          cond (!r2)
            (some (-1))
            ((impl_multiplicities a0 a1 a2 a3).bind fun r3 =>
              cond (((r3.length : Int) : Int) == 0)
                (some 0)
                (cond (inside 0 r3.length)
                  (some (r3.getD 0 0))
                  (none)))) :=
  (den_eq Γ X 40 rfl _).trans (by kernel_rfl)
theorem spec_l21New_eq (a0 : (List Int)) (a1 : Int) : spec_l21New a0 a1 =
    (spec_l01New a0).bind fun r1 =>
      spec_l21New_l0 a1 0 r1 :=
  (den_eq Γ X 41 rfl _).trans (by kernel_rfl)
theorem spec_l21New_l0_eq (x1 : Int) (x6 : Int) (x8 : ((List Int) × (Int × Int))) : spec_l21New_l0 x1 x6 x8 =
    cond (decide (x6 < x1))
      ((spec_l01Byte x8).bind fun r2 =>
        spec_l21New_l0 x1 (w64 (x6 + 1)) r2.2)
      (some x8) :=
  (at_eq Γ X 41 [1, 1, 0, 1, 0] _).trans (by kernel_rfl)
theorem spec_l04Draw_eq (a0 : ((List Int) × (Int × Int))) (a1 : (Int × (List (Int × Int)))) : spec_l04Draw a0 a1 =
    spec_l04Draw_l0 a0 a1 ([] : List Int) 0 :=
  (den_eq Γ X 42 rfl _).trans (by kernel_rfl)
theorem spec_l04Draw_l0_eq (x0 : ((List Int) × (Int × Int))) (x3 : (Int × (List (Int × Int)))) (x5 : (List Int)) (x6 : Int) : spec_l04Draw_l0 x0 x3 x5 x6 =
    cond (decide (x6 < x3.1))
      ((spec_l01Below x0 7).bind fun r1 =>
        (spec_l01Pick r1.2 ([0, 1, 2, (-1), 3, (-2), r1.1] : List Int)).bind fun r2 =>
          cond (decide (x5.length + ([r2.1] : List Int).length ≤ room))
            (spec_l04Draw_l0 r2.2 x3 (x5 ++ ([r2.1] : List Int)) (w64 (x6 + 1)))
            (none))
      (some (x5, x0)) :=
  (at_eq Γ X 42 [1, 1, 0, 1, 0] _).trans (by kernel_rfl)
theorem spec_MakeDivisor_eq (a0 : (List Int)) (a1 : Int) (a2 : (Int × (List (Int × Int)))) : spec_MakeDivisor a0 a1 a2 =
    (spec_l21New a0 a1).bind fun r1 =>
      (spec_l04Draw r1 a2).bind fun r2 =>
        some r2.1 :=
  (den_eq Γ X 43 rfl _).trans (by kernel_rfl)
theorem spec_MakeScript_eq (a0 : (List Int)) (a1 : Int) (a2 : (Int × (List (Int × Int)))) : spec_MakeScript a0 a1 a2 =
    (spec_l21New a0 a1).bind fun r1 =>
      spec_MakeScript_l0 a2 ([] : List Int) 0 r1 :=
  (den_eq Γ X 44 rfl _).trans (by kernel_rfl)
theorem spec_MakeScript_l0_eq (x5 : (Int × (List (Int × Int)))) (x8 : (List Int)) (x9 : Int) (x12 : ((List Int) × (Int × Int))) : spec_MakeScript_l0 x5 x8 x9 x12 =
    cond (decide (x9 < x5.1))
      ((spec_l01Below x12 7).bind fun r2 =>
        cond (decide (x8.length + ([w64 (r2.1 - 3)] : List Int).length ≤ room))
          (spec_MakeScript_l0 x5 (x8 ++ ([w64 (r2.1 - 3)] : List Int)) (w64 (x9 + 1)) r2.2)
          (none))
      (some x8) :=
  (at_eq Γ X 44 [1, 1, 1, 0, 1, 0] _).trans (by kernel_rfl)
theorem impl_DivisorOk_eq (a0 : (Int × (List (Int × Int)))) (a1 : (List Int)) : impl_DivisorOk a0 a1 =
    (impl_GraphOk a0).bind fun r1 =>
      cond (r1)
        (cond (((a1.length : Int) : Int) == a0.1)
          ((impl_allWithin a1 (-60) 60).bind fun r2 =>
            some r2)
          (some false))
        (some false) :=
  (den_eq Γ X 45 rfl _).trans (by kernel_rfl)
theorem impl_ScriptOk_eq (a0 : (Int × (List (Int × Int)))) (a1 : (List Int)) : impl_ScriptOk a0 a1 =
    (impl_GraphOk a0).bind fun r1 =>
      cond (r1)
        (cond (((a1.length : Int) : Int) == a0.1)
          ((impl_allWithin a1 (-100000) 100000).bind fun r2 =>
            some r2)
          (some false))
        (some false) :=
  (den_eq Γ X 46 rfl _).trans (by kernel_rfl)
theorem impl_copyInts_eq (a0 : (List Int)) : impl_copyInts a0 =
    cond (decide (([] : List Int).length + a0.length ≤ room))
      (some (([] : List Int) ++ a0))
      (none) :=
  (den_eq Γ X 47 rfl _).trans (by kernel_rfl)
theorem impl_fire_eq (a0 : (Int × (List (Int × Int)))) (a1 : (List Int)) (a2 : Int) (a3 : Int) : impl_fire a0 a1 a2 a3 =
    impl_fire_l0 a1 a2 a3 a0.2 (a0.2.length : Int) 0 :=
  (den_eq Γ X 48 rfl _).trans (by kernel_rfl)
theorem impl_fire_l0_eq (x1 : (List Int)) (x2 : Int) (x3 : Int) (x11 : (List (Int × Int))) (x12 : Int) (x13 : Int) : impl_fire_l0 x1 x2 x3 x11 x12 x13 =
    cond (decide (x13 < x12))
      (cond (inside x13 x11.length)
        (cond ((x2 : Int) == ((x11.getD x13.toNat (0, 0)).1))
          (cond (inside x2 x1.length)
            (cond (inside x2 x1.length)
              (cond (inside ((x11.getD x13.toNat (0, 0)).2) (x1.set x2.toNat (w64 ((x1.getD x2.toNat 0) - x3))).length)
                (cond (inside ((x11.getD x13.toNat (0, 0)).2) (x1.set x2.toNat (w64 ((x1.getD x2.toNat 0) - x3))).length)
                  (impl_fire_l0 ((x1.set x2.toNat (w64 ((x1.getD x2.toNat 0) - x3))).set (((x11.getD x13.toNat (0, 0)).2).toNat) (w64 (((x1.set x2.toNat (w64 ((x1.getD x2.toNat 0) - x3))).getD (((x11.getD x13.toNat (0, 0)).2).toNat) 0) + x3))) x2 x3 x11 x12 (w64 (x13 + 1)))
                  (none))
                (none))
              (none))
            (none))
          (cond ((x2 : Int) == ((x11.getD x13.toNat (0, 0)).2))
            (cond (inside x2 x1.length)
              (cond (inside x2 x1.length)
                (cond (inside ((x11.getD x13.toNat (0, 0)).1) (x1.set x2.toNat (w64 ((x1.getD x2.toNat 0) - x3))).length)
                  (cond (inside ((x11.getD x13.toNat (0, 0)).1) (x1.set x2.toNat (w64 ((x1.getD x2.toNat 0) - x3))).length)
                    (impl_fire_l0 ((x1.set x2.toNat (w64 ((x1.getD x2.toNat 0) - x3))).set (((x11.getD x13.toNat (0, 0)).1).toNat) (w64 (((x1.set x2.toNat (w64 ((x1.getD x2.toNat 0) - x3))).getD (((x11.getD x13.toNat (0, 0)).1).toNat) 0) + x3))) x2 x3 x11 x12 (w64 (x13 + 1)))
                    (none))
                  (none))
                (none))
              (none))
            (impl_fire_l0 x1 x2 x3 x11 x12 (w64 (x13 + 1)))))
        (none))
      (some x1) :=
  (at_eq Γ X 48 [1, 1, 0] _).trans (by kernel_rfl)
theorem impl_fired_eq (a0 : (Int × (List (Int × Int)))) (a1 : (List Int)) (a2 : (List Int)) : impl_fired a0 a1 a2 =
    (impl_copyInts a1).bind fun r1 =>
      impl_fired_l0 a0 r1 a2 (a2.length : Int) 0 :=
  (den_eq Γ X 49 rfl _).trans (by kernel_rfl)
theorem impl_fired_l0_eq (x3 : (Int × (List (Int × Int)))) (x7 : (List Int)) (x12 : (List Int)) (x13 : Int) (x14 : Int) : impl_fired_l0 x3 x7 x12 x13 x14 =
    cond (decide (x14 < x13))
      (cond (inside x14 x12.length)
        ((impl_fire x3 x7 x14 (x12.getD x14.toNat 0)).bind fun r2 =>
          impl_fired_l0 x3 r2 x12 x13 (w64 (x14 + 1)))
        (none))
      (some x7) :=
  (at_eq Γ X 49 [1, 1, 0, 1, 0] _).trans (by kernel_rfl)
theorem impl_FireScript_eq (a0 : (Int × (List (Int × Int)))) (a1 : (List Int)) (a2 : (List Int)) : impl_FireScript a0 a1 a2 =
    (impl_DivisorOk a0 a1).bind fun r1 =>
      cond (!r1)
        (some (([] : List Int), false))
        ((impl_ScriptOk a0 a2).bind fun r2 =>
          cond (!r2)
            (some (([] : List Int), false))
            ((impl_fired a0 a1 a2).bind fun r3 =>
              some (r3, true))) :=
  (den_eq Γ X 50 rfl _).trans (by kernel_rfl)
theorem impl_PushForward_eq (a0 : (Int × (List (Int × Int)))) (a1 : (Int × (List (Int × Int)))) (a2 : ((List Int) × (List Int))) (a3 : (List Int)) : impl_PushForward a0 a1 a2 a3 =
    (impl_IsHarmonic a0 a1 a2).bind fun r1 =>
      cond (!r1)
        (some (([] : List Int), false))
        ((impl_DivisorOk a0 a3).bind fun r2 =>
          cond (!r2)
            (some (([] : List Int), false))
            (cond (decide (0 ≤ a1.1) && decide (a1.1 ≤ (room : Int)))
              (impl_PushForward_l0 a2 (List.replicate a1.1.toNat (0 : Int)) a3 (a3.length : Int) 0)
              (none))) :=
  (den_eq Γ X 51 rfl _).trans (by kernel_rfl)
theorem impl_PushForward_l0_eq (x6 : ((List Int) × (List Int))) (x10 : (List Int)) (x27 : (List Int)) (x28 : Int) (x29 : Int) : impl_PushForward_l0 x6 x10 x27 x28 x29 =
    cond (decide (x29 < x28))
      (cond (inside x29 x27.length)
        (cond (inside x29 x6.1.length)
          (cond (inside (x6.1.getD x29.toNat 0) x10.length)
            (cond (inside (x6.1.getD x29.toNat 0) x10.length)
              (impl_PushForward_l0 x6 (x10.set ((x6.1.getD x29.toNat 0).toNat) (w64 ((x10.getD ((x6.1.getD x29.toNat 0).toNat) 0) + (x27.getD x29.toNat 0)))) x27 x28 (w64 (x29 + 1)))
              (none))
            (none))
          (none))
        (none))
      (some (x10, true)) :=
  (at_eq Γ X 51 [1, 1, 1, 0, 1, 0] _).trans (by kernel_rfl)
theorem impl_PullBack_eq (a0 : (Int × (List (Int × Int)))) (a1 : (Int × (List (Int × Int)))) (a2 : ((List Int) × (List Int))) (a3 : (List Int)) : impl_PullBack a0 a1 a2 a3 =
    (impl_IsHarmonic a0 a1 a2).bind fun r1 =>
      cond (!r1)
        (some (([] : List Int), false))
        ((impl_DivisorOk a1 a3).bind fun r2 =>
          cond (!r2)
            (some (([] : List Int), false))
            (impl_PullBack_l0 a3 a0 a1 a2 ([] : List Int) a2.1 (a2.1.length : Int) 0)) :=
  (den_eq Γ X 52 rfl _).trans (by kernel_rfl)
theorem impl_PullBack_l0_eq (x3 : (List Int)) (x4 : (Int × (List (Int × Int)))) (x5 : (Int × (List (Int × Int)))) (x6 : ((List Int) × (List Int))) (x10 : (List Int)) (x25 : (List Int)) (x26 : Int) (x27 : Int) : impl_PullBack_l0 x3 x4 x5 x6 x10 x25 x26 x27 =
    cond (decide (x27 < x26))
      (cond (inside x27 x25.length)
        ((impl_HorizontalOf x4 x5 x6 x27).bind fun r3 =>
          cond (inside (x25.getD x27.toNat 0) x3.length)
            (cond (decide (x10.length + ([w64 (r3 * (x3.getD ((x25.getD x27.toNat 0).toNat) 0))] : List Int).length ≤ room))
              (impl_PullBack_l0 x3 x4 x5 x6 (x10 ++ ([w64 (r3 * (x3.getD ((x25.getD x27.toNat 0).toNat) 0))] : List Int)) x25 x26 (w64 (x27 + 1)))
              (none))
            (none))
        (none))
      (some (x10, true)) :=
  (at_eq Γ X 52 [1, 1, 1, 0, 1, 0] _).trans (by kernel_rfl)
theorem impl_isVertex_eq (a0 : (Int × (List (Int × Int)))) (a1 : Int) : impl_isVertex a0 a1 =
    (impl_GraphOk a0).bind fun r1 =>
      cond (r1)
        ((impl_within a1 0 (w64 (a0.1 - 1))).bind fun r2 =>
          some r2)
        (some false) :=
  (den_eq Γ X 53 rfl _).trans (by kernel_rfl)
theorem impl_inDebt_eq (a0 : (List Int)) (a1 : Int) : impl_inDebt a0 a1 =
    impl_inDebt_l0 a1 a0 (a0.length : Int) 0 :=
  (den_eq Γ X 54 rfl _).trans (by kernel_rfl)
theorem impl_inDebt_l0_eq (x1 : Int) (x7 : (List Int)) (x8 : Int) (x9 : Int) : impl_inDebt_l0 x1 x7 x8 x9 =
    cond (decide (x9 < x8))
      (cond (inside x9 x7.length)
        (cond ((x9 : Int) != x1)
          (cond (decide (x7.getD x9.toNat 0 < 0))
            (some x9)
            (impl_inDebt_l0 x1 x7 x8 (w64 (x9 + 1))))
          (impl_inDebt_l0 x1 x7 x8 (w64 (x9 + 1))))
        (none))
      (some (-1)) :=
  (at_eq Γ X 54 [1, 0, 1, 0] _).trans (by kernel_rfl)
theorem impl_Valence_eq (a0 : (Int × (List (Int × Int)))) (a1 : Int) : impl_Valence a0 a1 =
    cond (decide (a1 < 0))
      (some 0)
      (cond (decide (a1 ≥ a0.1))
        (some 0)
        (impl_Valence_l0 a1 0 a0.2 (a0.2.length : Int) 0)) :=
  (den_eq Γ X 55 rfl _).trans (by kernel_rfl)
theorem impl_Valence_l0_eq (x1 : Int) (x5 : Int) (x17 : (List (Int × Int))) (x18 : Int) (x19 : Int) : impl_Valence_l0 x1 x5 x17 x18 x19 =
    cond (decide (x19 < x18))
      (cond (inside x19 x17.length)
        (cond ((((x17.getD x19.toNat (0, 0)).1) : Int) == x1)
          (impl_Valence_l0 x1 (w64 (x5 + 1)) x17 x18 (w64 (x19 + 1)))
          (cond ((((x17.getD x19.toNat (0, 0)).2) : Int) == x1)
            (impl_Valence_l0 x1 (w64 (x5 + 1)) x17 x18 (w64 (x19 + 1)))
            (impl_Valence_l0 x1 x5 x17 x18 (w64 (x19 + 1)))))
        (none))
      (some x5) :=
  (at_eq Γ X 55 [1, 1, 1, 0, 1, 0] _).trans (by kernel_rfl)
theorem impl_Multiplicity_eq (a0 : (Int × (List (Int × Int)))) (a1 : Int) (a2 : Int) : impl_Multiplicity a0 a1 a2 =
    cond (decide (imin a1 a2 < 0))
      (some 0)
      (cond (decide (imax a1 a2 ≥ a0.1))
        (some 0)
        (cond ((a1 : Int) == a2)
          (some 0)
          (impl_Multiplicity_l0 a1 a2 0 a0.2 (a0.2.length : Int) 0))) :=
  (den_eq Γ X 56 rfl _).trans (by kernel_rfl)
theorem impl_Multiplicity_l0_eq (x1 : Int) (x2 : Int) (x7 : Int) (x28 : (List (Int × Int))) (x29 : Int) (x30 : Int) : impl_Multiplicity_l0 x1 x2 x7 x28 x29 x30 =
    cond (decide (x30 < x29))
      (cond (inside x30 x28.length)
        (cond ((((x28.getD x30.toNat (0, 0)).1) : Int) == (imin x1 x2))
          (cond ((((x28.getD x30.toNat (0, 0)).2) : Int) == (imax x1 x2))
            (impl_Multiplicity_l0 x1 x2 (w64 (x7 + 1)) x28 x29 (w64 (x30 + 1)))
            (impl_Multiplicity_l0 x1 x2 x7 x28 x29 (w64 (x30 + 1))))
          (impl_Multiplicity_l0 x1 x2 x7 x28 x29 (w64 (x30 + 1))))
        (none))
      (some x7) :=
  (at_eq Γ X 56 [1, 1, 1, 0, 1, 0] _).trans (by kernel_rfl)
theorem slices_Index_int_int_eq (a0 : (List Int)) (a1 : Int) : slices_Index_int_int a0 a1 =
    slices_Index_int_int_l0 a0 a1 (a0.length : Int) 0 :=
  (den_eq Γ X 57 rfl _).trans (by kernel_rfl)
theorem slices_Index_int_int_l0_eq (x0 : (List Int)) (x1 : Int) (x7 : Int) (x8 : Int) : slices_Index_int_int_l0 x0 x1 x7 x8 =
    cond (decide (x8 < x7))
      (cond (inside x8 x0.length)
        (cond ((x1 : Int) == (x0.getD x8.toNat 0))
          (some x8)
          (slices_Index_int_int_l0 x0 x1 x7 (w64 (x8 + 1))))
        (none))
      (some (-1)) :=
  (at_eq Γ X 57 [1, 0, 1, 0] _).trans (by kernel_rfl)
theorem slices_Contains_int_int_eq (a0 : (List Int)) (a1 : Int) : slices_Contains_int_int a0 a1 =
    (slices_Index_int_int a0 a1).bind fun r1 =>
      some (decide (r1 ≥ 0)) :=
  (den_eq Γ X 58 rfl _).trans (by kernel_rfl)
theorem impl_burn_eq (a0 : (Int × (List (Int × Int)))) (a1 : (List Int)) (a2 : Int) : impl_burn a0 a1 a2 =
    impl_burn_l0 a1 a0 ([a2] : List Int) :=
  (den_eq Γ X 59 rfl _).trans (by kernel_rfl)
theorem impl_burn_l0_eq (x1 : (List Int)) (x3 : (Int × (List (Int × Int)))) (x7 : (List Int)) : impl_burn_l0 x1 x3 x7 =
    impl_burn_l2 x1 x3 x7 (-1) 0 :=
  (at_eq Γ X 59 [1, 1, 0] _).trans (by kernel_rfl)
theorem impl_burn_l2_eq (x1 : (List Int)) (x3 : (Int × (List (Int × Int)))) (x7 : (List Int)) (x8 : Int) (x9 : Int) : impl_burn_l2 x1 x3 x7 x8 x9 =
    cond (decide (x9 < x3.1))
      (cond (decide (x8 < 0))
        (impl_burn_l4 x1 x3 x7 x8 x9 0 (x7.length : Int) 0)
        (cond (decide (x8 < 0))
          (some x7)
          (cond (decide (x7.length + ([x8] : List Int).length ≤ room))
            (impl_burn_l0 x1 x3 (x7 ++ ([x8] : List Int)))
            (none))))
      (cond (decide (x8 < 0))
        (some x7)
        (cond (decide (x7.length + ([x8] : List Int).length ≤ room))
          (impl_burn_l0 x1 x3 (x7 ++ ([x8] : List Int)))
          (none))) :=
  (at_eq Γ X 59 [1, 1, 0, 0, 0, 1, 0, 1, 0] _).trans (by kernel_rfl)
theorem impl_burn_l4_eq (x1 : (List Int)) (x3 : (Int × (List (Int × Int)))) (x7 : (List Int)) (x8 : Int) (x9 : Int) (x10 : Int) (x26 : Int) (x27 : Int) : impl_burn_l4 x1 x3 x7 x8 x9 x10 x26 x27 =
    cond (decide (x27 < x26))
      (cond (inside x27 x7.length)
        ((impl_Multiplicity x3 x9 (x7.getD x27.toNat 0)).bind fun r1 =>
          impl_burn_l4 x1 x3 x7 x8 x9 (w64 (x10 + r1)) x26 (w64 (x27 + 1)))
        (none))
      ((slices_Contains_int_int x7 x9).bind fun r2 =>
        cond (!r2)
          (cond (inside x9 x1.length)
            (cond (decide (x1.getD x9.toNat 0 < x10))
              (impl_burn_l2 x1 x3 x7 x9 (w64 (x9 + 1)))
              (impl_burn_l2 x1 x3 x7 x8 (w64 (x9 + 1))))
            (none))
          (impl_burn_l2 x1 x3 x7 x8 (w64 (x9 + 1)))) :=
  (at_eq Γ X 59 [1, 1, 0, 0, 0, 1, 0, 1, 0, 0, 1, 0, 0, 1, 0, 1, 0] _).trans (by kernel_rfl)
theorem impl_reduce_eq (a0 : (Int × (List (Int × Int)))) (a1 : (List Int)) (a2 : Int) : impl_reduce a0 a1 a2 =
    (impl_copyInts a1).bind fun r1 =>
      cond (decide (0 ≤ a0.1) && decide (a0.1 ≤ (room : Int)))
        ((impl_inDebt r1 a2).bind fun r2 =>
          impl_reduce_l0 a2 a0 r1 (List.replicate a0.1.toNat (0 : Int)) r2)
        (none) :=
  (den_eq Γ X 60 rfl _).trans (by kernel_rfl)
theorem impl_reduce_l0_eq (x2 : Int) (x3 : (Int × (List (Int × Int)))) (x8 : (List Int)) (x9 : (List Int)) (x10 : Int) : impl_reduce_l0 x2 x3 x8 x9 x10 =
    cond (decide (x10 ≥ 0))
      ((impl_Valence x3 x10).bind fun r3 =>
        cond (inside x10 x8.length)
          (cond (decide (r3 = 0))
            (none)
            ((impl_fire x3 x8 x10 (w64 (0 - (w64 (Int.tdiv (w64 ((w64 (r3 - 1)) - (x8.getD x10.toNat 0))) r3))))).bind fun r4 =>
              cond (inside x10 x9.length)
                (cond (inside x10 x9.length)
                  ((impl_inDebt r4 x2).bind fun r5 =>
                    impl_reduce_l0 x2 x3 r4 (x9.set x10.toNat (w64 ((x9.getD x10.toNat 0) - (w64 (Int.tdiv (w64 ((w64 (r3 - 1)) - (x8.getD x10.toNat 0))) r3))))) r5)
                  (none))
                (none)))
          (none))
      (impl_reduce_l2 x2 x3 x8 x9) :=
  (at_eq Γ X 60 [1, 1, 1, 0, 1, 0] _).trans (by kernel_rfl)
theorem impl_reduce_l2_eq (x2 : Int) (x3 : (Int × (List (Int × Int)))) (x8 : (List Int)) (x9 : (List Int)) : impl_reduce_l2 x2 x3 x8 x9 =
    (impl_burn x3 x8 x2).bind fun r6 =>
      cond (((r6.length : Int) : Int) == x3.1)
        (some (x8, x9))
        (impl_reduce_l4 x2 x3 x8 x9 r6 (x9.length : Int) 0) :=
  (at_eq Γ X 60 [1, 1, 1, 1, 0] _).trans (by kernel_rfl)
theorem impl_reduce_l4_eq (x2 : Int) (x3 : (Int × (List (Int × Int)))) (x8 : (List Int)) (x9 : (List Int)) (x13 : (List Int)) (x65 : Int) (x66 : Int) : impl_reduce_l4 x2 x3 x8 x9 x13 x65 x66 =
    cond (decide (x66 < x65))
      ((slices_Contains_int_int x13 x66).bind fun r7 =>
        cond (!r7)
          ((impl_fire x3 x8 x66 1).bind fun r8 =>
            cond (inside x66 x9.length)
              (cond (inside x66 x9.length)
                (impl_reduce_l4 x2 x3 r8 (x9.set x66.toNat (w64 ((x9.getD x66.toNat 0) + 1))) x13 x65 (w64 (x66 + 1)))
                (none))
              (none))
          (impl_reduce_l4 x2 x3 x8 x9 x13 x65 (w64 (x66 + 1))))
      (impl_reduce_l2 x2 x3 x8 x9) :=
  (at_eq Γ X 60 [1, 1, 1, 1, 0, 0, 0, 1, 1, 1, 0] _).trans (by kernel_rfl)
theorem impl_ReducedOf_eq (a0 : (Int × (List (Int × Int)))) (a1 : (List Int)) (a2 : Int) : impl_ReducedOf a0 a1 a2 =
    (impl_DivisorOk a0 a1).bind fun r1 =>
      cond (!r1)
        (some (([] : List Int), false))
        ((impl_isVertex a0 a2).bind fun r2 =>
          cond (!r2)
            (some (([] : List Int), false))
            ((impl_reduce a0 a1 a2).bind fun r3 =>
              some (r3.1, true))) :=
  (den_eq Γ X 61 rfl _).trans (by kernel_rfl)
theorem impl_RepresentativeOf_eq (a0 : (Int × (List (Int × Int)))) (a1 : (List Int)) : impl_RepresentativeOf a0 a1 =
    (impl_ReducedOf a0 a1 0).bind fun r1 =>
      some (r1.1, r1.2) :=
  (den_eq Γ X 62 rfl _).trans (by kernel_rfl)
theorem slices_Equal_int_int_eq (a0 : (List Int)) (a1 : (List Int)) : slices_Equal_int_int a0 a1 =
    cond (((a0.length : Int) : Int) != (a1.length : Int))
      (some false)
      (slices_Equal_int_int_l0 a0 a1 (a0.length : Int) 0) :=
  (den_eq Γ X 63 rfl _).trans (by kernel_rfl)
theorem slices_Equal_int_int_l0_eq (x0 : (List Int)) (x1 : (List Int)) (x12 : Int) (x13 : Int) : slices_Equal_int_int_l0 x0 x1 x12 x13 =
    cond (decide (x13 < x12))
      (cond (inside x13 x0.length)
        (cond (inside x13 x1.length)
          (cond (((x0.getD x13.toNat 0) : Int) != (x1.getD x13.toNat 0))
            (some false)
            (slices_Equal_int_int_l0 x0 x1 x12 (w64 (x13 + 1))))
          (none))
        (none))
      (some true) :=
  (at_eq Γ X 63 [1, 1, 0, 1, 0] _).trans (by kernel_rfl)
theorem impl_SameDivisor_eq (a0 : (List Int)) (a1 : (List Int)) : impl_SameDivisor a0 a1 =
    (slices_Equal_int_int a0 a1).bind fun r1 =>
      some r1 :=
  (den_eq Γ X 64 rfl _).trans (by kernel_rfl)
theorem impl_AreEquivalent_eq (a0 : (Int × (List (Int × Int)))) (a1 : (List Int)) (a2 : (List Int)) : impl_AreEquivalent a0 a1 a2 =
    (impl_RepresentativeOf a0 a1).bind fun r1 =>
      (impl_RepresentativeOf a0 a2).bind fun r2 =>
        cond (r1.2)
          (cond (r2.2)
            ((impl_SameDivisor r1.1 r2.1).bind fun r3 =>
              some r3)
            (some false))
          (some false) :=
  (den_eq Γ X 65 rfl _).trans (by kernel_rfl)
theorem impl_sumOf_eq (a0 : (List Int)) : impl_sumOf a0 =
    impl_sumOf_l0 0 a0 (a0.length : Int) 0 :=
  (den_eq Γ X 66 rfl _).trans (by kernel_rfl)
theorem impl_sumOf_l0_eq (x3 : Int) (x6 : (List Int)) (x7 : Int) (x8 : Int) : impl_sumOf_l0 x3 x6 x7 x8 =
    cond (decide (x8 < x7))
      (cond (inside x8 x6.length)
        (impl_sumOf_l0 (w64 (x3 + (x6.getD x8.toNat 0))) x6 x7 (w64 (x8 + 1)))
        (none))
      (some x3) :=
  (at_eq Γ X 66 [1, 1, 0, 1, 0] _).trans (by kernel_rfl)
theorem impl_DegreeOf_eq (a0 : (List Int)) : impl_DegreeOf a0 =
    (impl_sumOf a0).bind fun r1 =>
      some r1 :=
  (den_eq Γ X 67 rfl _).trans (by kernel_rfl)
theorem laws_FnMorphisms_eq (a0 : (List Int)) : laws_FnMorphisms a0 =
    cond (decide ((a0.length : Int) > 1048576))
      (some true)
      ((spec_MakeMorphism a0).bind fun r1 =>
        (impl_DegreeOfMorphism r1.1 r1.2.1 r1.2.2).bind fun r2 =>
          (impl_MorphismOk r1.1 r1.2.1 r1.2.2).bind fun r3 =>
            cond (!r3)
              (some false)
              ((impl_IsHarmonic r1.1 r1.2.1 r1.2.2).bind fun r4 =>
                cond (!r4)
                  (some false)
                  (cond (decide (r2 < 0))
                    (some false)
                    (laws_FnMorphisms_l0 a0 r1.1 r1.2.1 r1.2.2 r2 0)))) :=
  (den_eq Γ X 68 rfl _).trans (by kernel_rfl)
theorem laws_FnMorphisms_l0_eq (x0 : (List Int)) (x3 : (Int × (List (Int × Int)))) (x4 : (Int × (List (Int × Int)))) (x5 : ((List Int) × (List Int))) (x6 : Int) (x7 : Int) : laws_FnMorphisms_l0 x0 x3 x4 x5 x6 x7 =
    cond (decide (x7 < x4.1))
      (cond (decide ((x4.2.length : Int) > 0))
        (laws_FnMorphisms_l2 x0 x3 x4 x5 x6 x7 0 0)
        ((spec_MakeDivisor x0 20 x3).bind fun r6 =>
          (spec_MakeScript x0 40 x3).bind fun r7 =>
            (impl_FireScript x3 r6 r7).bind fun r8 =>
              (impl_PushForward x3 x4 x5 r6).bind fun r9 =>
                (impl_PushForward x3 x4 x5 r8.1).bind fun r10 =>
                  laws_FnMorphisms_c22 x0 x3 x4 x5 x6 r6 r8.2 r9.1 r9.2 r10.1 r10.2))
      ((spec_MakeDivisor x0 20 x3).bind fun r19 =>
        (spec_MakeScript x0 40 x3).bind fun r20 =>
          (impl_FireScript x3 r19 r20).bind fun r21 =>
            (impl_PushForward x3 x4 x5 r19).bind fun r22 =>
              (impl_PushForward x3 x4 x5 r21.1).bind fun r23 =>
                laws_FnMorphisms_c22 x0 x3 x4 x5 x6 r19 r21.2 r22.1 r22.2 r23.1 r23.2) :=
  (at_eq Γ X 68 [1, 1, 1, 1, 1, 0, 1, 0] _).trans (by kernel_rfl)
theorem laws_FnMorphisms_l2_eq (x0 : (List Int)) (x3 : (Int × (List (Int × Int)))) (x4 : (Int × (List (Int × Int)))) (x5 : ((List Int) × (List Int))) (x6 : Int) (x7 : Int) (x8 : Int) (x9 : Int) : laws_FnMorphisms_l2 x0 x3 x4 x5 x6 x7 x8 x9 =
    cond (decide (x9 < x3.1))
      (cond (inside x9 x5.1.length)
        (cond (((x5.1.getD x9.toNat 0) : Int) == x7)
          ((impl_HorizontalOf x3 x4 x5 x9).bind fun r5 =>
            laws_FnMorphisms_l2 x0 x3 x4 x5 x6 x7 (w64 (x8 + r5)) (w64 (x9 + 1)))
          (laws_FnMorphisms_l2 x0 x3 x4 x5 x6 x7 x8 (w64 (x9 + 1))))
        (none))
      (cond ((x8 : Int) != x6)
        (some false)
        (laws_FnMorphisms_l0 x0 x3 x4 x5 x6 (w64 (x7 + 1)))) :=
  (at_eq Γ X 68 [1, 1, 1, 1, 1, 0, 1, 0, 0, 1, 0, 0, 1, 0, 1, 0] _).trans (by kernel_rfl)
theorem laws_FnMorphisms_l4_eq (x4 : (Int × (List (Int × Int)))) (x6 : Int) (x10 : (List Int)) (x13 : (List Int)) (x17 : (List Int)) (x20 : (List Int)) (x182 : Int) (x183 : Int) : laws_FnMorphisms_l4 x4 x6 x10 x13 x17 x20 x182 x183 =
    cond (decide (x183 < x182))
      (cond (decide ((x4.2.length : Int) > 0))
        (cond (inside x183 x20.length)
          (cond (inside x183 x17.length)
            (cond (((x20.getD x183.toNat 0) : Int) != (w64 (x6 * (x17.getD x183.toNat 0))))
              (some false)
              (laws_FnMorphisms_l4 x4 x6 x10 x13 x17 x20 x182 (w64 (x183 + 1))))
            (none))
          (none))
        (laws_FnMorphisms_l4 x4 x6 x10 x13 x17 x20 x182 (w64 (x183 + 1))))
      ((impl_DegreeOf x13).bind fun r17 =>
        (impl_DegreeOf x10).bind fun r18 =>
          some ((r17 : Int) == r18)) :=
  (at_eq Γ X 68 [1, 1, 1, 1, 1, 1, 1, 1, 1, 1, 1, 1, 1, 1, 0, 1, 0] _).trans (by kernel_rfl)
theorem laws_FnMorphisms_c22_eq (x0 : (List Int)) (x3 : (Int × (List (Int × Int)))) (x4 : (Int × (List (Int × Int)))) (x5 : ((List Int) × (List Int))) (x6 : Int) (x10 : (List Int)) (x12 : Bool) (x13 : (List Int)) (x14 : Bool) (x15 : (List Int)) (x16 : Bool) : laws_FnMorphisms_c22 x0 x3 x4 x5 x6 x10 x12 x13 x14 x15 x16 =
    (spec_MakeDivisor x0 30 x4).bind fun r11 =>
      (impl_PullBack x3 x4 x5 r11).bind fun r12 =>
        (impl_PushForward x3 x4 x5 r12.1).bind fun r13 =>
          cond (!x12)
            (some false)
            (cond (!x14)
              (some false)
              (cond (!x16)
                (some false)
                (cond (!r12.2)
                  (some false)
                  (cond (!r13.2)
                    (some false)
                    (cond (((r13.1.length : Int) : Int) != x4.1)
                      (some false)
                      ((impl_AreEquivalent x4 x13 x15).bind fun r14 =>
                        cond (!r14)
                          (some false)
                          (cond (decide ((x4.2.length : Int) > 0))
                            ((impl_DegreeOf r12.1).bind fun r15 =>
                              (impl_DegreeOf r11).bind fun r16 =>
                                cond ((r15 : Int) != (w64 (x6 * r16)))
                                  (some false)
                                  (laws_FnMorphisms_c27 x4 x6 x10 x13 r11 r13.1))
                            (laws_FnMorphisms_c27 x4 x6 x10 x13 r11 r13.1)))))))) :=
  (at_eq Γ X 68 [1, 1, 1, 1, 1, 1, 1, 1, 1, 1, 0] _).trans (by kernel_rfl)
theorem laws_FnMorphisms_c27_eq (x4 : (Int × (List (Int × Int)))) (x6 : Int) (x10 : (List Int)) (x13 : (List Int)) (x17 : (List Int)) (x20 : (List Int)) : laws_FnMorphisms_c27 x4 x6 x10 x13 x17 x20 =
    laws_FnMorphisms_l4 x4 x6 x10 x13 x17 x20 (x20.length : Int) 0 :=
  (at_eq Γ X 68 [1, 1, 1, 1, 1, 1, 1, 1, 1, 1, 1, 1, 1, 1, 0, 0] _).trans (by kernel_rfl)
end Go.Proofs.Ytikkkdpemjcjlaa.D

/-
  Each function and each loop by its equation: what the evaluator tells of it, for all arguments.
-/
import Derived.Test.YtgncajnfphlgeaaDoorCtx
import Derived.KernelRfl
namespace Go.Proofs.YtgncajnfphlgeaaDoor.D
open Go Go.Den
set_option linter.unusedVariables false
set_option maxRecDepth 100000
theorem laws_szEdgeS_eq (a0 : (List (Int × Int))) (a1 : Int) : laws_szEdgeS a0 a1 =
    cond (decide (w64 (a1 - (a0.length : Int)) < 0))
      (some (-1))
      (some (w64 (a1 - (a0.length : Int)))) :=
  (den_eq Γ X 0 rfl _).trans (by kernel_rfl)
theorem laws_szGraph_eq (a0 : (Int × (List (Int × Int)))) (a1 : Int) : laws_szGraph a0 a1 =
    (laws_szEdgeS a0.2 a1).bind fun r1 =>
      cond (decide (r1 < 0))
        (some (-1))
        (some r1) :=
  (den_eq Γ X 1 rfl _).trans (by kernel_rfl)
theorem laws_toEdge_eq (a0 : (Int × Int)) : laws_toEdge a0 =
    some (a0.1, a0.2) :=
  (den_eq Γ X 2 rfl _).trans (by kernel_rfl)
theorem laws_toEdgeS_eq (a0 : (List (Int × Int))) : laws_toEdgeS a0 =
    cond (decide (0 ≤ (a0.length : Int)) && decide ((a0.length : Int) ≤ (room : Int)))
      (laws_toEdgeS_l0 a0 (List.replicate (a0.length : Int).toNat (0, 0)) 0)
      (none) :=
  (den_eq Γ X 3 rfl _).trans (by kernel_rfl)
theorem laws_toEdgeS_l0_eq (x0 : (List (Int × Int))) (x3 : (List (Int × Int))) (x4 : Int) : laws_toEdgeS_l0 x0 x3 x4 =
    cond (decide (x4 < (x0.length : Int)))
      (cond (inside x4 x0.length)
        ((laws_toEdge (x0.getD x4.toNat (0, 0))).bind fun r1 =>
          cond (inside x4 x3.length)
            (laws_toEdgeS_l0 x0 (x3.set x4.toNat r1) (w64 (x4 + 1)))
            (none))
        (none))
      (some x3) :=
  (at_eq Γ X 3 [1, 1, 0, 1, 0] _).trans (by kernel_rfl)
theorem laws_toGraph_eq (a0 : (Int × (List (Int × Int)))) : laws_toGraph a0 =
    (laws_toEdgeS a0.2).bind fun r1 =>
      some (a0.1, r1) :=
  (den_eq Γ X 4 rfl _).trans (by kernel_rfl)
theorem spec_l01In_eq (a0 : Int) (a1 : Int) (a2 : Int) : spec_l01In a0 a1 a2 =
    cond (decide (a0 ≥ a1))
      (some (decide (a0 ≤ a2)))
      (some false) :=
  (den_eq Γ X 5 rfl _).trans (by kernel_rfl)
theorem spec_EdgesOk_eq (a0 : (Int × (List (Int × Int)))) : spec_EdgesOk a0 =
    (spec_l01In a0.1 1 6).bind fun r1 =>
      cond (!r1)
        (some false)
        (cond (decide ((a0.2.length : Int) > 12))
          (some false)
          (spec_EdgesOk_l0 a0 a0.2 (a0.2.length : Int) 0)) :=
  (den_eq Γ X 6 rfl _).trans (by kernel_rfl)
theorem spec_EdgesOk_l0_eq (x1 : (Int × (List (Int × Int)))) (x16 : (List (Int × Int))) (x17 : Int) (x18 : Int) : spec_EdgesOk_l0 x1 x16 x17 x18 =
    cond (decide (x18 < x17))
      (cond (inside x18 x16.length)
        ((spec_l01In ((x16.getD x18.toNat (0, 0)).1) 0 (w64 (x1.1 - 1))).bind fun r2 =>
          cond (!r2)
            (some false)
            ((spec_l01In ((x16.getD x18.toNat (0, 0)).2) (w64 (((x16.getD x18.toNat (0, 0)).1) + 1)) (w64 (x1.1 - 1))).bind fun r3 =>
              cond (!r3)
                (some false)
                (spec_EdgesOk_l0 x1 x16 x17 (w64 (x18 + 1)))))
        (none))
      (some true) :=
  (at_eq Γ X 6 [1, 1, 0, 1, 0] _).trans (by kernel_rfl)
theorem spec_l02Has_eq (a0 : (List Int)) (a1 : Int) : spec_l02Has a0 a1 =
    spec_l02Has_l0 a1 a0 (a0.length : Int) 0 :=
  (den_eq Γ X 7 rfl _).trans (by kernel_rfl)
theorem spec_l02Has_l0_eq (x1 : Int) (x7 : (List Int)) (x8 : Int) (x9 : Int) : spec_l02Has_l0 x1 x7 x8 x9 =
    cond (decide (x9 < x8))
      (cond (inside x9 x7.length)
        (cond (((x7.getD x9.toNat 0) : Int) == x1)
          (some true)
          (spec_l02Has_l0 x1 x7 x8 (w64 (x9 + 1))))
        (none))
      (some false) :=
  (at_eq Γ X 7 [1, 0, 1, 0] _).trans (by kernel_rfl)
theorem spec_l02Reach_eq (a0 : (Int × (List (Int × Int)))) : spec_l02Reach a0 =
    spec_l02Reach_l0 a0 ([0] : List Int) 0 :=
  (den_eq Γ X 8 rfl _).trans (by kernel_rfl)
theorem spec_l02Reach_l0_eq (x1 : (Int × (List (Int × Int)))) (x3 : (List Int)) (x4 : Int) : spec_l02Reach_l0 x1 x3 x4 =
    cond (decide (x4 < (x3.length : Int)))
      (spec_l02Reach_l2 x1 x3 x4 x1.2 (x1.2.length : Int) 0)
      (some x3) :=
  (at_eq Γ X 8 [1, 1, 0, 1, 0] _).trans (by kernel_rfl)
theorem spec_l02Reach_l2_eq (x1 : (Int × (List (Int × Int)))) (x3 : (List Int)) (x4 : Int) (x15 : (List (Int × Int))) (x16 : Int) (x17 : Int) : spec_l02Reach_l2 x1 x3 x4 x15 x16 x17 =
    cond (decide (x17 < x16))
      (cond (inside x17 x15.length)
        (cond (inside x4 x3.length)
          (cond ((((x15.getD x17.toNat (0, 0)).1) : Int) == (x3.getD x4.toNat 0))
            ((spec_l02Has x3 ((x15.getD x17.toNat (0, 0)).2)).bind fun r1 =>
              cond (!r1)
                (cond (decide (x3.length + ([(x15.getD x17.toNat (0, 0)).2] : List Int).length ≤ room))
                  (cond (inside x4 (x3 ++ ([(x15.getD x17.toNat (0, 0)).2] : List Int)).length)
                    (cond ((((x15.getD x17.toNat (0, 0)).2) : Int) == ((x3 ++ ([(x15.getD x17.toNat (0, 0)).2] : List Int)).getD x4.toNat 0))
                      ((spec_l02Has (x3 ++ ([(x15.getD x17.toNat (0, 0)).2] : List Int)) ((x15.getD x17.toNat (0, 0)).1)).bind fun r2 =>
                        cond (!r2)
                          (spec_l02Reach_c11 x1 (x3 ++ ([(x15.getD x17.toNat (0, 0)).2] : List Int)) x4 (x15.getD x17.toNat (0, 0)) x15 x16 x17)
                          (spec_l02Reach_c12 x1 (x3 ++ ([(x15.getD x17.toNat (0, 0)).2] : List Int)) x4 x15 x16 x17))
                      (spec_l02Reach_c12 x1 (x3 ++ ([(x15.getD x17.toNat (0, 0)).2] : List Int)) x4 x15 x16 x17))
                    (none))
                  (none))
                (cond (inside x4 x3.length)
                  (cond ((((x15.getD x17.toNat (0, 0)).2) : Int) == (x3.getD x4.toNat 0))
                    ((spec_l02Has x3 ((x15.getD x17.toNat (0, 0)).1)).bind fun r3 =>
                      cond (!r3)
                        (spec_l02Reach_c11 x1 x3 x4 (x15.getD x17.toNat (0, 0)) x15 x16 x17)
                        (spec_l02Reach_c12 x1 x3 x4 x15 x16 x17))
                    (spec_l02Reach_c12 x1 x3 x4 x15 x16 x17))
                  (none)))
            (cond (inside x4 x3.length)
              (cond ((((x15.getD x17.toNat (0, 0)).2) : Int) == (x3.getD x4.toNat 0))
                ((spec_l02Has x3 ((x15.getD x17.toNat (0, 0)).1)).bind fun r4 =>
                  cond (!r4)
                    (spec_l02Reach_c11 x1 x3 x4 (x15.getD x17.toNat (0, 0)) x15 x16 x17)
                    (spec_l02Reach_c12 x1 x3 x4 x15 x16 x17))
                (spec_l02Reach_c12 x1 x3 x4 x15 x16 x17))
              (none)))
          (none))
        (none))
      (spec_l02Reach_l0 x1 x3 (w64 (x4 + 1))) :=
  (at_eq Γ X 8 [1, 1, 0, 1, 0, 0, 1, 0, 0, 1, 0] _).trans (by kernel_rfl)
theorem spec_l02Reach_c11_eq (x1 : (Int × (List (Int × Int)))) (x3 : (List Int)) (x4 : Int) (x6 : (Int × Int)) (x15 : (List (Int × Int))) (x16 : Int) (x17 : Int) : spec_l02Reach_c11 x1 x3 x4 x6 x15 x16 x17 =
    cond (decide (x3.length + ([x6.1] : List Int).length ≤ room))
      (spec_l02Reach_c12 x1 (x3 ++ ([x6.1] : List Int)) x4 x15 x16 x17)
      (none) :=
  (at_eq Γ X 8 [1, 1, 0, 1, 0, 0, 1, 0, 0, 1, 0, 0, 1, 1, 0, 0, 1, 1, 1, 0] _).trans (by kernel_rfl)
theorem spec_l02Reach_c12_eq (x1 : (Int × (List (Int × Int)))) (x3 : (List Int)) (x4 : Int) (x15 : (List (Int × Int))) (x16 : Int) (x17 : Int) : spec_l02Reach_c12 x1 x3 x4 x15 x16 x17 =
    spec_l02Reach_l2 x1 x3 x4 x15 x16 (w64 (x17 + 1)) :=
  (at_eq Γ X 8 [1, 1, 0, 1, 0, 0, 1, 0, 0, 1, 0, 0, 1, 1, 1] _).trans (by kernel_rfl)
theorem spec_GraphOk_eq (a0 : (Int × (List (Int × Int)))) : spec_GraphOk a0 =
    (spec_EdgesOk a0).bind fun r1 =>
      cond (!r1)
        (some false)
        (spec_GraphOk_l0 a0 a0.2 (a0.2.length : Int) 0) :=
  (den_eq Γ X 9 rfl _).trans (by kernel_rfl)
theorem spec_GraphOk_l0_eq (x1 : (Int × (List (Int × Int)))) (x9 : (List (Int × Int))) (x10 : Int) (x11 : Int) : spec_GraphOk_l0 x1 x9 x10 x11 =
    cond (decide (x11 < x10))
      (cond (inside x11 x9.length)
        (cond (decide (x11 > 0))
          (cond (inside (w64 (x11 - 1)) x1.2.length)
            (cond (decide ((x9.getD x11.toNat (0, 0)).1 < (x1.2.getD ((w64 (x11 - 1)).toNat) (0, 0)).1))
              (some false)
              (cond (inside (w64 (x11 - 1)) x1.2.length)
                (cond ((((x9.getD x11.toNat (0, 0)).1) : Int) == ((x1.2.getD ((w64 (x11 - 1)).toNat) (0, 0)).1))
                  (cond (inside (w64 (x11 - 1)) x1.2.length)
                    (cond (decide ((x9.getD x11.toNat (0, 0)).2 < (x1.2.getD ((w64 (x11 - 1)).toNat) (0, 0)).2))
                      (some false)
                      (spec_GraphOk_c8 x1 x9 x10 x11))
                    (none))
                  (spec_GraphOk_c8 x1 x9 x10 x11))
                (none)))
            (none))
          (spec_GraphOk_c8 x1 x9 x10 x11))
        (none))
      ((spec_l02Reach x1).bind fun r2 =>
        some (((r2.length : Int) : Int) == x1.1)) :=
  (at_eq Γ X 9 [1, 1, 0, 1, 0] _).trans (by kernel_rfl)
theorem spec_GraphOk_c8_eq (x1 : (Int × (List (Int × Int)))) (x9 : (List (Int × Int))) (x10 : Int) (x11 : Int) : spec_GraphOk_c8 x1 x9 x10 x11 =
    spec_GraphOk_l0 x1 x9 x10 (w64 (x11 + 1)) :=
  (at_eq Γ X 9 [1, 1, 0, 1, 0, 0, 1, 1, 1] _).trans (by kernel_rfl)
theorem spec_GenusOf_eq (a0 : (Int × (List (Int × Int)))) : spec_GenusOf a0 =
    (spec_GraphOk a0).bind fun r1 =>
      cond (!r1)
        (some (-1))
        (some (w64 ((w64 ((a0.2.length : Int) - a0.1)) + 1))) :=
  (den_eq Γ X 10 rfl _).trans (by kernel_rfl)
theorem spec_FormatInt_eq (a0 : Int) : spec_FormatInt a0 =
    cond (decide (a0 < 0))
      (cond (((w64 (Int.tdiv a0 10)) : Int) == 0)
        (cond (decide ((⟨#[45]⟩ : ByteArray).size + (toStr ([IntKind.wrap .u8 (w64 (48 - a0))] : List Int)).size ≤ 9223372036854775807))
          (some ((⟨#[45]⟩ : ByteArray) ++ (toStr ([IntKind.wrap .u8 (w64 (48 - a0))] : List Int))))
          (none))
        ((spec_FormatInt (w64 (Int.tdiv a0 10))).bind fun r1 =>
          cond (decide (r1.size + (toStr ([IntKind.wrap .u8 (w64 (48 - (Int.tmod a0 10)))] : List Int)).size ≤ 9223372036854775807))
            (some (r1 ++ (toStr ([IntKind.wrap .u8 (w64 (48 - (Int.tmod a0 10)))] : List Int))))
            (none)))
      (spec_FormatInt_l0 a0 (⟨#[]⟩ : ByteArray)) :=
  (den_eq Γ X 11 rfl _).trans (by kernel_rfl)
theorem spec_FormatInt_l0_eq (x0 : Int) (x3 : ByteArray) : spec_FormatInt_l0 x0 x3 =
    cond (decide (x0 > 9))
      (cond (decide ((toStr ([IntKind.wrap .u8 (w64 (48 + (Int.tmod x0 10)))] : List Int)).size + x3.size ≤ 9223372036854775807))
        (spec_FormatInt_l0 (w64 (Int.tdiv x0 10)) ((toStr ([IntKind.wrap .u8 (w64 (48 + (Int.tmod x0 10)))] : List Int)) ++ x3))
        (none))
      (cond (decide ((toStr ([IntKind.wrap .u8 (w64 (48 + x0))] : List Int)).size + x3.size ≤ 9223372036854775807))
        (some ((toStr ([IntKind.wrap .u8 (w64 (48 + x0))] : List Int)) ++ x3))
        (none)) :=
  (at_eq Γ X 11 [1, 1, 1, 0, 0] _).trans (by kernel_rfl)
theorem spec_l02Vert_eq (a0 : (Int × (List (Int × Int)))) (a1 : Int) : spec_l02Vert a0 a1 =
    cond (decide (a1 ≥ 0))
      (some (decide (a1 < a0.1)))
      (some false) :=
  (den_eq Γ X 12 rfl _).trans (by kernel_rfl)
theorem spec_Valence_eq (a0 : (Int × (List (Int × Int)))) (a1 : Int) : spec_Valence a0 a1 =
    (spec_l02Vert a0 a1).bind fun r1 =>
      cond (!r1)
        (some 0)
        (spec_Valence_l0 a1 0 a0.2 (a0.2.length : Int) 0) :=
  (den_eq Γ X 13 rfl _).trans (by kernel_rfl)
theorem spec_Valence_l0_eq (x1 : Int) (x5 : Int) (x13 : (List (Int × Int))) (x14 : Int) (x15 : Int) : spec_Valence_l0 x1 x5 x13 x14 x15 =
    cond (decide (x15 < x14))
      (cond (inside x15 x13.length)
        (cond ((((x13.getD x15.toNat (0, 0)).1) : Int) == x1)
          (spec_Valence_l0 x1 (w64 (x5 + 1)) x13 x14 (w64 (x15 + 1)))
          (cond ((((x13.getD x15.toNat (0, 0)).2) : Int) == x1)
            (spec_Valence_l0 x1 (w64 (x5 + 1)) x13 x14 (w64 (x15 + 1)))
            (spec_Valence_l0 x1 x5 x13 x14 (w64 (x15 + 1)))))
        (none))
      (some x5) :=
  (at_eq Γ X 13 [1, 1, 1, 0, 1, 0] _).trans (by kernel_rfl)
theorem spec_Multiplicity_eq (a0 : (Int × (List (Int × Int)))) (a1 : Int) (a2 : Int) : spec_Multiplicity a0 a1 a2 =
    (spec_l02Vert a0 a1).bind fun r1 =>
      cond (!r1)
        (some 0)
        ((spec_l02Vert a0 a2).bind fun r2 =>
          cond (!r2)
            (some 0)
            (cond ((a1 : Int) == a2)
              (some 0)
              (spec_Multiplicity_l0 a1 a2 0 a0.2 (a0.2.length : Int) 0))) :=
  (den_eq Γ X 14 rfl _).trans (by kernel_rfl)
theorem spec_Multiplicity_l0_eq (x1 : Int) (x2 : Int) (x7 : Int) (x26 : (List (Int × Int))) (x27 : Int) (x28 : Int) : spec_Multiplicity_l0 x1 x2 x7 x26 x27 x28 =
    cond (decide (x28 < x27))
      (cond (inside x28 x26.length)
        (cond ((((x26.getD x28.toNat (0, 0)).1) : Int) == (imin x1 x2))
          (cond ((((x26.getD x28.toNat (0, 0)).2) : Int) == (imax x1 x2))
            (spec_Multiplicity_l0 x1 x2 (w64 (x7 + 1)) x26 x27 (w64 (x28 + 1)))
            (spec_Multiplicity_l0 x1 x2 x7 x26 x27 (w64 (x28 + 1))))
          (spec_Multiplicity_l0 x1 x2 x7 x26 x27 (w64 (x28 + 1))))
        (none))
      (some x7) :=
  (at_eq Γ X 14 [1, 1, 1, 0, 1, 0] _).trans (by kernel_rfl)
theorem spec_LaplacianOf_eq (a0 : (Int × (List (Int × Int)))) : spec_LaplacianOf a0 =
    (spec_GraphOk a0).bind fun r1 =>
      cond (!r1)
        (some ([] : List (List Int)))
        (spec_LaplacianOf_l0 a0 ([] : List (List Int)) 0) :=
  (den_eq Γ X 15 rfl _).trans (by kernel_rfl)
theorem spec_LaplacianOf_l0_eq (x1 : (Int × (List (Int × Int)))) (x3 : (List (List Int))) (x4 : Int) : spec_LaplacianOf_l0 x1 x3 x4 =
    cond (decide (x4 < x1.1))
      (spec_LaplacianOf_l2 x1 x3 x4 ([] : List Int) 0)
      (some x3) :=
  (at_eq Γ X 15 [1, 1, 1, 0, 1, 0] _).trans (by kernel_rfl)
theorem spec_LaplacianOf_l2_eq (x1 : (Int × (List (Int × Int)))) (x3 : (List (List Int))) (x4 : Int) (x5 : (List Int)) (x6 : Int) : spec_LaplacianOf_l2 x1 x3 x4 x5 x6 =
    cond (decide (x6 < x1.1))
      (cond ((x4 : Int) == x6)
        ((spec_Valence x1 x4).bind fun r2 =>
          cond (decide (x5.length + ([r2] : List Int).length ≤ room))
            (spec_LaplacianOf_l2 x1 x3 x4 (x5 ++ ([r2] : List Int)) (w64 (x6 + 1)))
            (none))
        ((spec_Multiplicity x1 x4 x6).bind fun r3 =>
          cond (decide (x5.length + ([w64 (0 - r3)] : List Int).length ≤ room))
            (spec_LaplacianOf_l2 x1 x3 x4 (x5 ++ ([w64 (0 - r3)] : List Int)) (w64 (x6 + 1)))
            (none)))
      (cond (decide (x3.length + ([x5] : List (List Int)).length ≤ room))
        (spec_LaplacianOf_l0 x1 (x3 ++ ([x5] : List (List Int))) (w64 (x4 + 1)))
        (none)) :=
  (at_eq Γ X 15 [1, 1, 1, 0, 1, 0, 0, 1, 0, 0, 1, 0, 1, 0] _).trans (by kernel_rfl)
theorem spec_ReducedLaplacian_eq (a0 : (Int × (List (Int × Int)))) (a1 : Int) : spec_ReducedLaplacian a0 a1 =
    (spec_GraphOk a0).bind fun r1 =>
      cond (!r1)
        (some ([] : List (List Int)))
        ((spec_l01In a1 0 (w64 (a0.1 - 1))).bind fun r2 =>
          cond (!r2)
            (some ([] : List (List Int)))
            ((spec_LaplacianOf a0).bind fun r3 =>
              spec_ReducedLaplacian_l0 a1 ([] : List (List Int)) r3 (r3.length : Int) 0)) :=
  (den_eq Γ X 16 rfl _).trans (by kernel_rfl)
theorem spec_ReducedLaplacian_l0_eq (x1 : Int) (x5 : (List (List Int))) (x21 : (List (List Int))) (x22 : Int) (x23 : Int) : spec_ReducedLaplacian_l0 x1 x5 x21 x22 x23 =
    cond (decide (x23 < x22))
      (cond (inside x23 x21.length)
        (cond ((x23 : Int) != x1)
          (cond (decide (0 ≤ 0) && decide (0 ≤ x1) && decide (x1 ≤ ((x21.getD x23.toNat ([] : List Int)).length : Int)))
            (cond (decide (([] : List Int).length + (((x21.getD x23.toNat ([] : List Int)).take x1.toNat).drop 0).length ≤ room))
              (cond (decide (0 ≤ w64 (x1 + 1)) && decide (w64 (x1 + 1) ≤ ((x21.getD x23.toNat ([] : List Int)).length : Int)) && decide (((x21.getD x23.toNat ([] : List Int)).length : Int) ≤ ((x21.getD x23.toNat ([] : List Int)).length : Int)))
                (cond (decide ((([] : List Int) ++ (((x21.getD x23.toNat ([] : List Int)).take x1.toNat).drop 0)).length + (((x21.getD x23.toNat ([] : List Int)).take (((x21.getD x23.toNat ([] : List Int)).length : Int).toNat)).drop ((w64 (x1 + 1)).toNat)).length ≤ room))
                  (cond (decide (x5.length + ([(([] : List Int) ++ (((x21.getD x23.toNat ([] : List Int)).take x1.toNat).drop 0)) ++ (((x21.getD x23.toNat ([] : List Int)).take (((x21.getD x23.toNat ([] : List Int)).length : Int).toNat)).drop ((w64 (x1 + 1)).toNat))] : List (List Int)).length ≤ room))
                    (spec_ReducedLaplacian_l0 x1 (x5 ++ ([(([] : List Int) ++ (((x21.getD x23.toNat ([] : List Int)).take x1.toNat).drop 0)) ++ (((x21.getD x23.toNat ([] : List Int)).take (((x21.getD x23.toNat ([] : List Int)).length : Int).toNat)).drop ((w64 (x1 + 1)).toNat))] : List (List Int))) x21 x22 (w64 (x23 + 1)))
                    (none))
                  (none))
                (none))
              (none))
            (none))
          (spec_ReducedLaplacian_l0 x1 x5 x21 x22 (w64 (x23 + 1))))
        (none))
      (some x5) :=
  (at_eq Γ X 16 [1, 1, 1, 0, 1, 0] _).trans (by kernel_rfl)
theorem spec_MatrixOk_eq (a0 : (List (List Int))) : spec_MatrixOk a0 =
    cond (decide ((a0.length : Int) > 6))
      (some false)
      (spec_MatrixOk_l0 a0 a0 (a0.length : Int) 0) :=
  (den_eq Γ X 17 rfl _).trans (by kernel_rfl)
theorem spec_MatrixOk_l0_eq (x0 : (List (List Int))) (x10 : (List (List Int))) (x11 : Int) (x12 : Int) : spec_MatrixOk_l0 x0 x10 x11 x12 =
    cond (decide (x12 < x11))
      (cond (inside x12 x10.length)
        (cond ((((x10.getD x12.toNat ([] : List Int)).length : Int) : Int) != (x0.length : Int))
          (some false)
          (spec_MatrixOk_l2 x0 x10 x11 x12 (x10.getD x12.toNat ([] : List Int)) ((x10.getD x12.toNat ([] : List Int)).length : Int) 0))
        (none))
      (some true) :=
  (at_eq Γ X 17 [1, 1, 0, 1, 0] _).trans (by kernel_rfl)
theorem spec_MatrixOk_l2_eq (x0 : (List (List Int))) (x10 : (List (List Int))) (x11 : Int) (x12 : Int) (x21 : (List Int)) (x22 : Int) (x23 : Int) : spec_MatrixOk_l2 x0 x10 x11 x12 x21 x22 x23 =
    cond (decide (x23 < x22))
      (cond (inside x23 x21.length)
        ((spec_l01In (x21.getD x23.toNat 0) (-500) 500).bind fun r1 =>
          cond (!r1)
            (some false)
            (spec_MatrixOk_l2 x0 x10 x11 x12 x21 x22 (w64 (x23 + 1))))
        (none))
      (spec_MatrixOk_l0 x0 x10 x11 (w64 (x12 + 1))) :=
  (at_eq Γ X 17 [1, 1, 0, 1, 0, 0, 1, 1, 0, 0, 1, 1, 1, 0] _).trans (by kernel_rfl)
theorem spec_l03All_eq (a0 : Int) : spec_l03All a0 =
    spec_l03All_l0 a0 ([] : List Int) 0 :=
  (den_eq Γ X 18 rfl _).trans (by kernel_rfl)
theorem spec_l03All_l0_eq (x0 : Int) (x3 : (List Int)) (x4 : Int) : spec_l03All_l0 x0 x3 x4 =
    cond (decide (x4 < x0))
      (cond (decide (x3.length + ([x4] : List Int).length ≤ room))
        (spec_l03All_l0 x0 (x3 ++ ([x4] : List Int)) (w64 (x4 + 1)))
        (none))
      (some x3) :=
  (at_eq Γ X 18 [1, 1, 0, 1, 0] _).trans (by kernel_rfl)
theorem spec_l03Det_eq (a0 : (List (List Int))) (a1 : (List Int)) (a2 : (List Int)) : spec_l03Det a0 a1 a2 =
    cond (((a1.length : Int) : Int) == 0)
      (some 1)
      (spec_l03Det_l0 a0 a1 a2 0 1 a2 (a2.length : Int) 0) :=
  (den_eq Γ X 19 rfl _).trans (by kernel_rfl)
theorem spec_l03Det_l0_eq (x0 : (List (List Int))) (x1 : (List Int)) (x2 : (List Int)) (x7 : Int) (x8 : Int) (x16 : (List Int)) (x17 : Int) (x18 : Int) : spec_l03Det_l0 x0 x1 x2 x7 x8 x16 x17 x18 =
    cond (decide (x18 < x17))
      (cond (inside x18 x16.length)
        (cond (inside 0 x1.length)
          (cond (inside (x1.getD 0 0) x0.length)
            (cond (inside (x16.getD x18.toNat 0) (x0.getD ((x1.getD 0 0).toNat) ([] : List Int)).length)
              (cond ((((x0.getD ((x1.getD 0 0).toNat) ([] : List Int)).getD ((x16.getD x18.toNat 0).toNat) 0) : Int) != 0)
                (cond (decide (0 ≤ 0) && decide (0 ≤ x18) && decide (x18 ≤ (x2.length : Int)))
                  (cond (decide (([] : List Int).length + ((x2.take x18.toNat).drop 0).length ≤ room))
                    (cond (decide (0 ≤ w64 (x18 + 1)) && decide (w64 (x18 + 1) ≤ (x2.length : Int)) && decide ((x2.length : Int) ≤ (x2.length : Int)))
                      (cond (decide ((([] : List Int) ++ ((x2.take x18.toNat).drop 0)).length + ((x2.take ((x2.length : Int).toNat)).drop ((w64 (x18 + 1)).toNat)).length ≤ room))
                        (cond (decide (0 ≤ 1) && decide (1 ≤ (x1.length : Int)) && decide ((x1.length : Int) ≤ (x1.length : Int)))
                          ((spec_l03Det x0 ((x1.take ((x1.length : Int).toNat)).drop 1) ((([] : List Int) ++ ((x2.take x18.toNat).drop 0)) ++ ((x2.take ((x2.length : Int).toNat)).drop ((w64 (x18 + 1)).toNat)))).bind fun r1 =>
                            spec_l03Det_c12 x0 x1 x2 (w64 (x7 + (w64 ((w64 (x8 * ((x0.getD ((x1.getD 0 0).toNat) ([] : List Int)).getD ((x16.getD x18.toNat 0).toNat) 0))) * r1)))) x8 x16 x17 x18)
                          (none))
                        (none))
                      (none))
                    (none))
                  (none))
                (spec_l03Det_c12 x0 x1 x2 x7 x8 x16 x17 x18))
              (none))
            (none))
          (none))
        (none))
      (some x7) :=
  (at_eq Γ X 19 [1, 1, 1, 1, 0, 1, 0] _).trans (by kernel_rfl)
theorem spec_l03Det_c12_eq (x0 : (List (List Int))) (x1 : (List Int)) (x2 : (List Int)) (x7 : Int) (x8 : Int) (x16 : (List Int)) (x17 : Int) (x18 : Int) : spec_l03Det_c12 x0 x1 x2 x7 x8 x16 x17 x18 =
    spec_l03Det_l0 x0 x1 x2 x7 (w64 (0 - x8)) x16 x17 (w64 (x18 + 1)) :=
  (at_eq Γ X 19 [1, 1, 1, 1, 0, 1, 0, 0, 1, 1, 0, 0, 1, 1, 1] _).trans (by kernel_rfl)
theorem spec_Determinant_eq (a0 : (List (List Int))) : spec_Determinant a0 =
    (spec_MatrixOk a0).bind fun r1 =>
      cond (!r1)
        (some 0)
        ((spec_l03All (a0.length : Int)).bind fun r2 =>
          (spec_l03All (a0.length : Int)).bind fun r3 =>
            (spec_l03Det a0 r2 r3).bind fun r4 =>
              some r4) :=
  (den_eq Γ X 20 rfl _).trans (by kernel_rfl)
theorem spec_CountTrees_eq (a0 : (Int × (List (Int × Int)))) : spec_CountTrees a0 =
    (spec_GraphOk a0).bind fun r1 =>
      cond (!r1)
        (some 0)
        ((spec_ReducedLaplacian a0 0).bind fun r2 =>
          (spec_Determinant r2).bind fun r3 =>
            some r3) :=
  (den_eq Γ X 21 rfl _).trans (by kernel_rfl)
theorem spec_l03Sets_eq (a0 : Int) (a1 : Int) : spec_l03Sets a0 a1 =
    cond ((a1 : Int) == 0)
      (some ([([] : List Int)] : List (List Int)))
      ((spec_l03Sets a0 (w64 (a1 - 1))).bind fun r1 =>
        spec_l03Sets_l0 a0 ([] : List (List Int)) r1 (r1.length : Int) 0) :=
  (den_eq Γ X 22 rfl _).trans (by kernel_rfl)
theorem spec_l03Sets_l0_eq (x0 : Int) (x5 : (List (List Int))) (x18 : (List (List Int))) (x19 : Int) (x20 : Int) : spec_l03Sets_l0 x0 x5 x18 x19 x20 =
    cond (decide (x20 < x19))
      (cond (inside x20 x18.length)
        (cond (decide (((x18.getD x20.toNat ([] : List Int)).length : Int) > 0))
          (cond (inside (w64 (((x18.getD x20.toNat ([] : List Int)).length : Int) - 1)) (x18.getD x20.toNat ([] : List Int)).length)
            (spec_l03Sets_l2 x0 x5 (x18.getD x20.toNat ([] : List Int)) (w64 (((x18.getD x20.toNat ([] : List Int)).getD ((w64 (((x18.getD x20.toNat ([] : List Int)).length : Int) - 1)).toNat) 0) + 1)) x18 x19 x20)
            (none))
          (spec_l03Sets_l2 x0 x5 (x18.getD x20.toNat ([] : List Int)) 0 x18 x19 x20))
        (none))
      (some x5) :=
  (at_eq Γ X 22 [1, 1, 1, 0, 1, 0] _).trans (by kernel_rfl)
theorem spec_l03Sets_l2_eq (x0 : Int) (x5 : (List (List Int))) (x7 : (List Int)) (x9 : Int) (x18 : (List (List Int))) (x19 : Int) (x20 : Int) : spec_l03Sets_l2 x0 x5 x7 x9 x18 x19 x20 =
    cond (decide (x9 < x0))
      (cond (decide (([] : List Int).length + x7.length ≤ room))
        (cond (decide ((([] : List Int) ++ x7).length + ([x9] : List Int).length ≤ room))
          (cond (decide (x5.length + ([(([] : List Int) ++ x7) ++ ([x9] : List Int)] : List (List Int)).length ≤ room))
            (spec_l03Sets_l2 x0 (x5 ++ ([(([] : List Int) ++ x7) ++ ([x9] : List Int)] : List (List Int))) x7 (w64 (x9 + 1)) x18 x19 x20)
            (none))
          (none))
        (none))
      (spec_l03Sets_l0 x0 x5 x18 x19 (w64 (x20 + 1))) :=
  (at_eq Γ X 22 [1, 1, 1, 0, 1, 0, 0, 1, 1, 0, 0, 1, 1, 1, 1, 0] _).trans (by kernel_rfl)
theorem spec_l03Gcd_eq (a0 : Int) (a1 : Int) : spec_l03Gcd a0 a1 =
    spec_l03Gcd_l0 (imax a0 (w64 (0 - a0))) (imax a1 (w64 (0 - a1))) :=
  (den_eq Γ X 23 rfl _).trans (by kernel_rfl)
theorem spec_l03Gcd_l0_eq (x0 : Int) (x1 : Int) : spec_l03Gcd_l0 x0 x1 =
    cond ((x1 : Int) != 0)
      (cond (decide (x1 = 0))
        (none)
        (spec_l03Gcd_l0 x1 (Int.tmod x0 x1)))
      (some x0) :=
  (at_eq Γ X 23 [1, 1, 1, 0, 0] _).trans (by kernel_rfl)
theorem spec_InvariantFactors_eq (a0 : (List (List Int))) : spec_InvariantFactors a0 =
    (spec_MatrixOk a0).bind fun r1 =>
      cond (!r1)
        (some ([] : List Int))
        (spec_InvariantFactors_l0 a0 ([] : List Int) 1 1) :=
  (den_eq Γ X 24 rfl _).trans (by kernel_rfl)
theorem spec_InvariantFactors_l0_eq (x0 : (List (List Int))) (x3 : (List Int)) (x4 : Int) (x5 : Int) : spec_InvariantFactors_l0 x0 x3 x4 x5 =
    cond (decide (x5 ≤ (x0.length : Int)))
      ((spec_l03Sets (x0.length : Int) x5).bind fun r2 =>
        spec_InvariantFactors_l2 x0 x3 x4 x5 0 r2 (r2.length : Int) 0)
      (some x3) :=
  (at_eq Γ X 24 [1, 1, 1, 1, 0, 1, 0] _).trans (by kernel_rfl)
theorem spec_InvariantFactors_l2_eq (x0 : (List (List Int))) (x3 : (List Int)) (x4 : Int) (x5 : Int) (x6 : Int) (x7 : (List (List Int))) (x27 : Int) (x28 : Int) : spec_InvariantFactors_l2 x0 x3 x4 x5 x6 x7 x27 x28 =
    cond (decide (x28 < x27))
      (cond (inside x28 x7.length)
        (spec_InvariantFactors_l4 x0 x3 x4 x5 x6 x7 (x7.getD x28.toNat ([] : List Int)) x27 x28 (x7.length : Int) 0)
        (none))
      (cond ((x4 : Int) == 0)
        (cond (decide (x3.length + ([0] : List Int).length ≤ room))
          (spec_InvariantFactors_l0 x0 (x3 ++ ([0] : List Int)) 0 (w64 (x5 + 1)))
          (none))
        (cond ((x6 : Int) == 0)
          (cond (decide (x3.length + ([0] : List Int).length ≤ room))
            (spec_InvariantFactors_l0 x0 (x3 ++ ([0] : List Int)) 0 (w64 (x5 + 1)))
            (none))
          (cond (decide (x4 = 0))
            (none)
            (cond (decide (x3.length + ([w64 (Int.tdiv x6 x4)] : List Int).length ≤ room))
              (spec_InvariantFactors_l0 x0 (x3 ++ ([w64 (Int.tdiv x6 x4)] : List Int)) x6 (w64 (x5 + 1)))
              (none))))) :=
  (at_eq Γ X 24 [1, 1, 1, 1, 0, 1, 0, 0, 1, 0, 0, 1, 1, 0, 1, 0] _).trans (by kernel_rfl)
theorem spec_InvariantFactors_l4_eq (x0 : (List (List Int))) (x3 : (List Int)) (x4 : Int) (x5 : Int) (x6 : Int) (x7 : (List (List Int))) (x9 : (List Int)) (x27 : Int) (x28 : Int) (x33 : Int) (x34 : Int) : spec_InvariantFactors_l4 x0 x3 x4 x5 x6 x7 x9 x27 x28 x33 x34 =
    cond (decide (x34 < x33))
      (cond (inside x34 x7.length)
        ((spec_l03Det x0 x9 (x7.getD x34.toNat ([] : List Int))).bind fun r3 =>
          (spec_l03Gcd x6 r3).bind fun r4 =>
            spec_InvariantFactors_l4 x0 x3 x4 x5 r4 x7 x9 x27 x28 x33 (w64 (x34 + 1)))
        (none))
      (spec_InvariantFactors_l2 x0 x3 x4 x5 x6 x7 x27 (w64 (x28 + 1))) :=
  (at_eq Γ X 24 [1, 1, 1, 1, 0, 1, 0, 0, 1, 0, 0, 1, 1, 0, 1, 0, 0, 1, 1, 0, 0, 1, 1, 0] _).trans (by kernel_rfl)
theorem spec_GroupFactors_eq (a0 : (Int × (List (Int × Int)))) : spec_GroupFactors a0 =
    (spec_GraphOk a0).bind fun r1 =>
      cond (!r1)
        (some ([] : List Int))
        ((spec_ReducedLaplacian a0 0).bind fun r2 =>
          (spec_InvariantFactors r2).bind fun r3 =>
            spec_GroupFactors_l0 ([] : List Int) r3 (r3.length : Int) 0) :=
  (den_eq Γ X 25 rfl _).trans (by kernel_rfl)
theorem spec_GroupFactors_l0_eq (x3 : (List Int)) (x12 : (List Int)) (x13 : Int) (x14 : Int) : spec_GroupFactors_l0 x3 x12 x13 x14 =
    cond (decide (x14 < x13))
      (cond (inside x14 x12.length)
        (cond (decide (x12.getD x14.toNat 0 > 1))
          (cond (decide (x3.length + ([x12.getD x14.toNat 0] : List Int).length ≤ room))
            (spec_GroupFactors_l0 (x3 ++ ([x12.getD x14.toNat 0] : List Int)) x12 x13 (w64 (x14 + 1)))
            (none))
          (spec_GroupFactors_l0 x3 x12 x13 (w64 (x14 + 1))))
        (none))
      (some x3) :=
  (at_eq Γ X 25 [1, 1, 1, 0, 1, 0] _).trans (by kernel_rfl)
theorem spec_Join_eq (a0 : (List ByteArray)) (a1 : ByteArray) : spec_Join a0 a1 =
    spec_Join_l0 a1 (⟨#[]⟩ : ByteArray) a0 (a0.length : Int) 0 :=
  (den_eq Γ X 26 rfl _).trans (by kernel_rfl)
theorem spec_Join_l0_eq (x1 : ByteArray) (x5 : ByteArray) (x8 : (List ByteArray)) (x9 : Int) (x10 : Int) : spec_Join_l0 x1 x5 x8 x9 x10 =
    cond (decide (x10 < x9))
      (cond (inside x10 x8.length)
        (cond (decide (x10 > 0))
          (cond (decide (x5.size + x1.size ≤ 9223372036854775807))
            (cond (decide ((x5 ++ x1).size + (x8.getD x10.toNat ByteArray.empty).size ≤ 9223372036854775807))
              (spec_Join_l0 x1 ((x5 ++ x1) ++ (x8.getD x10.toNat ByteArray.empty)) x8 x9 (w64 (x10 + 1)))
              (none))
            (none))
          (cond (decide (x5.size + (x8.getD x10.toNat ByteArray.empty).size ≤ 9223372036854775807))
            (spec_Join_l0 x1 (x5 ++ (x8.getD x10.toNat ByteArray.empty)) x8 x9 (w64 (x10 + 1)))
            (none)))
        (none))
      (some x5) :=
  (at_eq Γ X 26 [1, 1, 0, 1, 0] _).trans (by kernel_rfl)
theorem spec_FormatDivisor_eq (a0 : (List Int)) : spec_FormatDivisor a0 =
    spec_FormatDivisor_l0 ([] : List ByteArray) a0 (a0.length : Int) 0 :=
  (den_eq Γ X 27 rfl _).trans (by kernel_rfl)
theorem spec_FormatDivisor_l0_eq (x3 : (List ByteArray)) (x7 : (List Int)) (x8 : Int) (x9 : Int) : spec_FormatDivisor_l0 x3 x7 x8 x9 =
    cond (decide (x9 < x8))
      (cond (inside x9 x7.length)
        ((spec_FormatInt (x7.getD x9.toNat 0)).bind fun r1 =>
          cond (decide (x3.length + ([r1] : List ByteArray).length ≤ room))
            (spec_FormatDivisor_l0 (x3 ++ ([r1] : List ByteArray)) x7 x8 (w64 (x9 + 1)))
            (none))
        (none))
      (cond (((x3.length : Int) : Int) == 0)
        (some (⟨#[110, 111, 110, 101]⟩ : ByteArray))
        ((spec_Join x3 (⟨#[32]⟩ : ByteArray)).bind fun r2 =>
          some r2)) :=
  (at_eq Γ X 27 [1, 1, 0, 1, 0] _).trans (by kernel_rfl)
theorem spec_GraphLine_eq (a0 : (Int × (List (Int × Int)))) : spec_GraphLine a0 =
    (spec_GraphOk a0).bind fun r1 =>
      cond (!r1)
        (some (⟨#[]⟩ : ByteArray))
        ((spec_GenusOf a0).bind fun r2 =>
          (spec_FormatInt r2).bind fun r3 =>
            cond (decide ((⟨#[103, 101, 110, 117, 115, 32]⟩ : ByteArray).size + r3.size ≤ 9223372036854775807))
              (cond (decide (((⟨#[103, 101, 110, 117, 115, 32]⟩ : ByteArray) ++ r3).size + (⟨#[32, 116, 114, 101, 101, 115, 32]⟩ : ByteArray).size ≤ 9223372036854775807))
                ((spec_CountTrees a0).bind fun r4 =>
                  (spec_FormatInt r4).bind fun r5 =>
                    cond (decide ((((⟨#[103, 101, 110, 117, 115, 32]⟩ : ByteArray) ++ r3) ++ (⟨#[32, 116, 114, 101, 101, 115, 32]⟩ : ByteArray)).size + r5.size ≤ 9223372036854775807))
                      (cond (decide (((((⟨#[103, 101, 110, 117, 115, 32]⟩ : ByteArray) ++ r3) ++ (⟨#[32, 116, 114, 101, 101, 115, 32]⟩ : ByteArray)) ++ r5).size + (⟨#[32, 103, 114, 111, 117, 112]⟩ : ByteArray).size ≤ 9223372036854775807))
                        ((spec_GroupFactors a0).bind fun r6 =>
                          cond (((r6.length : Int) : Int) == 0)
                            (cond (decide ((((((⟨#[103, 101, 110, 117, 115, 32]⟩ : ByteArray) ++ r3) ++ (⟨#[32, 116, 114, 101, 101, 115, 32]⟩ : ByteArray)) ++ r5) ++ (⟨#[32, 103, 114, 111, 117, 112]⟩ : ByteArray)).size + (⟨#[32, 116, 114, 105, 118, 105, 97, 108]⟩ : ByteArray).size ≤ 9223372036854775807))
                              (some ((((((⟨#[103, 101, 110, 117, 115, 32]⟩ : ByteArray) ++ r3) ++ (⟨#[32, 116, 114, 101, 101, 115, 32]⟩ : ByteArray)) ++ r5) ++ (⟨#[32, 103, 114, 111, 117, 112]⟩ : ByteArray)) ++ (⟨#[32, 116, 114, 105, 118, 105, 97, 108]⟩ : ByteArray)))
                              (none))
                            (cond (decide ((((((⟨#[103, 101, 110, 117, 115, 32]⟩ : ByteArray) ++ r3) ++ (⟨#[32, 116, 114, 101, 101, 115, 32]⟩ : ByteArray)) ++ r5) ++ (⟨#[32, 103, 114, 111, 117, 112]⟩ : ByteArray)).size + (⟨#[32]⟩ : ByteArray).size ≤ 9223372036854775807))
                              ((spec_FormatDivisor r6).bind fun r7 =>
                                cond (decide (((((((⟨#[103, 101, 110, 117, 115, 32]⟩ : ByteArray) ++ r3) ++ (⟨#[32, 116, 114, 101, 101, 115, 32]⟩ : ByteArray)) ++ r5) ++ (⟨#[32, 103, 114, 111, 117, 112]⟩ : ByteArray)) ++ (⟨#[32]⟩ : ByteArray)).size + r7.size ≤ 9223372036854775807))
                                  (some (((((((⟨#[103, 101, 110, 117, 115, 32]⟩ : ByteArray) ++ r3) ++ (⟨#[32, 116, 114, 101, 101, 115, 32]⟩ : ByteArray)) ++ r5) ++ (⟨#[32, 103, 114, 111, 117, 112]⟩ : ByteArray)) ++ (⟨#[32]⟩ : ByteArray)) ++ r7))
                                  (none))
                              (none)))
                        (none))
                      (none))
                (none))
              (none)) :=
  (den_eq Γ X 28 rfl _).trans (by kernel_rfl)
theorem impl_within_eq (a0 : Int) (a1 : Int) (a2 : Int) : impl_within a0 a1 a2 =
    cond (decide (a0 ≥ a1))
      (some (decide (a0 ≤ a2)))
      (some false) :=
  (den_eq Γ X 29 rfl _).trans (by kernel_rfl)
theorem impl_EdgesOk_eq (a0 : (Int × (List (Int × Int)))) : impl_EdgesOk a0 =
    (impl_within a0.1 1 6).bind fun r1 =>
      cond (!r1)
        (some false)
        (cond (decide ((a0.2.length : Int) > 12))
          (some false)
          (impl_EdgesOk_l0 a0 a0.2 (a0.2.length : Int) 0)) :=
  (den_eq Γ X 30 rfl _).trans (by kernel_rfl)
theorem impl_EdgesOk_l0_eq (x1 : (Int × (List (Int × Int)))) (x16 : (List (Int × Int))) (x17 : Int) (x18 : Int) : impl_EdgesOk_l0 x1 x16 x17 x18 =
    cond (decide (x18 < x17))
      (cond (inside x18 x16.length)
        (cond (decide ((x16.getD x18.toNat (0, 0)).1 < 0))
          (some false)
          (cond (decide ((x16.getD x18.toNat (0, 0)).1 ≥ (x16.getD x18.toNat (0, 0)).2))
            (some false)
            (cond (decide ((x16.getD x18.toNat (0, 0)).2 ≥ x1.1))
              (some false)
              (impl_EdgesOk_l0 x1 x16 x17 (w64 (x18 + 1))))))
        (none))
      (some true) :=
  (at_eq Γ X 30 [1, 1, 0, 1, 0] _).trans (by kernel_rfl)
theorem cmp_isNaN_int_eq (a0 : Int) : cmp_isNaN_int a0 =
    some ((a0 : Int) != a0) :=
  (den_eq Γ X 31 rfl _).trans (by kernel_rfl)
theorem cmp_Compare_int_eq (a0 : Int) (a1 : Int) : cmp_Compare_int a0 a1 =
    (cmp_isNaN_int a0).bind fun r1 =>
      (cmp_isNaN_int a1).bind fun r2 =>
        cond (r1)
          (cond (r2)
            (some 0)
            (some (-1)))
          (cond (r2)
            (some 1)
            (cond (decide (a0 < a1))
              (some (-1))
              (cond (decide (a0 > a1))
                (some 1)
                (some 0)))) :=
  (den_eq Γ X 32 rfl _).trans (by kernel_rfl)
theorem impl_compareEdges_eq (a0 : (Int × Int)) (a1 : (Int × Int)) : impl_compareEdges a0 a1 =
    (cmp_Compare_int a0.1 a1.1).bind fun r1 =>
      cond ((r1 : Int) != 0)
        (some r1)
        ((cmp_Compare_int a0.2 a1.2).bind fun r2 =>
          some r2) :=
  (den_eq Γ X 33 rfl _).trans (by kernel_rfl)
theorem impl_Edge__compareEdges_eq (a0 : (List (Int × Int))) : impl_Edge__compareEdges a0 =
    impl_Edge__compareEdges_l0 a0 (w64 ((a0.length : Int) - 1)) :=
  (den_eq Γ X 34 rfl _).trans (by kernel_rfl)
theorem impl_Edge__compareEdges_l0_eq (x0 : (List (Int × Int))) (x5 : Int) : impl_Edge__compareEdges_l0 x0 x5 =
    cond (decide (x5 > 0))
      (cond (inside x5 x0.length)
        (cond (inside (w64 (x5 - 1)) x0.length)
          ((impl_compareEdges (x0.getD x5.toNat (0, 0)) (x0.getD ((w64 (x5 - 1)).toNat) (0, 0))).bind fun r1 =>
            cond (decide (r1 < 0))
              (some false)
              (impl_Edge__compareEdges_l0 x0 (w64 (x5 - 1))))
          (none))
        (none))
      (some true) :=
  (at_eq Γ X 34 [1, 0, 1, 0] _).trans (by kernel_rfl)
theorem impl_connected_eq (a0 : Int) (a1 : (List (Int × Int))) : impl_connected a0 a1 =
    impl_connected_l0 a0 a1 1 a0 0 :=
  (den_eq Γ X 35 rfl _).trans (by kernel_rfl)
theorem impl_connected_l0_eq (x0 : Int) (x1 : (List (Int × Int))) (x5 : Int) (x8 : Int) (x9 : Int) : impl_connected_l0 x0 x1 x5 x8 x9 =
    cond (decide (x9 < x8))
      (impl_connected_l2 x0 x1 x5 x8 x9 x1 (x1.length : Int) 0)
      (cond (decide (x0 < 0))
        (none)
        (some ((x5 : Int) == (w64 ((w64 (1 * 2 ^ (min x0.toNat 64))) - 1))))) :=
  (at_eq Γ X 35 [1, 1, 0, 1, 0] _).trans (by kernel_rfl)
theorem impl_connected_l2_eq (x0 : Int) (x1 : (List (Int × Int))) (x5 : Int) (x8 : Int) (x9 : Int) (x11 : (List (Int × Int))) (x12 : Int) (x13 : Int) : impl_connected_l2 x0 x1 x5 x8 x9 x11 x12 x13 =
    cond (decide (x13 < x12))
      (cond (inside x13 x11.length)
        (cond (decide ((x11.getD x13.toNat (0, 0)).1 < 0))
          (none)
          (cond (((bits .and .i64 (Int.fdiv x5 (2 ^ (min ((x11.getD x13.toNat (0, 0)).1).toNat 64))) 1) : Int) == 1)
            (cond (decide ((x11.getD x13.toNat (0, 0)).1 < 0))
              (none)
              (cond (decide ((x11.getD x13.toNat (0, 0)).2 < 0))
                (none)
                (impl_connected_l2 x0 x1 (bits .or .i64 x5 (bits .or .i64 (w64 (1 * 2 ^ (min ((x11.getD x13.toNat (0, 0)).1).toNat 64))) (w64 (1 * 2 ^ (min ((x11.getD x13.toNat (0, 0)).2).toNat 64))))) x8 x9 x11 x12 (w64 (x13 + 1)))))
            (cond (decide ((x11.getD x13.toNat (0, 0)).2 < 0))
              (none)
              (cond (((bits .and .i64 (Int.fdiv x5 (2 ^ (min ((x11.getD x13.toNat (0, 0)).2).toNat 64))) 1) : Int) == 1)
                (cond (decide ((x11.getD x13.toNat (0, 0)).1 < 0))
                  (none)
                  (cond (decide ((x11.getD x13.toNat (0, 0)).2 < 0))
                    (none)
                    (impl_connected_l2 x0 x1 (bits .or .i64 x5 (bits .or .i64 (w64 (1 * 2 ^ (min ((x11.getD x13.toNat (0, 0)).1).toNat 64))) (w64 (1 * 2 ^ (min ((x11.getD x13.toNat (0, 0)).2).toNat 64))))) x8 x9 x11 x12 (w64 (x13 + 1)))))
                (impl_connected_l2 x0 x1 x5 x8 x9 x11 x12 (w64 (x13 + 1)))))))
        (none))
      (impl_connected_l0 x0 x1 x5 x8 (w64 (x9 + 1))) :=
  (at_eq Γ X 35 [1, 1, 0, 1, 0, 0, 1, 1, 0, 0, 1, 0] _).trans (by kernel_rfl)
theorem impl_GraphOk_eq (a0 : (Int × (List (Int × Int)))) : impl_GraphOk a0 =
    (impl_EdgesOk a0).bind fun r1 =>
      cond (r1)
        ((impl_Edge__compareEdges a0.2).bind fun r2 =>
          cond (r2)
            ((impl_connected a0.1 a0.2).bind fun r3 =>
              some r3)
            (some false))
        (some false) :=
  (den_eq Γ X 36 rfl _).trans (by kernel_rfl)
theorem impl_isVertex_eq (a0 : (Int × (List (Int × Int)))) (a1 : Int) : impl_isVertex a0 a1 =
    (impl_GraphOk a0).bind fun r1 =>
      cond (r1)
        ((impl_within a1 0 (w64 (a0.1 - 1))).bind fun r2 =>
          some r2)
        (some false) :=
  (den_eq Γ X 37 rfl _).trans (by kernel_rfl)
theorem impl_Multiplicity_eq (a0 : (Int × (List (Int × Int)))) (a1 : Int) (a2 : Int) : impl_Multiplicity a0 a1 a2 =
    cond (decide (imin a1 a2 < 0))
      (some 0)
      (cond (decide (imax a1 a2 ≥ a0.1))
        (some 0)
        (cond ((a1 : Int) == a2)
          (some 0)
          (impl_Multiplicity_l0 a1 a2 0 a0.2 (a0.2.length : Int) 0))) :=
  (den_eq Γ X 38 rfl _).trans (by kernel_rfl)
theorem impl_Multiplicity_l0_eq (x1 : Int) (x2 : Int) (x7 : Int) (x28 : (List (Int × Int))) (x29 : Int) (x30 : Int) : impl_Multiplicity_l0 x1 x2 x7 x28 x29 x30 =
    cond (decide (x30 < x29))
      (cond (inside x30 x28.length)
        (cond ((((x28.getD x30.toNat (0, 0)).1) : Int) == (imin x1 x2))
          (cond ((((x28.getD x30.toNat (0, 0)).2) : Int) == (imax x1 x2))
            (impl_Multiplicity_l0 x1 x2 (w64 (x7 + 1)) x28 x29 (w64 (x30 + 1)))
            (impl_Multiplicity_l0 x1 x2 x7 x28 x29 (w64 (x30 + 1))))
          (impl_Multiplicity_l0 x1 x2 x7 x28 x29 (w64 (x30 + 1))))
        (none))
      (some x7) :=
  (at_eq Γ X 38 [1, 1, 1, 0, 1, 0] _).trans (by kernel_rfl)
theorem impl_Valence_eq (a0 : (Int × (List (Int × Int)))) (a1 : Int) : impl_Valence a0 a1 =
    cond (decide (a1 < 0))
      (some 0)
      (cond (decide (a1 ≥ a0.1))
        (some 0)
        (impl_Valence_l0 a1 0 a0.2 (a0.2.length : Int) 0)) :=
  (den_eq Γ X 39 rfl _).trans (by kernel_rfl)
theorem impl_Valence_l0_eq (x1 : Int) (x5 : Int) (x17 : (List (Int × Int))) (x18 : Int) (x19 : Int) : impl_Valence_l0 x1 x5 x17 x18 x19 =
    cond (decide (x19 < x18))
      (cond (inside x19 x17.length)
        (cond ((((x17.getD x19.toNat (0, 0)).1) : Int) == x1)
          (impl_Valence_l0 x1 (w64 (x5 + 1)) x17 x18 (w64 (x19 + 1)))
          (cond ((((x17.getD x19.toNat (0, 0)).2) : Int) == x1)
            (impl_Valence_l0 x1 (w64 (x5 + 1)) x17 x18 (w64 (x19 + 1)))
            (impl_Valence_l0 x1 x5 x17 x18 (w64 (x19 + 1)))))
        (none))
      (some x5) :=
  (at_eq Γ X 39 [1, 1, 1, 0, 1, 0] _).trans (by kernel_rfl)
theorem impl_LaplacianOf_eq (a0 : (Int × (List (Int × Int)))) : impl_LaplacianOf a0 =
    (impl_GraphOk a0).bind fun r1 =>
      cond (!r1)
        (some ([] : List (List Int)))
        (impl_LaplacianOf_l0 a0 ([] : List (List Int)) 0) :=
  (den_eq Γ X 40 rfl _).trans (by kernel_rfl)
theorem impl_LaplacianOf_l0_eq (x1 : (Int × (List (Int × Int)))) (x3 : (List (List Int))) (x4 : Int) : impl_LaplacianOf_l0 x1 x3 x4 =
    cond (decide (x4 < x1.1))
      (cond (decide (0 ≤ x1.1) && decide (x1.1 ≤ (room : Int)))
        (impl_LaplacianOf_l2 x1 x3 x4 (List.replicate x1.1.toNat (0 : Int)) ((List.replicate x1.1.toNat (0 : Int)).length : Int) 0)
        (none))
      (some x3) :=
  (at_eq Γ X 40 [1, 1, 1, 0, 1, 0] _).trans (by kernel_rfl)
theorem impl_LaplacianOf_l2_eq (x1 : (Int × (List (Int × Int)))) (x3 : (List (List Int))) (x4 : Int) (x5 : (List Int)) (x20 : Int) (x21 : Int) : impl_LaplacianOf_l2 x1 x3 x4 x5 x20 x21 =
    cond (decide (x21 < x20))
      ((impl_Multiplicity x1 x4 x21).bind fun r2 =>
        cond (inside x21 x5.length)
          (impl_LaplacianOf_l2 x1 x3 x4 (x5.set x21.toNat (w64 (0 - r2))) x20 (w64 (x21 + 1)))
          (none))
      ((impl_Valence x1 x4).bind fun r3 =>
        cond (inside x4 x5.length)
          (cond (decide (x3.length + ([x5.set x4.toNat r3] : List (List Int)).length ≤ room))
            (impl_LaplacianOf_l0 x1 (x3 ++ ([x5.set x4.toNat r3] : List (List Int))) (w64 (x4 + 1)))
            (none))
          (none)) :=
  (at_eq Γ X 40 [1, 1, 1, 0, 1, 0, 0, 1, 0, 0, 1, 0, 1, 0] _).trans (by kernel_rfl)
theorem impl_ReducedLaplacian_eq (a0 : (Int × (List (Int × Int)))) (a1 : Int) : impl_ReducedLaplacian a0 a1 = Lb.redLap impl_isVertex impl_LaplacianOf a0 a1 := den_ext Γ X 41 rfl _
theorem impl_allWithin_eq (a0 : (List Int)) (a1 : Int) (a2 : Int) : impl_allWithin a0 a1 a2 =
    impl_allWithin_l0 a1 a2 a0 (a0.length : Int) 0 :=
  (den_eq Γ X 42 rfl _).trans (by kernel_rfl)
theorem impl_allWithin_l0_eq (x1 : Int) (x2 : Int) (x9 : (List Int)) (x10 : Int) (x11 : Int) : impl_allWithin_l0 x1 x2 x9 x10 x11 =
    cond (decide (x11 < x10))
      (cond (inside x11 x9.length)
        ((impl_within (x9.getD x11.toNat 0) x1 x2).bind fun r1 =>
          cond (!r1)
            (some false)
            (impl_allWithin_l0 x1 x2 x9 x10 (w64 (x11 + 1))))
        (none))
      (some true) :=
  (at_eq Γ X 42 [1, 0, 1, 0] _).trans (by kernel_rfl)
theorem impl_MatrixOk_eq (a0 : (List (List Int))) : impl_MatrixOk a0 =
    cond (decide ((a0.length : Int) > 6))
      (some false)
      (impl_MatrixOk_l0 a0 a0 (a0.length : Int) 0) :=
  (den_eq Γ X 43 rfl _).trans (by kernel_rfl)
theorem impl_MatrixOk_l0_eq (x0 : (List (List Int))) (x8 : (List (List Int))) (x9 : Int) (x10 : Int) : impl_MatrixOk_l0 x0 x8 x9 x10 =
    cond (decide (x10 < x9))
      (cond (inside x10 x8.length)
        (cond ((((x8.getD x10.toNat ([] : List Int)).length : Int) : Int) != (x0.length : Int))
          (some false)
          ((impl_allWithin (x8.getD x10.toNat ([] : List Int)) (-500) 500).bind fun r1 =>
            cond (!r1)
              (some false)
              (impl_MatrixOk_l0 x0 x8 x9 (w64 (x10 + 1)))))
        (none))
      (some true) :=
  (at_eq Γ X 43 [1, 1, 0, 1, 0] _).trans (by kernel_rfl)
theorem impl_bitsOf_eq (a0 : Int) : impl_bitsOf a0 =
    impl_bitsOf_l0 a0 ([] : List Int) 0 :=
  (den_eq Γ X 44 rfl _).trans (by kernel_rfl)
theorem impl_bitsOf_l0_eq (x0 : Int) (x3 : (List Int)) (x4 : Int) : impl_bitsOf_l0 x0 x3 x4 =
    cond (decide (x4 < 0))
      (none)
      (cond (decide (Int.fdiv x0 (2 ^ (min x4.toNat 64)) > 0))
        (cond (decide (x4 < 0))
          (none)
          (cond (((bits .and .i64 (Int.fdiv x0 (2 ^ (min x4.toNat 64))) 1) : Int) == 1)
            (cond (decide (x3.length + ([x4] : List Int).length ≤ room))
              (impl_bitsOf_l0 x0 (x3 ++ ([x4] : List Int)) (w64 (x4 + 1)))
              (none))
            (impl_bitsOf_l0 x0 x3 (w64 (x4 + 1)))))
        (some x3)) :=
  (at_eq Γ X 44 [1, 1, 0, 1, 0] _).trans (by kernel_rfl)
theorem impl_determinant_eq (a0 : (List (List Int))) (a1 : (List Int)) (a2 : Int) : impl_determinant a0 a1 a2 =
    cond (((a1.length : Int) : Int) == 0)
      (some 1)
      (cond (inside 0 a1.length)
        (cond (inside (a1.getD 0 0) a0.length)
          (impl_determinant_l0 a0 a1 a2 0 1 (a0.getD ((a1.getD 0 0).toNat) ([] : List Int)) ((a0.getD ((a1.getD 0 0).toNat) ([] : List Int)).length : Int) 0)
          (none))
        (none)) :=
  (den_eq Γ X 45 rfl _).trans (by kernel_rfl)
theorem impl_determinant_l0_eq (x0 : (List (List Int))) (x1 : (List Int)) (x2 : Int) (x7 : Int) (x8 : Int) (x19 : (List Int)) (x20 : Int) (x21 : Int) : impl_determinant_l0 x0 x1 x2 x7 x8 x19 x20 x21 =
    cond (decide (x21 < x20))
      (cond (inside x21 x19.length)
        (cond (decide (x21 < 0))
          (none)
          (cond (((bits .and .i64 (Int.fdiv x2 (2 ^ (min x21.toNat 64))) 1) : Int) == 0)
            (impl_determinant_l0 x0 x1 x2 x7 x8 x19 x20 (w64 (x21 + 1)))
            (cond (((x19.getD x21.toNat 0) : Int) != 0)
              (cond (decide (0 ≤ 1) && decide (1 ≤ (x1.length : Int)) && decide ((x1.length : Int) ≤ (x1.length : Int)))
                (cond (decide (x21 < 0))
                  (none)
                  ((impl_determinant x0 ((x1.take ((x1.length : Int).toNat)).drop 1) (bits .andNot .i64 x2 (w64 (1 * 2 ^ (min x21.toNat 64))))).bind fun r1 =>
                    impl_determinant_l0 x0 x1 x2 (w64 (x7 + (w64 ((w64 (x8 * (x19.getD x21.toNat 0))) * r1)))) (w64 (0 - x8)) x19 x20 (w64 (x21 + 1))))
                (none))
              (impl_determinant_l0 x0 x1 x2 x7 (w64 (0 - x8)) x19 x20 (w64 (x21 + 1))))))
        (none))
      (some x7) :=
  (at_eq Γ X 45 [1, 1, 1, 0, 1, 0] _).trans (by kernel_rfl)
theorem impl_magnitude_eq (a0 : Int) : impl_magnitude a0 =
    some (imax a0 (w64 (0 - a0))) :=
  (den_eq Γ X 46 rfl _).trans (by kernel_rfl)
theorem impl_divisor_eq (a0 : Int) (a1 : Int) : impl_divisor a0 a1 =
    impl_divisor_l0 a0 a1 :=
  (den_eq Γ X 47 rfl _).trans (by kernel_rfl)
theorem impl_divisor_l0_eq (x0 : Int) (x1 : Int) : impl_divisor_l0 x0 x1 =
    cond ((x1 : Int) != 0)
      (cond (decide (x1 = 0))
        (none)
        (impl_divisor_l0 x1 (Int.tmod x0 x1)))
      ((impl_magnitude x0).bind fun r1 =>
        some r1) :=
  (at_eq Γ X 47 [1, 0, 0] _).trans (by kernel_rfl)
theorem impl_InvariantFactors_eq (a0 : (List (List Int))) : impl_InvariantFactors a0 =
    (impl_MatrixOk a0).bind fun r1 =>
      cond (!r1)
        (some ([] : List Int))
        (cond (((a0.length : Int) : Int) == 0)
          (some ([] : List Int))
          (cond (decide (0 ≤ w64 ((a0.length : Int) + 1)) && decide (w64 ((a0.length : Int) + 1) ≤ (room : Int)))
            (impl_InvariantFactors_l0 a0 (List.replicate (w64 ((a0.length : Int) + 1)).toNat (0 : Int)) 0)
            (none))) :=
  (den_eq Γ X 48 rfl _).trans (by kernel_rfl)
theorem impl_InvariantFactors_l0_eq (x0 : (List (List Int))) (x3 : (List Int)) (x4 : Int) : impl_InvariantFactors_l0 x0 x3 x4 =
    cond (decide ((x0.length : Int) < 0))
      (none)
      (cond (decide (x4 < w64 (1 * 2 ^ (min (x0.length : Int).toNat 64))))
        ((impl_bitsOf x4).bind fun r2 =>
          impl_InvariantFactors_l2 x0 x3 x4 r2 0)
        (impl_InvariantFactors_l4 x3 ([] : List Int) (x0.length : Int) 0)) :=
  (at_eq Γ X 48 [1, 1, 1, 0, 1, 0] _).trans (by kernel_rfl)
theorem impl_InvariantFactors_l2_eq (x0 : (List (List Int))) (x3 : (List Int)) (x4 : Int) (x5 : (List Int)) (x6 : Int) : impl_InvariantFactors_l2 x0 x3 x4 x5 x6 =
    cond (decide ((x0.length : Int) < 0))
      (none)
      (cond (decide (x6 < w64 (1 * 2 ^ (min (x0.length : Int).toNat 64))))
        ((impl_bitsOf x6).bind fun r3 =>
          cond (((r3.length : Int) : Int) == (x5.length : Int))
            (cond (inside (x5.length : Int) x3.length)
              ((impl_determinant x0 x5 x6).bind fun r4 =>
                (impl_divisor (x3.getD ((x5.length : Int).toNat) 0) r4).bind fun r5 =>
                  cond (inside (x5.length : Int) x3.length)
                    (impl_InvariantFactors_l2 x0 (x3.set ((x5.length : Int).toNat) r5) x4 x5 (w64 (x6 + 1)))
                    (none))
              (none))
            (impl_InvariantFactors_l2 x0 x3 x4 x5 (w64 (x6 + 1))))
        (impl_InvariantFactors_l0 x0 x3 (w64 (x4 + 1)))) :=
  (at_eq Γ X 48 [1, 1, 1, 0, 1, 0, 0, 1, 0, 0, 1, 1, 0] _).trans (by kernel_rfl)
theorem impl_InvariantFactors_l4_eq (x3 : (List Int)) (x7 : (List Int)) (x58 : Int) (x59 : Int) : impl_InvariantFactors_l4 x3 x7 x58 x59 =
    cond (decide (x59 < x58))
      (cond (inside (w64 (x59 + 1)) x3.length)
        (cond (((x3.getD ((w64 (x59 + 1)).toNat) 0) : Int) == 0)
          (cond (decide (x7.length + ([0] : List Int).length ≤ room))
            (impl_InvariantFactors_l4 x3 (x7 ++ ([0] : List Int)) x58 (w64 (x59 + 1)))
            (none))
          (cond (inside (w64 (x59 + 1)) x3.length)
            (cond (inside x59 x3.length)
              (cond (decide (x3.getD x59.toNat 0 = 0))
                (none)
                (cond (decide (x7.length + ([w64 (Int.tdiv (x3.getD ((w64 (x59 + 1)).toNat) 0) (x3.getD x59.toNat 0))] : List Int).length ≤ room))
                  (impl_InvariantFactors_l4 x3 (x7 ++ ([w64 (Int.tdiv (x3.getD ((w64 (x59 + 1)).toNat) 0) (x3.getD x59.toNat 0))] : List Int)) x58 (w64 (x59 + 1)))
                  (none)))
              (none))
            (none)))
        (none))
      (some x7) :=
  (at_eq Γ X 48 [1, 1, 1, 1, 1, 0, 1, 0] _).trans (by kernel_rfl)
theorem impl_GroupFactors_eq (a0 : (Int × (List (Int × Int)))) : impl_GroupFactors a0 =
    (impl_GraphOk a0).bind fun r1 =>
      cond (!r1)
        (some ([] : List Int))
        ((impl_ReducedLaplacian a0 0).bind fun r2 =>
          (impl_InvariantFactors r2).bind fun r3 =>
            impl_GroupFactors_l0 ([] : List Int) r3 (r3.length : Int) 0) :=
  (den_eq Γ X 49 rfl _).trans (by kernel_rfl)
theorem impl_GroupFactors_l0_eq (x3 : (List Int)) (x11 : (List Int)) (x12 : Int) (x13 : Int) : impl_GroupFactors_l0 x3 x11 x12 x13 =
    cond (decide (x13 < x12))
      (cond (inside x13 x11.length)
        (cond (decide (x11.getD x13.toNat 0 > 1))
          (cond (decide (x3.length + ([x11.getD x13.toNat 0] : List Int).length ≤ room))
            (impl_GroupFactors_l0 (x3 ++ ([x11.getD x13.toNat 0] : List Int)) x11 x12 (w64 (x13 + 1)))
            (none))
          (impl_GroupFactors_l0 x3 x11 x12 (w64 (x13 + 1))))
        (none))
      (some x3) :=
  (at_eq Γ X 49 [1, 1, 1, 0, 1, 0] _).trans (by kernel_rfl)
theorem strconv_Itoa_eq (a0 : Int) : strconv_Itoa a0 = Lb.itoa a0 := den_ext Γ X 50 rfl _
theorem impl_FormatInt_eq (a0 : Int) : impl_FormatInt a0 =
    (strconv_Itoa a0).bind fun r1 =>
      some r1 :=
  (den_eq Γ X 51 rfl _).trans (by kernel_rfl)
theorem strings_Join_eq (a0 : (List ByteArray)) (a1 : ByteArray) : strings_Join a0 a1 = Lb.join a0 a1 := den_ext Γ X 52 rfl _
theorem impl_Join_eq (a0 : (List ByteArray)) (a1 : ByteArray) : impl_Join a0 a1 =
    (strings_Join a0 a1).bind fun r1 =>
      some r1 :=
  (den_eq Γ X 53 rfl _).trans (by kernel_rfl)
theorem impl_FormatDivisor_eq (a0 : (List Int)) : impl_FormatDivisor a0 =
    cond (((a0.length : Int) : Int) == 0)
      (some (⟨#[110, 111, 110, 101]⟩ : ByteArray))
      (impl_FormatDivisor_l0 ([] : List ByteArray) a0 (a0.length : Int) 0) :=
  (den_eq Γ X 54 rfl _).trans (by kernel_rfl)
theorem impl_FormatDivisor_l0_eq (x3 : (List ByteArray)) (x9 : (List Int)) (x10 : Int) (x11 : Int) : impl_FormatDivisor_l0 x3 x9 x10 x11 =
    cond (decide (x11 < x10))
      (cond (inside x11 x9.length)
        ((impl_FormatInt (x9.getD x11.toNat 0)).bind fun r1 =>
          cond (decide (x3.length + ([r1] : List ByteArray).length ≤ room))
            (impl_FormatDivisor_l0 (x3 ++ ([r1] : List ByteArray)) x9 x10 (w64 (x11 + 1)))
            (none))
        (none))
      ((impl_Join x3 (⟨#[32]⟩ : ByteArray)).bind fun r2 =>
        some r2) :=
  (at_eq Γ X 54 [1, 1, 1, 0, 1, 0] _).trans (by kernel_rfl)
theorem impl_GenusOf_eq (a0 : (Int × (List (Int × Int)))) : impl_GenusOf a0 =
    (impl_GraphOk a0).bind fun r1 =>
      cond (!r1)
        (some (-1))
        (some (w64 ((w64 ((a0.2.length : Int) - a0.1)) + 1))) :=
  (den_eq Γ X 55 rfl _).trans (by kernel_rfl)
theorem impl_Determinant_eq (a0 : (List (List Int))) : impl_Determinant a0 =
    (impl_MatrixOk a0).bind fun r1 =>
      cond (!r1)
        (some 0)
        (cond (decide ((a0.length : Int) < 0))
          (none)
          ((impl_bitsOf (w64 ((w64 (1 * 2 ^ (min (a0.length : Int).toNat 64))) - 1))).bind fun r2 =>
            cond (decide ((a0.length : Int) < 0))
              (none)
              ((impl_determinant a0 r2 (w64 ((w64 (1 * 2 ^ (min (a0.length : Int).toNat 64))) - 1))).bind fun r3 =>
                some r3))) :=
  (den_eq Γ X 56 rfl _).trans (by kernel_rfl)
theorem impl_CountTrees_eq (a0 : (Int × (List (Int × Int)))) : impl_CountTrees a0 =
    (impl_GraphOk a0).bind fun r1 =>
      cond (!r1)
        (some 0)
        ((impl_ReducedLaplacian a0 0).bind fun r2 =>
          (impl_Determinant r2).bind fun r3 =>
            some r3) :=
  (den_eq Γ X 57 rfl _).trans (by kernel_rfl)
theorem impl_GraphLine_eq (a0 : (Int × (List (Int × Int)))) : impl_GraphLine a0 =
    (impl_GraphOk a0).bind fun r1 =>
      cond (!r1)
        (some (⟨#[]⟩ : ByteArray))
        ((impl_GroupFactors a0).bind fun r2 =>
          cond (decide ((r2.length : Int) > 0))
            ((impl_FormatDivisor r2).bind fun r3 =>
              (impl_GenusOf a0).bind fun r4 =>
                (impl_FormatInt r4).bind fun r5 =>
                  cond (decide ((⟨#[103, 101, 110, 117, 115, 32]⟩ : ByteArray).size + r5.size ≤ 9223372036854775807))
                    (cond (decide (((⟨#[103, 101, 110, 117, 115, 32]⟩ : ByteArray) ++ r5).size + (⟨#[32, 116, 114, 101, 101, 115, 32]⟩ : ByteArray).size ≤ 9223372036854775807))
                      ((impl_CountTrees a0).bind fun r6 =>
                        (impl_FormatInt r6).bind fun r7 =>
                          cond (decide ((((⟨#[103, 101, 110, 117, 115, 32]⟩ : ByteArray) ++ r5) ++ (⟨#[32, 116, 114, 101, 101, 115, 32]⟩ : ByteArray)).size + r7.size ≤ 9223372036854775807))
                            (cond (decide (((((⟨#[103, 101, 110, 117, 115, 32]⟩ : ByteArray) ++ r5) ++ (⟨#[32, 116, 114, 101, 101, 115, 32]⟩ : ByteArray)) ++ r7).size + (⟨#[32, 103, 114, 111, 117, 112, 32]⟩ : ByteArray).size ≤ 9223372036854775807))
                              (cond (decide ((((((⟨#[103, 101, 110, 117, 115, 32]⟩ : ByteArray) ++ r5) ++ (⟨#[32, 116, 114, 101, 101, 115, 32]⟩ : ByteArray)) ++ r7) ++ (⟨#[32, 103, 114, 111, 117, 112, 32]⟩ : ByteArray)).size + r3.size ≤ 9223372036854775807))
                                (some ((((((⟨#[103, 101, 110, 117, 115, 32]⟩ : ByteArray) ++ r5) ++ (⟨#[32, 116, 114, 101, 101, 115, 32]⟩ : ByteArray)) ++ r7) ++ (⟨#[32, 103, 114, 111, 117, 112, 32]⟩ : ByteArray)) ++ r3))
                                (none))
                              (none))
                            (none))
                      (none))
                    (none))
            ((impl_GenusOf a0).bind fun r8 =>
              (impl_FormatInt r8).bind fun r9 =>
                cond (decide ((⟨#[103, 101, 110, 117, 115, 32]⟩ : ByteArray).size + r9.size ≤ 9223372036854775807))
                  (cond (decide (((⟨#[103, 101, 110, 117, 115, 32]⟩ : ByteArray) ++ r9).size + (⟨#[32, 116, 114, 101, 101, 115, 32]⟩ : ByteArray).size ≤ 9223372036854775807))
                    ((impl_CountTrees a0).bind fun r10 =>
                      (impl_FormatInt r10).bind fun r11 =>
                        cond (decide ((((⟨#[103, 101, 110, 117, 115, 32]⟩ : ByteArray) ++ r9) ++ (⟨#[32, 116, 114, 101, 101, 115, 32]⟩ : ByteArray)).size + r11.size ≤ 9223372036854775807))
                          (cond (decide (((((⟨#[103, 101, 110, 117, 115, 32]⟩ : ByteArray) ++ r9) ++ (⟨#[32, 116, 114, 101, 101, 115, 32]⟩ : ByteArray)) ++ r11).size + (⟨#[32, 103, 114, 111, 117, 112, 32]⟩ : ByteArray).size ≤ 9223372036854775807))
                            (cond (decide ((((((⟨#[103, 101, 110, 117, 115, 32]⟩ : ByteArray) ++ r9) ++ (⟨#[32, 116, 114, 101, 101, 115, 32]⟩ : ByteArray)) ++ r11) ++ (⟨#[32, 103, 114, 111, 117, 112, 32]⟩ : ByteArray)).size + (⟨#[116, 114, 105, 118, 105, 97, 108]⟩ : ByteArray).size ≤ 9223372036854775807))
                              (some ((((((⟨#[103, 101, 110, 117, 115, 32]⟩ : ByteArray) ++ r9) ++ (⟨#[32, 116, 114, 101, 101, 115, 32]⟩ : ByteArray)) ++ r11) ++ (⟨#[32, 103, 114, 111, 117, 112, 32]⟩ : ByteArray)) ++ (⟨#[116, 114, 105, 118, 105, 97, 108]⟩ : ByteArray)))
                              (none))
                            (none))
                          (none))
                    (none))
                  (none))) :=
  (den_eq Γ X 58 rfl _).trans (by kernel_rfl)
theorem laws_eqEdge_eq (a0 : (Int × Int)) (a1 : (Int × Int)) : laws_eqEdge a0 a1 =
    cond ((a0.1 : Int) != a1.1)
      (some false)
      (cond ((a0.2 : Int) != a1.2)
        (some false)
        (some true)) :=
  (den_eq Γ X 59 rfl _).trans (by kernel_rfl)
theorem laws_eqEdgeS_eq (a0 : (List (Int × Int))) (a1 : (List (Int × Int))) : laws_eqEdgeS a0 a1 =
    cond (((a0.length : Int) : Int) != (a1.length : Int))
      (some false)
      (laws_eqEdgeS_l0 a0 a1 0) :=
  (den_eq Γ X 60 rfl _).trans (by kernel_rfl)
theorem laws_eqEdgeS_l0_eq (x0 : (List (Int × Int))) (x1 : (List (Int × Int))) (x5 : Int) : laws_eqEdgeS_l0 x0 x1 x5 =
    cond (decide (x5 < (x0.length : Int)))
      (cond (inside x5 x0.length)
        (cond (inside x5 x1.length)
          ((laws_eqEdge (x0.getD x5.toNat (0, 0)) (x1.getD x5.toNat (0, 0))).bind fun r1 =>
            cond (!r1)
              (some false)
              (laws_eqEdgeS_l0 x0 x1 (w64 (x5 + 1))))
          (none))
        (none))
      (some true) :=
  (at_eq Γ X 60 [1, 1, 0, 1, 0] _).trans (by kernel_rfl)
theorem laws_eqGraph_eq (a0 : (Int × (List (Int × Int)))) (a1 : (Int × (List (Int × Int)))) : laws_eqGraph a0 a1 =
    cond ((a0.1 : Int) != a1.1)
      (some false)
      ((laws_eqEdgeS a0.2 a1.2).bind fun r1 =>
        cond (!r1)
          (some false)
          (some true)) :=
  (den_eq Γ X 61 rfl _).trans (by kernel_rfl)
theorem laws_FnExactGraphLine_eq (a0 : (Int × (List (Int × Int)))) : laws_FnExactGraphLine a0 =
    (laws_szGraph a0 1048576).bind fun r1 =>
      cond (decide (r1 < 0))
        (some true)
        ((laws_toGraph a0).bind fun r2 =>
          (spec_GraphLine r2).bind fun r3 =>
            (laws_toGraph a0).bind fun r4 =>
              (impl_GraphLine r4).bind fun r5 =>
                cond (!(r5.toList == r3.toList))
                  (some false)
                  ((laws_toGraph a0).bind fun r6 =>
                    (laws_eqGraph r4 r6).bind fun r7 =>
                      cond (!r7)
                        (some false)
                        (some true))) :=
  (den_eq Γ X 62 rfl _).trans (by kernel_rfl)
end Go.Proofs.YtgncajnfphlgeaaDoor.D

/-
  Each function and each loop by its equation: what the evaluator tells of it, for all arguments.
-/
import Derived.Test.YtkedbhndiokegaaDoorCtx
import Derived.KernelRfl
namespace Go.Proofs.YtkedbhndiokegaaDoor.D
open Go Go.Den
set_option linter.unusedVariables false
set_option maxRecDepth 100000
theorem laws_szEdgeS_eq (a0 : (List (Int × Int))) (a1 : Int) : laws_szEdgeS a0 a1 =
    cond (decide (w64 (a1 - (a0.length : Int)) < 0))
      (some (-1))
      (some (w64 (a1 - (a0.length : Int)))) :=
  (den_eq Γ X 0 rfl _).trans (by kernel_rfl)
theorem laws_szGraph_eq (a0 : (Int × (List (Int × Int)))) (a1 : Int) : laws_szGraph a0 a1 =
    (laws_szEdgeS a0.2 a1).bind fun r1 =>
      cond (decide (r1 < 0))
        (some (-1))
        (some r1) :=
  (den_eq Γ X 1 rfl _).trans (by kernel_rfl)
theorem laws_toEdge_eq (a0 : (Int × Int)) : laws_toEdge a0 =
    some (a0.1, a0.2) :=
  (den_eq Γ X 2 rfl _).trans (by kernel_rfl)
theorem laws_toEdgeS_eq (a0 : (List (Int × Int))) : laws_toEdgeS a0 =
    cond (decide (0 ≤ (a0.length : Int)) && decide ((a0.length : Int) ≤ (room : Int)))
      (laws_toEdgeS_l0 a0 (List.replicate (a0.length : Int).toNat (0, 0)) 0)
      (none) :=
  (den_eq Γ X 3 rfl _).trans (by kernel_rfl)
theorem laws_toEdgeS_l0_eq (x0 : (List (Int × Int))) (x3 : (List (Int × Int))) (x4 : Int) : laws_toEdgeS_l0 x0 x3 x4 =
    cond (decide (x4 < (x0.length : Int)))
      (cond (inside x4 x0.length)
        ((laws_toEdge (x0.getD x4.toNat (0, 0))).bind fun r1 =>
          cond (inside x4 x3.length)
            (laws_toEdgeS_l0 x0 (x3.set x4.toNat r1) (w64 (x4 + 1)))
            (none))
        (none))
      (some x3) :=
  (at_eq Γ X 3 [1, 1, 0, 1, 0] _).trans (by kernel_rfl)
theorem laws_toGraph_eq (a0 : (Int × (List (Int × Int)))) : laws_toGraph a0 =
    (laws_toEdgeS a0.2).bind fun r1 =>
      some (a0.1, r1) :=
  (den_eq Γ X 4 rfl _).trans (by kernel_rfl)
theorem spec_l01In_eq (a0 : Int) (a1 : Int) (a2 : Int) : spec_l01In a0 a1 a2 =
    cond (decide (a0 ≥ a1))
      (some (decide (a0 ≤ a2)))
      (some false) :=
  (den_eq Γ X 5 rfl _).trans (by kernel_rfl)
theorem spec_EdgesOk_eq (a0 : (Int × (List (Int × Int)))) : spec_EdgesOk a0 =
    (spec_l01In a0.1 1 6).bind fun r1 =>
      cond (!r1)
        (some false)
        (cond (decide ((a0.2.length : Int) > 12))
          (some false)
          (spec_EdgesOk_l0 a0 a0.2 (a0.2.length : Int) 0)) :=
  (den_eq Γ X 6 rfl _).trans (by kernel_rfl)
theorem spec_EdgesOk_l0_eq (x1 : (Int × (List (Int × Int)))) (x16 : (List (Int × Int))) (x17 : Int) (x18 : Int) : spec_EdgesOk_l0 x1 x16 x17 x18 =
    cond (decide (x18 < x17))
      (cond (inside x18 x16.length)
        ((spec_l01In ((x16.getD x18.toNat (0, 0)).1) 0 (w64 (x1.1 - 1))).bind fun r2 =>
          cond (!r2)
            (some false)
            ((spec_l01In ((x16.getD x18.toNat (0, 0)).2) (w64 (((x16.getD x18.toNat (0, 0)).1) + 1)) (w64 (x1.1 - 1))).bind fun r3 =>
              cond (!r3)
                (some false)
                (spec_EdgesOk_l0 x1 x16 x17 (w64 (x18 + 1)))))
        (none))
      (some true) :=
  (at_eq Γ X 6 [1, 1, 0, 1, 0] _).trans (by kernel_rfl)
theorem spec_l02Has_eq (a0 : (List Int)) (a1 : Int) : spec_l02Has a0 a1 =
    spec_l02Has_l0 a1 a0 (a0.length : Int) 0 :=
  (den_eq Γ X 7 rfl _).trans (by kernel_rfl)
theorem spec_l02Has_l0_eq (x1 : Int) (x7 : (List Int)) (x8 : Int) (x9 : Int) : spec_l02Has_l0 x1 x7 x8 x9 =
    cond (decide (x9 < x8))
      (cond (inside x9 x7.length)
        (cond (((x7.getD x9.toNat 0) : Int) == x1)
          (some true)
          (spec_l02Has_l0 x1 x7 x8 (w64 (x9 + 1))))
        (none))
      (some false) :=
  (at_eq Γ X 7 [1, 0, 1, 0] _).trans (by kernel_rfl)
theorem spec_l02Reach_eq (a0 : (Int × (List (Int × Int)))) : spec_l02Reach a0 =
    spec_l02Reach_l0 a0 ([0] : List Int) 0 :=
  (den_eq Γ X 8 rfl _).trans (by kernel_rfl)
theorem spec_l02Reach_l0_eq (x1 : (Int × (List (Int × Int)))) (x3 : (List Int)) (x4 : Int) : spec_l02Reach_l0 x1 x3 x4 =
    cond (decide (x4 < (x3.length : Int)))
      (spec_l02Reach_l2 x1 x3 x4 x1.2 (x1.2.length : Int) 0)
      (some x3) :=
  (at_eq Γ X 8 [1, 1, 0, 1, 0] _).trans (by kernel_rfl)
theorem spec_l02Reach_l2_eq (x1 : (Int × (List (Int × Int)))) (x3 : (List Int)) (x4 : Int) (x15 : (List (Int × Int))) (x16 : Int) (x17 : Int) : spec_l02Reach_l2 x1 x3 x4 x15 x16 x17 =
    cond (decide (x17 < x16))
      (cond (inside x17 x15.length)
        (cond (inside x4 x3.length)
          (cond ((((x15.getD x17.toNat (0, 0)).1) : Int) == (x3.getD x4.toNat 0))
            ((spec_l02Has x3 ((x15.getD x17.toNat (0, 0)).2)).bind fun r1 =>
              cond (!r1)
                (cond (decide (x3.length + ([(x15.getD x17.toNat (0, 0)).2] : List Int).length ≤ room))
                  (cond (inside x4 (x3 ++ ([(x15.getD x17.toNat (0, 0)).2] : List Int)).length)
                    (cond ((((x15.getD x17.toNat (0, 0)).2) : Int) == ((x3 ++ ([(x15.getD x17.toNat (0, 0)).2] : List Int)).getD x4.toNat 0))
                      ((spec_l02Has (x3 ++ ([(x15.getD x17.toNat (0, 0)).2] : List Int)) ((x15.getD x17.toNat (0, 0)).1)).bind fun r2 =>
                        cond (!r2)
                          (spec_l02Reach_c11 x1 (x3 ++ ([(x15.getD x17.toNat (0, 0)).2] : List Int)) x4 (x15.getD x17.toNat (0, 0)) x15 x16 x17)
                          (spec_l02Reach_c12 x1 (x3 ++ ([(x15.getD x17.toNat (0, 0)).2] : List Int)) x4 x15 x16 x17))
                      (spec_l02Reach_c12 x1 (x3 ++ ([(x15.getD x17.toNat (0, 0)).2] : List Int)) x4 x15 x16 x17))
                    (none))
                  (none))
                (cond (inside x4 x3.length)
                  (cond ((((x15.getD x17.toNat (0, 0)).2) : Int) == (x3.getD x4.toNat 0))
                    ((spec_l02Has x3 ((x15.getD x17.toNat (0, 0)).1)).bind fun r3 =>
                      cond (!r3)
                        (spec_l02Reach_c11 x1 x3 x4 (x15.getD x17.toNat (0, 0)) x15 x16 x17)
                        (spec_l02Reach_c12 x1 x3 x4 x15 x16 x17))
                    (spec_l02Reach_c12 x1 x3 x4 x15 x16 x17))
                  (none)))
            (cond (inside x4 x3.length)
              (cond ((((x15.getD x17.toNat (0, 0)).2) : Int) == (x3.getD x4.toNat 0))
                ((spec_l02Has x3 ((x15.getD x17.toNat (0, 0)).1)).bind fun r4 =>
                  cond (!r4)
                    (spec_l02Reach_c11 x1 x3 x4 (x15.getD x17.toNat (0, 0)) x15 x16 x17)
                    (spec_l02Reach_c12 x1 x3 x4 x15 x16 x17))
                (spec_l02Reach_c12 x1 x3 x4 x15 x16 x17))
              (none)))
          (none))
        (none))
      (spec_l02Reach_l0 x1 x3 (w64 (x4 + 1))) :=
  (at_eq Γ X 8 [1, 1, 0, 1, 0, 0, 1, 0, 0, 1, 0] _).trans (by kernel_rfl)
theorem spec_l02Reach_c11_eq (x1 : (Int × (List (Int × Int)))) (x3 : (List Int)) (x4 : Int) (x6 : (Int × Int)) (x15 : (List (Int × Int))) (x16 : Int) (x17 : Int) : spec_l02Reach_c11 x1 x3 x4 x6 x15 x16 x17 =
    cond (decide (x3.length + ([x6.1] : List Int).length ≤ room))
      (spec_l02Reach_c12 x1 (x3 ++ ([x6.1] : List Int)) x4 x15 x16 x17)
      (none) :=
  (at_eq Γ X 8 [1, 1, 0, 1, 0, 0, 1, 0, 0, 1, 0, 0, 1, 1, 0, 0, 1, 1, 1, 0] _).trans (by kernel_rfl)
theorem spec_l02Reach_c12_eq (x1 : (Int × (List (Int × Int)))) (x3 : (List Int)) (x4 : Int) (x15 : (List (Int × Int))) (x16 : Int) (x17 : Int) : spec_l02Reach_c12 x1 x3 x4 x15 x16 x17 =
    spec_l02Reach_l2 x1 x3 x4 x15 x16 (w64 (x17 + 1)) :=
  (at_eq Γ X 8 [1, 1, 0, 1, 0, 0, 1, 0, 0, 1, 0, 0, 1, 1, 1] _).trans (by kernel_rfl)
theorem spec_GraphOk_eq (a0 : (Int × (List (Int × Int)))) : spec_GraphOk a0 =
    (spec_EdgesOk a0).bind fun r1 =>
      cond (!r1)
        (some false)
        (spec_GraphOk_l0 a0 a0.2 (a0.2.length : Int) 0) :=
  (den_eq Γ X 9 rfl _).trans (by kernel_rfl)
theorem spec_GraphOk_l0_eq (x1 : (Int × (List (Int × Int)))) (x9 : (List (Int × Int))) (x10 : Int) (x11 : Int) : spec_GraphOk_l0 x1 x9 x10 x11 =
    cond (decide (x11 < x10))
      (cond (inside x11 x9.length)
        (cond (decide (x11 > 0))
          (cond (inside (w64 (x11 - 1)) x1.2.length)
            (cond (decide ((x9.getD x11.toNat (0, 0)).1 < (x1.2.getD ((w64 (x11 - 1)).toNat) (0, 0)).1))
              (some false)
              (cond (inside (w64 (x11 - 1)) x1.2.length)
                (cond ((((x9.getD x11.toNat (0, 0)).1) : Int) == ((x1.2.getD ((w64 (x11 - 1)).toNat) (0, 0)).1))
                  (cond (inside (w64 (x11 - 1)) x1.2.length)
                    (cond (decide ((x9.getD x11.toNat (0, 0)).2 < (x1.2.getD ((w64 (x11 - 1)).toNat) (0, 0)).2))
                      (some false)
                      (spec_GraphOk_c8 x1 x9 x10 x11))
                    (none))
                  (spec_GraphOk_c8 x1 x9 x10 x11))
                (none)))
            (none))
          (spec_GraphOk_c8 x1 x9 x10 x11))
        (none))
      ((spec_l02Reach x1).bind fun r2 =>
        some (((r2.length : Int) : Int) == x1.1)) :=
  (at_eq Γ X 9 [1, 1, 0, 1, 0] _).trans (by kernel_rfl)
theorem spec_GraphOk_c8_eq (x1 : (Int × (List (Int × Int)))) (x9 : (List (Int × Int))) (x10 : Int) (x11 : Int) : spec_GraphOk_c8 x1 x9 x10 x11 =
    spec_GraphOk_l0 x1 x9 x10 (w64 (x11 + 1)) :=
  (at_eq Γ X 9 [1, 1, 0, 1, 0, 0, 1, 1, 1] _).trans (by kernel_rfl)
theorem spec_FormatInt_eq (a0 : Int) : spec_FormatInt a0 =
    cond (decide (a0 < 0))
      (cond (((w64 (Int.tdiv a0 10)) : Int) == 0)
        (cond (decide ((⟨#[45]⟩ : ByteArray).size + (toStr ([IntKind.wrap .u8 (w64 (48 - a0))] : List Int)).size ≤ 9223372036854775807))
          (some ((⟨#[45]⟩ : ByteArray) ++ (toStr ([IntKind.wrap .u8 (w64 (48 - a0))] : List Int))))
          (none))
        ((spec_FormatInt (w64 (Int.tdiv a0 10))).bind fun r1 =>
          cond (decide (r1.size + (toStr ([IntKind.wrap .u8 (w64 (48 - (Int.tmod a0 10)))] : List Int)).size ≤ 9223372036854775807))
            (some (r1 ++ (toStr ([IntKind.wrap .u8 (w64 (48 - (Int.tmod a0 10)))] : List Int))))
            (none)))
      (spec_FormatInt_l0 a0 (⟨#[]⟩ : ByteArray)) :=
  (den_eq Γ X 10 rfl _).trans (by kernel_rfl)
theorem spec_FormatInt_l0_eq (x0 : Int) (x3 : ByteArray) : spec_FormatInt_l0 x0 x3 =
    cond (decide (x0 > 9))
      (cond (decide ((toStr ([IntKind.wrap .u8 (w64 (48 + (Int.tmod x0 10)))] : List Int)).size + x3.size ≤ 9223372036854775807))
        (spec_FormatInt_l0 (w64 (Int.tdiv x0 10)) ((toStr ([IntKind.wrap .u8 (w64 (48 + (Int.tmod x0 10)))] : List Int)) ++ x3))
        (none))
      (cond (decide ((toStr ([IntKind.wrap .u8 (w64 (48 + x0))] : List Int)).size + x3.size ≤ 9223372036854775807))
        (some ((toStr ([IntKind.wrap .u8 (w64 (48 + x0))] : List Int)) ++ x3))
        (none)) :=
  (at_eq Γ X 10 [1, 1, 1, 0, 0] _).trans (by kernel_rfl)
theorem spec_FormatGraph_eq (a0 : (Int × (List (Int × Int)))) : spec_FormatGraph a0 =
    (spec_GraphOk a0).bind fun r1 =>
      cond (!r1)
        (some (⟨#[]⟩ : ByteArray))
        ((spec_FormatInt a0.1).bind fun r2 =>
          cond (decide (r2.size + (⟨#[58]⟩ : ByteArray).size ≤ 9223372036854775807))
            (spec_FormatGraph_l0 (r2 ++ (⟨#[58]⟩ : ByteArray)) a0.2 (a0.2.length : Int) 0)
            (none)) :=
  (den_eq Γ X 11 rfl _).trans (by kernel_rfl)
theorem spec_FormatGraph_l0_eq (x3 : ByteArray) (x14 : (List (Int × Int))) (x15 : Int) (x16 : Int) : spec_FormatGraph_l0 x3 x14 x15 x16 =
    cond (decide (x16 < x15))
      (cond (inside x16 x14.length)
        (cond (decide (x3.size + (⟨#[32]⟩ : ByteArray).size ≤ 9223372036854775807))
          ((spec_FormatInt ((x14.getD x16.toNat (0, 0)).1)).bind fun r3 =>
            cond (decide ((x3 ++ (⟨#[32]⟩ : ByteArray)).size + r3.size ≤ 9223372036854775807))
              (cond (decide (((x3 ++ (⟨#[32]⟩ : ByteArray)) ++ r3).size + (⟨#[45]⟩ : ByteArray).size ≤ 9223372036854775807))
                ((spec_FormatInt ((x14.getD x16.toNat (0, 0)).2)).bind fun r4 =>
                  cond (decide ((((x3 ++ (⟨#[32]⟩ : ByteArray)) ++ r3) ++ (⟨#[45]⟩ : ByteArray)).size + r4.size ≤ 9223372036854775807))
                    (spec_FormatGraph_l0 ((((x3 ++ (⟨#[32]⟩ : ByteArray)) ++ r3) ++ (⟨#[45]⟩ : ByteArray)) ++ r4) x14 x15 (w64 (x16 + 1)))
                    (none))
                (none))
              (none))
          (none))
        (none))
      (some x3) :=
  (at_eq Γ X 11 [1, 1, 1, 0, 1, 0] _).trans (by kernel_rfl)
theorem impl_within_eq (a0 : Int) (a1 : Int) (a2 : Int) : impl_within a0 a1 a2 =
    cond (decide (a0 ≥ a1))
      (some (decide (a0 ≤ a2)))
      (some false) :=
  (den_eq Γ X 12 rfl _).trans (by kernel_rfl)
theorem impl_EdgesOk_eq (a0 : (Int × (List (Int × Int)))) : impl_EdgesOk a0 =
    (impl_within a0.1 1 6).bind fun r1 =>
      cond (!r1)
        (some false)
        (cond (decide ((a0.2.length : Int) > 12))
          (some false)
          (impl_EdgesOk_l0 a0 a0.2 (a0.2.length : Int) 0)) :=
  (den_eq Γ X 13 rfl _).trans (by kernel_rfl)
theorem impl_EdgesOk_l0_eq (x1 : (Int × (List (Int × Int)))) (x16 : (List (Int × Int))) (x17 : Int) (x18 : Int) : impl_EdgesOk_l0 x1 x16 x17 x18 =
    cond (decide (x18 < x17))
      (cond (inside x18 x16.length)
        (cond (decide ((x16.getD x18.toNat (0, 0)).1 < 0))
          (some false)
          (cond (decide ((x16.getD x18.toNat (0, 0)).1 ≥ (x16.getD x18.toNat (0, 0)).2))
            (some false)
            (cond (decide ((x16.getD x18.toNat (0, 0)).2 ≥ x1.1))
              (some false)
              (impl_EdgesOk_l0 x1 x16 x17 (w64 (x18 + 1))))))
        (none))
      (some true) :=
  (at_eq Γ X 13 [1, 1, 0, 1, 0] _).trans (by kernel_rfl)
theorem cmp_isNaN_int_eq (a0 : Int) : cmp_isNaN_int a0 =
    some ((a0 : Int) != a0) :=
  (den_eq Γ X 14 rfl _).trans (by kernel_rfl)
theorem cmp_Compare_int_eq (a0 : Int) (a1 : Int) : cmp_Compare_int a0 a1 =
    (cmp_isNaN_int a0).bind fun r1 =>
      (cmp_isNaN_int a1).bind fun r2 =>
        cond (r1)
          (cond (r2)
            (some 0)
            (some (-1)))
          (cond (r2)
            (some 1)
            (cond (decide (a0 < a1))
              (some (-1))
              (cond (decide (a0 > a1))
                (some 1)
                (some 0)))) :=
  (den_eq Γ X 15 rfl _).trans (by kernel_rfl)
theorem impl_compareEdges_eq (a0 : (Int × Int)) (a1 : (Int × Int)) : impl_compareEdges a0 a1 =
    (cmp_Compare_int a0.1 a1.1).bind fun r1 =>
      cond ((r1 : Int) != 0)
        (some r1)
        ((cmp_Compare_int a0.2 a1.2).bind fun r2 =>
          some r2) :=
  (den_eq Γ X 16 rfl _).trans (by kernel_rfl)
theorem impl_Edge__compareEdges_eq (a0 : (List (Int × Int))) : impl_Edge__compareEdges a0 =
    impl_Edge__compareEdges_l0 a0 (w64 ((a0.length : Int) - 1)) :=
  (den_eq Γ X 17 rfl _).trans (by kernel_rfl)
theorem impl_Edge__compareEdges_l0_eq (x0 : (List (Int × Int))) (x5 : Int) : impl_Edge__compareEdges_l0 x0 x5 =
    cond (decide (x5 > 0))
      (cond (inside x5 x0.length)
        (cond (inside (w64 (x5 - 1)) x0.length)
          ((impl_compareEdges (x0.getD x5.toNat (0, 0)) (x0.getD ((w64 (x5 - 1)).toNat) (0, 0))).bind fun r1 =>
            cond (decide (r1 < 0))
              (some false)
              (impl_Edge__compareEdges_l0 x0 (w64 (x5 - 1))))
          (none))
        (none))
      (some true) :=
  (at_eq Γ X 17 [1, 0, 1, 0] _).trans (by kernel_rfl)
theorem impl_connected_eq (a0 : Int) (a1 : (List (Int × Int))) : impl_connected a0 a1 =
    impl_connected_l0 a0 a1 1 a0 0 :=
  (den_eq Γ X 18 rfl _).trans (by kernel_rfl)
theorem impl_connected_l0_eq (x0 : Int) (x1 : (List (Int × Int))) (x5 : Int) (x8 : Int) (x9 : Int) : impl_connected_l0 x0 x1 x5 x8 x9 =
    cond (decide (x9 < x8))
      (impl_connected_l2 x0 x1 x5 x8 x9 x1 (x1.length : Int) 0)
      (cond (decide (x0 < 0))
        (none)
        (some ((x5 : Int) == (w64 ((w64 (1 * 2 ^ (min x0.toNat 64))) - 1))))) :=
  (at_eq Γ X 18 [1, 1, 0, 1, 0] _).trans (by kernel_rfl)
theorem impl_connected_l2_eq (x0 : Int) (x1 : (List (Int × Int))) (x5 : Int) (x8 : Int) (x9 : Int) (x11 : (List (Int × Int))) (x12 : Int) (x13 : Int) : impl_connected_l2 x0 x1 x5 x8 x9 x11 x12 x13 =
    cond (decide (x13 < x12))
      (cond (inside x13 x11.length)
        (cond (decide ((x11.getD x13.toNat (0, 0)).1 < 0))
          (none)
          (cond (((bits .and .i64 (Int.fdiv x5 (2 ^ (min ((x11.getD x13.toNat (0, 0)).1).toNat 64))) 1) : Int) == 1)
            (cond (decide ((x11.getD x13.toNat (0, 0)).1 < 0))
              (none)
              (cond (decide ((x11.getD x13.toNat (0, 0)).2 < 0))
                (none)
                (impl_connected_l2 x0 x1 (bits .or .i64 x5 (bits .or .i64 (w64 (1 * 2 ^ (min ((x11.getD x13.toNat (0, 0)).1).toNat 64))) (w64 (1 * 2 ^ (min ((x11.getD x13.toNat (0, 0)).2).toNat 64))))) x8 x9 x11 x12 (w64 (x13 + 1)))))
            (cond (decide ((x11.getD x13.toNat (0, 0)).2 < 0))
              (none)
              (cond (((bits .and .i64 (Int.fdiv x5 (2 ^ (min ((x11.getD x13.toNat (0, 0)).2).toNat 64))) 1) : Int) == 1)
                (cond (decide ((x11.getD x13.toNat (0, 0)).1 < 0))
                  (none)
                  (cond (decide ((x11.getD x13.toNat (0, 0)).2 < 0))
                    (none)
                    (impl_connected_l2 x0 x1 (bits .or .i64 x5 (bits .or .i64 (w64 (1 * 2 ^ (min ((x11.getD x13.toNat (0, 0)).1).toNat 64))) (w64 (1 * 2 ^ (min ((x11.getD x13.toNat (0, 0)).2).toNat 64))))) x8 x9 x11 x12 (w64 (x13 + 1)))))
                (impl_connected_l2 x0 x1 x5 x8 x9 x11 x12 (w64 (x13 + 1)))))))
        (none))
      (impl_connected_l0 x0 x1 x5 x8 (w64 (x9 + 1))) :=
  (at_eq Γ X 18 [1, 1, 0, 1, 0, 0, 1, 1, 0, 0, 1, 0] _).trans (by kernel_rfl)
theorem impl_GraphOk_eq (a0 : (Int × (List (Int × Int)))) : impl_GraphOk a0 =
    (impl_EdgesOk a0).bind fun r1 =>
      cond (r1)
        ((impl_Edge__compareEdges a0.2).bind fun r2 =>
          cond (r2)
            ((impl_connected a0.1 a0.2).bind fun r3 =>
              some r3)
            (some false))
        (some false) :=
  (den_eq Γ X 19 rfl _).trans (by kernel_rfl)
theorem strconv_Itoa_eq (a0 : Int) : strconv_Itoa a0 = Lb.itoa a0 := den_ext Γ X 20 rfl _
theorem impl_FormatInt_eq (a0 : Int) : impl_FormatInt a0 =
    (strconv_Itoa a0).bind fun r1 =>
      some r1 :=
  (den_eq Γ X 21 rfl _).trans (by kernel_rfl)
theorem impl_FormatGraph_eq (a0 : (Int × (List (Int × Int)))) : impl_FormatGraph a0 =
    (impl_GraphOk a0).bind fun r1 =>
      cond (!r1)
        (some (⟨#[]⟩ : ByteArray))
        ((impl_FormatInt a0.1).bind fun r2 =>
          cond (decide (r2.size + (⟨#[58]⟩ : ByteArray).size ≤ 9223372036854775807))
            (impl_FormatGraph_l0 (r2 ++ (⟨#[58]⟩ : ByteArray)) a0.2 (a0.2.length : Int) 0)
            (none)) :=
  (den_eq Γ X 22 rfl _).trans (by kernel_rfl)
theorem impl_FormatGraph_l0_eq (x3 : ByteArray) (x14 : (List (Int × Int))) (x15 : Int) (x16 : Int) : impl_FormatGraph_l0 x3 x14 x15 x16 =
    cond (decide (x16 < x15))
      (cond (inside x16 x14.length)
        ((impl_FormatInt ((x14.getD x16.toNat (0, 0)).1)).bind fun r3 =>
          cond (decide ((⟨#[32]⟩ : ByteArray).size + r3.size ≤ 9223372036854775807))
            (cond (decide (((⟨#[32]⟩ : ByteArray) ++ r3).size + (⟨#[45]⟩ : ByteArray).size ≤ 9223372036854775807))
              ((impl_FormatInt ((x14.getD x16.toNat (0, 0)).2)).bind fun r4 =>
                cond (decide ((((⟨#[32]⟩ : ByteArray) ++ r3) ++ (⟨#[45]⟩ : ByteArray)).size + r4.size ≤ 9223372036854775807))
                  (cond (decide (x3.size + ((((⟨#[32]⟩ : ByteArray) ++ r3) ++ (⟨#[45]⟩ : ByteArray)) ++ r4).size ≤ 9223372036854775807))
                    (impl_FormatGraph_l0 (x3 ++ ((((⟨#[32]⟩ : ByteArray) ++ r3) ++ (⟨#[45]⟩ : ByteArray)) ++ r4)) x14 x15 (w64 (x16 + 1)))
                    (none))
                  (none))
              (none))
            (none))
        (none))
      (some x3) :=
  (at_eq Γ X 22 [1, 1, 1, 0, 1, 0] _).trans (by kernel_rfl)
theorem laws_eqEdge_eq (a0 : (Int × Int)) (a1 : (Int × Int)) : laws_eqEdge a0 a1 =
    cond ((a0.1 : Int) != a1.1)
      (some false)
      (cond ((a0.2 : Int) != a1.2)
        (some false)
        (some true)) :=
  (den_eq Γ X 23 rfl _).trans (by kernel_rfl)
theorem laws_eqEdgeS_eq (a0 : (List (Int × Int))) (a1 : (List (Int × Int))) : laws_eqEdgeS a0 a1 =
    cond (((a0.length : Int) : Int) != (a1.length : Int))
      (some false)
      (laws_eqEdgeS_l0 a0 a1 0) :=
  (den_eq Γ X 24 rfl _).trans (by kernel_rfl)
theorem laws_eqEdgeS_l0_eq (x0 : (List (Int × Int))) (x1 : (List (Int × Int))) (x5 : Int) : laws_eqEdgeS_l0 x0 x1 x5 =
    cond (decide (x5 < (x0.length : Int)))
      (cond (inside x5 x0.length)
        (cond (inside x5 x1.length)
          ((laws_eqEdge (x0.getD x5.toNat (0, 0)) (x1.getD x5.toNat (0, 0))).bind fun r1 =>
            cond (!r1)
              (some false)
              (laws_eqEdgeS_l0 x0 x1 (w64 (x5 + 1))))
          (none))
        (none))
      (some true) :=
  (at_eq Γ X 24 [1, 1, 0, 1, 0] _).trans (by kernel_rfl)
theorem laws_eqGraph_eq (a0 : (Int × (List (Int × Int)))) (a1 : (Int × (List (Int × Int)))) : laws_eqGraph a0 a1 =
    cond ((a0.1 : Int) != a1.1)
      (some false)
      ((laws_eqEdgeS a0.2 a1.2).bind fun r1 =>
        cond (!r1)
          (some false)
          (some true)) :=
  (den_eq Γ X 25 rfl _).trans (by kernel_rfl)
theorem laws_FnExactFormatGraph_eq (a0 : (Int × (List (Int × Int)))) : laws_FnExactFormatGraph a0 =
    (laws_szGraph a0 1048576).bind fun r1 =>
      cond (decide (r1 < 0))
        (some true)
        ((laws_toGraph a0).bind fun r2 =>
          (spec_FormatGraph r2).bind fun r3 =>
            (laws_toGraph a0).bind fun r4 =>
              (impl_FormatGraph r4).bind fun r5 =>
                cond (!(r5.toList == r3.toList))
                  (some false)
                  ((laws_toGraph a0).bind fun r6 =>
                    (laws_eqGraph r4 r6).bind fun r7 =>
                      cond (!r7)
                        (some false)
                        (some true))) :=
  (den_eq Γ X 26 rfl _).trans (by kernel_rfl)
theorem spec_SplitAny_eq (a0 : ByteArray) (a1 : ByteArray) : spec_SplitAny a0 a1 =
    spec_SplitAny_l0 a0 a1 ([] : List ByteArray) 0 0 :=
  (den_eq Γ X 27 rfl _).trans (by kernel_rfl)
theorem spec_SplitAny_l0_eq (x0 : ByteArray) (x1 : ByteArray) (x5 : (List ByteArray)) (x6 : Int) (x7 : Int) : spec_SplitAny_l0 x0 x1 x5 x6 x7 =
    cond (decide (x7 < (x0.size : Int)))
      (spec_SplitAny_l2 x0 x1 x5 x6 x7 0)
      (cond (decide (0 ≤ x6) && decide (x6 ≤ (x0.size : Int)) && decide ((x0.size : Int) ≤ (x0.size : Int)))
        (cond (decide (x5.length + ([x0.extract x6.toNat ((x0.size : Int).toNat)] : List ByteArray).length ≤ room))
          (some (x5 ++ ([x0.extract x6.toNat ((x0.size : Int).toNat)] : List ByteArray)))
          (none))
        (none)) :=
  (at_eq Γ X 27 [1, 1, 1, 0, 1, 0] _).trans (by kernel_rfl)
theorem spec_SplitAny_l2_eq (x0 : ByteArray) (x1 : ByteArray) (x5 : (List ByteArray)) (x6 : Int) (x7 : Int) (x8 : Int) : spec_SplitAny_l2 x0 x1 x5 x6 x7 x8 =
    cond (decide (x8 < (x1.size : Int)))
      (cond (inside x7 x0.size)
        (cond (inside x8 x1.size)
          (cond (((bAt x0 x7.toNat) : Int) == (bAt x1 x8.toNat))
            (cond (decide (0 ≤ x6) && decide (x6 ≤ x7) && decide (x7 ≤ (x0.size : Int)))
              (cond (decide (x5.length + ([x0.extract x6.toNat x7.toNat] : List ByteArray).length ≤ room))
                (spec_SplitAny_l0 x0 x1 (x5 ++ ([x0.extract x6.toNat x7.toNat] : List ByteArray)) (w64 (x7 + 1)) (w64 (x7 + 1)))
                (none))
              (none))
            (spec_SplitAny_l2 x0 x1 x5 x6 x7 (w64 (x8 + 1))))
          (none))
        (none))
      (spec_SplitAny_l0 x0 x1 x5 x6 (w64 (x7 + 1))) :=
  (at_eq Γ X 27 [1, 1, 1, 0, 1, 0, 0, 1, 0, 0, 1, 0] _).trans (by kernel_rfl)
theorem spec_IsDigits_eq (a0 : ByteArray) : spec_IsDigits a0 =
    spec_IsDigits_l0 a0 0 :=
  (den_eq Γ X 28 rfl _).trans (by kernel_rfl)
theorem spec_IsDigits_l0_eq (x0 : ByteArray) (x3 : Int) : spec_IsDigits_l0 x0 x3 =
    cond (decide (x3 < (x0.size : Int)))
      (cond (inside x3 x0.size)
        (cond (decide (bAt x0 x3.toNat < 48))
          (some false)
          (cond (inside x3 x0.size)
            (cond (decide (bAt x0 x3.toNat > 57))
              (some false)
              (spec_IsDigits_l0 x0 (w64 (x3 + 1))))
            (none)))
        (none))
      (some (decide ((x0.size : Int) > 0))) :=
  (at_eq Γ X 28 [1, 0, 1, 0] _).trans (by kernel_rfl)
theorem spec_ParseInt_eq (a0 : ByteArray) : spec_ParseInt a0 =
    cond (decide ((a0.size : Int) > 0))
      (cond (inside 0 a0.size)
        (cond (((bAt a0 0) : Int) == 45)
          (cond (decide (0 ≤ 1) && decide (1 ≤ (a0.size : Int)) && decide ((a0.size : Int) ≤ (a0.size : Int)))
            ((spec_IsDigits (a0.extract 1 ((a0.size : Int).toNat))).bind fun r1 =>
              cond (!r1)
                (some (0, false))
                (cond (decide (((a0.extract 1 ((a0.size : Int).toNat)).size : Int) > 19))
                  (some (0, false))
                  (spec_ParseInt_l0 a0 (((bAt a0 0) : Int) == 45) (a0.extract 1 ((a0.size : Int).toNat)) 0 0)))
            (none))
          ((spec_IsDigits a0).bind fun r4 =>
            cond (!r4)
              (some (0, false))
              (cond (decide ((a0.size : Int) > 19))
                (some (0, false))
                (spec_ParseInt_l0 a0 (((bAt a0 0) : Int) == 45) a0 0 0))))
        (none))
      ((spec_IsDigits a0).bind fun r5 =>
        cond (!r5)
          (some (0, false))
          (cond (decide ((a0.size : Int) > 19))
            (some (0, false))
            (spec_ParseInt_l0 a0 false a0 0 0))) :=
  (den_eq Γ X 29 rfl _).trans (by kernel_rfl)
theorem spec_ParseInt_l0_eq (x0 : ByteArray) (x4 : Bool) (x5 : ByteArray) (x6 : Int) (x7 : Int) : spec_ParseInt_l0 x0 x4 x5 x6 x7 =
    cond (decide (x7 < (x5.size : Int)))
      (cond (inside x7 x5.size)
        (cond (decide (x6 < w64 (Int.tdiv (w64 ((-9223372036854775808) + (w64 ((w64 (bAt x5 x7.toNat)) - 48)))) 10)))
          (some (0, false))
          (spec_ParseInt_l0 x0 x4 x5 (w64 ((w64 (x6 * 10)) - (w64 ((w64 (bAt x5 x7.toNat)) - 48)))) (w64 (x7 + 1))))
        (none))
      (cond (!x4)
        (cond ((x6 : Int) == (-9223372036854775808))
          (some (0, false))
          ((spec_FormatInt (w64 (0 - x6))).bind fun r2 =>
            cond (!(r2.toList == x0.toList))
              (some (0, false))
              (some (w64 (0 - x6), true))))
        ((spec_FormatInt x6).bind fun r3 =>
          cond (!(r3.toList == x0.toList))
            (some (0, false))
            (some (x6, true)))) :=
  (at_eq Γ X 29 [1, 1, 1, 1, 1, 1, 0, 1, 0] _).trans (by kernel_rfl)
theorem spec_l18Numbers_eq (a0 : (List ByteArray)) : spec_l18Numbers a0 =
    spec_l18Numbers_l0 ([] : List Int) a0 (a0.length : Int) 0 :=
  (den_eq Γ X 30 rfl _).trans (by kernel_rfl)
theorem spec_l18Numbers_l0_eq (x4 : (List Int)) (x10 : (List ByteArray)) (x11 : Int) (x12 : Int) : spec_l18Numbers_l0 x4 x10 x11 x12 =
    cond (decide (x12 < x11))
      (cond (inside x12 x10.length)
        ((spec_ParseInt (x10.getD x12.toNat ByteArray.empty)).bind fun r1 =>
          cond (!r1.2)
            (some (([] : List Int), false))
            (cond (decide (x4.length + ([r1.1] : List Int).length ≤ room))
              (spec_l18Numbers_l0 (x4 ++ ([r1.1] : List Int)) x10 x11 (w64 (x12 + 1)))
              (none)))
        (none))
      (some (x4, true)) :=
  (at_eq Γ X 30 [1, 1, 0, 1, 0] _).trans (by kernel_rfl)
theorem spec_ParseGraph_eq (a0 : ByteArray) : spec_ParseGraph a0 =
    (spec_SplitAny a0 (⟨#[32]⟩ : ByteArray)).bind fun r1 =>
      cond (((r1.length : Int) : Int) == 0)
        (some ((0, ([] : List (Int × Int))), false))
        (cond (inside 0 r1.length)
          ((spec_SplitAny (r1.getD 0 ByteArray.empty) (⟨#[58]⟩ : ByteArray)).bind fun r2 =>
            cond (inside 0 r2.length)
              ((spec_ParseInt (r2.getD 0 ByteArray.empty)).bind fun r3 =>
                cond (!r3.2)
                  (some ((0, ([] : List (Int × Int))), false))
                  (cond (decide (0 ≤ 1) && decide (1 ≤ (r1.length : Int)) && decide ((r1.length : Int) ≤ (r1.length : Int)))
                    (spec_ParseGraph_l0 a0 (0, ([] : List (Int × Int))) (r3.1, ([] : List (Int × Int))) ((r1.take ((r1.length : Int).toNat)).drop 1) (((r1.take ((r1.length : Int).toNat)).drop 1).length : Int) 0)
                    (none)))
              (none))
          (none)) :=
  (den_eq Γ X 31 rfl _).trans (by kernel_rfl)
theorem spec_ParseGraph_l0_eq (x0 : ByteArray) (x2 : (Int × (List (Int × Int)))) (x5 : (Int × (List (Int × Int)))) (x37 : (List ByteArray)) (x38 : Int) (x39 : Int) : spec_ParseGraph_l0 x0 x2 x5 x37 x38 x39 =
    cond (decide (x39 < x38))
      (cond (inside x39 x37.length)
        ((spec_SplitAny (x37.getD x39.toNat ByteArray.empty) (⟨#[45]⟩ : ByteArray)).bind fun r4 =>
          (spec_l18Numbers r4).bind fun r5 =>
            cond (!r5.2)
              (some ((0, ([] : List (Int × Int))), false))
              (cond (((r5.1.length : Int) : Int) != 2)
                (some ((0, ([] : List (Int × Int))), false))
                (cond (inside 0 r5.1.length)
                  (cond (inside 1 r5.1.length)
                    (cond (decide (x5.2.length + ([(r5.1.getD 0 0, r5.1.getD 1 0)] : List (Int × Int)).length ≤ room))
                      (spec_ParseGraph_l0 x0 x2 (x5.1, x5.2 ++ ([(r5.1.getD 0 0, r5.1.getD 1 0)] : List (Int × Int))) x37 x38 (w64 (x39 + 1)))
                      (none))
                    (none))
                  (none))))
        (none))
      ((spec_GraphOk x5).bind fun r6 =>
        cond (!r6)
          (some ((0, ([] : List (Int × Int))), false))
          ((spec_FormatGraph x5).bind fun r7 =>
            cond (!(r7.toList == x0.toList))
              (some ((0, ([] : List (Int × Int))), false))
              (some (x5, true)))) :=
  (at_eq Γ X 31 [1, 1, 1, 1, 1, 1, 1, 1, 0, 1, 0] _).trans (by kernel_rfl)
theorem strings_IndexByte_eq (a0 : ByteArray) (a1 : Int) : strings_IndexByte a0 a1 = Lb.indexByte a0 a1 := den_ext Γ X 32 rfl _
theorem impl_SplitAny_eq (a0 : ByteArray) (a1 : ByteArray) : impl_SplitAny a0 a1 =
    impl_SplitAny_l0 a0 a1 ([] : List ByteArray) 0 0 :=
  (den_eq Γ X 33 rfl _).trans (by kernel_rfl)
theorem impl_SplitAny_l0_eq (x0 : ByteArray) (x1 : ByteArray) (x5 : (List ByteArray)) (x6 : Int) (x7 : Int) : impl_SplitAny_l0 x0 x1 x5 x6 x7 =
    cond (decide (x7 < (x0.size : Int)))
      (cond (inside x7 x0.size)
        ((strings_IndexByte x1 (bAt x0 x7.toNat)).bind fun r1 =>
          cond (decide (r1 ≥ 0))
            (cond (decide (0 ≤ x6) && decide (x6 ≤ x7) && decide (x7 ≤ (x0.size : Int)))
              (cond (decide (x5.length + ([x0.extract x6.toNat x7.toNat] : List ByteArray).length ≤ room))
                (impl_SplitAny_l0 x0 x1 (x5 ++ ([x0.extract x6.toNat x7.toNat] : List ByteArray)) (w64 (x7 + 1)) (w64 (x7 + 1)))
                (none))
              (none))
            (impl_SplitAny_l0 x0 x1 x5 x6 (w64 (x7 + 1))))
        (none))
      (cond (decide (0 ≤ x6) && decide (x6 ≤ (x0.size : Int)) && decide ((x0.size : Int) ≤ (x0.size : Int)))
        (cond (decide (x5.length + ([x0.extract x6.toNat ((x0.size : Int).toNat)] : List ByteArray).length ≤ room))
          (some (x5 ++ ([x0.extract x6.toNat ((x0.size : Int).toNat)] : List ByteArray)))
          (none))
        (none)) :=
  (at_eq Γ X 33 [1, 1, 1, 0, 1, 0] _).trans (by kernel_rfl)
theorem strings_TrimSuffix_eq (a0 : ByteArray) (a1 : ByteArray) : strings_TrimSuffix a0 a1 = Lb.trimSuffix a0 a1 := den_ext Γ X 34 rfl _
theorem impl_ParseInt_eq (a0 : ByteArray) : impl_ParseInt a0 = Lb.pint a0 := den_ext Γ X 35 rfl _
theorem strings_Cut_eq (a0 : ByteArray) (a1 : ByteArray) : strings_Cut a0 a1 = Lb.cut a0 a1 := den_ext Γ X 36 rfl _
theorem impl_ParseGraph_eq (a0 : ByteArray) : impl_ParseGraph a0 =
    (impl_SplitAny a0 (⟨#[32]⟩ : ByteArray)).bind fun r1 =>
      cond (inside 0 r1.length)
        ((strings_TrimSuffix (r1.getD 0 ByteArray.empty) (⟨#[58]⟩ : ByteArray)).bind fun r2 =>
          (impl_ParseInt r2).bind fun r3 =>
            cond (!r3.2)
              (some ((0, ([] : List (Int × Int))), false))
              (cond (decide (0 ≤ 1) && decide (1 ≤ (r1.length : Int)) && decide ((r1.length : Int) ≤ (r1.length : Int)))
                (impl_ParseGraph_l0 a0 (0, ([] : List (Int × Int))) (r3.1, ([] : List (Int × Int))) ((r1.take ((r1.length : Int).toNat)).drop 1) (((r1.take ((r1.length : Int).toNat)).drop 1).length : Int) 0)
                (none)))
        (none) :=
  (den_eq Γ X 37 rfl _).trans (by kernel_rfl)
theorem impl_ParseGraph_l0_eq (x0 : ByteArray) (x2 : (Int × (List (Int × Int)))) (x7 : (Int × (List (Int × Int)))) (x33 : (List ByteArray)) (x34 : Int) (x35 : Int) : impl_ParseGraph_l0 x0 x2 x7 x33 x34 x35 =
    cond (decide (x35 < x34))
      (cond (inside x35 x33.length)
        ((strings_Cut (x33.getD x35.toNat ByteArray.empty) (⟨#[45]⟩ : ByteArray)).bind fun r4 =>
          (impl_ParseInt r4.1).bind fun r5 =>
            (impl_ParseInt r4.2.1).bind fun r6 =>
              cond (!r5.2)
                (some ((0, ([] : List (Int × Int))), false))
                (cond (!r6.2)
                  (some ((0, ([] : List (Int × Int))), false))
                  (cond (decide (x7.2.length + ([(r5.1, r6.1)] : List (Int × Int)).length ≤ room))
                    (impl_ParseGraph_c15 x0 x2 (x7.1, x7.2 ++ ([(r5.1, r6.1)] : List (Int × Int))) x33 x34 x35)
                    (none))))
        (none))
      ((impl_GraphOk x7).bind fun r7 =>
        cond (!r7)
          (some ((0, ([] : List (Int × Int))), false))
          ((impl_FormatGraph x7).bind fun r8 =>
            cond (!(r8.toList == x0.toList))
              (some ((0, ([] : List (Int × Int))), false))
              (some (x7, true)))) :=
  (at_eq Γ X 37 [1, 1, 1, 1, 1, 0, 1, 0] _).trans (by kernel_rfl)
theorem impl_ParseGraph_c15_eq (x0 : ByteArray) (x2 : (Int × (List (Int × Int)))) (x7 : (Int × (List (Int × Int)))) (x33 : (List ByteArray)) (x34 : Int) (x35 : Int) : impl_ParseGraph_c15 x0 x2 x7 x33 x34 x35 =
    impl_ParseGraph_l0 x0 x2 x7 x33 x34 (w64 (x35 + 1)) :=
  (at_eq Γ X 37 [1, 1, 1, 1, 1, 0, 1, 0, 0, 1, 1, 1] _).trans (by kernel_rfl)
theorem laws_markEdgeS_eq (a0 : (List (Int × Int))) (a1 : Int) : laws_markEdgeS a0 a1 =
    laws_markEdgeS_l0 a0 a1 0 :=
  (den_eq Γ X 38 rfl _).trans (by kernel_rfl)
theorem laws_markEdgeS_l0_eq (x0 : (List (Int × Int))) (x1 : Int) (x5 : Int) : laws_markEdgeS_l0 x0 x1 x5 =
    cond (decide (x5 < (x0.length : Int)))
      (cond (inside x5 x0.length)
        (cond (inside x5 (x0.set x5.toNat (x1, (x0.getD x5.toNat (0, 0)).2)).length)
          (laws_markEdgeS_l0 ((x0.set x5.toNat (x1, (x0.getD x5.toNat (0, 0)).2)).set x5.toNat (((x0.set x5.toNat (x1, (x0.getD x5.toNat (0, 0)).2)).getD x5.toNat (0, 0)).1, w64 (x1 + 1))) (w64 ((w64 (x1 + 1)) + 1)) (w64 (x5 + 1)))
          (none))
        (none))
      (some (x1, x0)) :=
  (at_eq Γ X 38 [1, 0, 1, 0] _).trans (by kernel_rfl)
theorem laws_markGraph_eq (a0 : (Int × (List (Int × Int)))) (a1 : Int) : laws_markGraph a0 a1 =
    (laws_markEdgeS a0.2 a1).bind fun r1 =>
      some (r1.1, a0.1, r1.2) :=
  (den_eq Γ X 39 rfl _).trans (by kernel_rfl)
theorem laws_heldEdgeS_eq (a0 : (List (Int × Int))) (a1 : Int) : laws_heldEdgeS a0 a1 =
    laws_heldEdgeS_l0 a0 a1 0 :=
  (den_eq Γ X 40 rfl _).trans (by kernel_rfl)
theorem laws_heldEdgeS_l0_eq (x0 : (List (Int × Int))) (x1 : Int) (x5 : Int) : laws_heldEdgeS_l0 x0 x1 x5 =
    cond (decide (x5 < (x0.length : Int)))
      (cond (inside x5 x0.length)
        (cond ((((x0.getD x5.toNat (0, 0)).1) : Int) != x1)
          (some (-1))
          (cond (inside x5 x0.length)
            (cond ((((x0.getD x5.toNat (0, 0)).2) : Int) != (w64 (x1 + 1)))
              (some (-1))
              (laws_heldEdgeS_l0 x0 (w64 ((w64 (x1 + 1)) + 1)) (w64 (x5 + 1))))
            (none)))
        (none))
      (some x1) :=
  (at_eq Γ X 40 [1, 0, 1, 0] _).trans (by kernel_rfl)
theorem laws_heldGraph_eq (a0 : (Int × (List (Int × Int)))) (a1 : Int) : laws_heldGraph a0 a1 =
    (laws_heldEdgeS a0.2 a1).bind fun r1 =>
      cond (decide (r1 < 0))
        (some (-1))
        (some r1) :=
  (den_eq Γ X 41 rfl _).trans (by kernel_rfl)
theorem laws_FnExactParseGraph_eq (a0 : ByteArray) : laws_FnExactParseGraph a0 =
    cond (decide ((a0.size : Int) > 1048576))
      (some true)
      ((spec_ParseGraph a0).bind fun r1 =>
        (impl_ParseGraph a0).bind fun r2 =>
          (laws_eqGraph r2.1 r1.1).bind fun r3 =>
            cond (!r3)
              (some false)
              (cond (!((r2.2 : Bool) == r1.2))
                (some false)
                ((laws_markGraph r2.1 1).bind fun r4 =>
                  (laws_heldGraph r4.2 1).bind fun r5 =>
                    cond (decide (r5 < 0))
                      (some false)
                      (laws_FnExactParseGraph_c13 a0 r1.1 r1.2 r4.2 r4.1 r5)))) :=
  (den_eq Γ X 42 rfl _).trans (by kernel_rfl)
theorem laws_FnExactParseGraph_c13_eq (x0 : ByteArray) (x3 : (Int × (List (Int × Int)))) (x4 : Bool) (x5 : (Int × (List (Int × Int)))) (x7 : Int) (x8 : Int) : laws_FnExactParseGraph_c13 x0 x3 x4 x5 x7 x8 =
    cond ((x8 : Int) != x7)
      (some false)
      ((impl_ParseGraph x0).bind fun r6 =>
        (laws_eqGraph r6.1 x3).bind fun r7 =>
          cond (!r7)
            (some false)
            (cond (!((r6.2 : Bool) == x4))
              (some false)
              ((laws_heldGraph x5 1).bind fun r8 =>
                cond (decide (r8 < 0))
                  (some false)
                  (cond ((r8 : Int) != x7)
                    (some false)
                    (some true))))) :=
  (at_eq Γ X 42 [1, 1, 1, 1, 1, 1, 1, 1, 1, 1, 0, 0] _).trans (by kernel_rfl)
end Go.Proofs.YtkedbhndiokegaaDoor.D

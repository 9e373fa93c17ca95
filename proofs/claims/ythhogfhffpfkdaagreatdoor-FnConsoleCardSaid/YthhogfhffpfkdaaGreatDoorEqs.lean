/-
  Each function and each loop by its equation: what the evaluator tells of it, for all arguments.
-/
import Derived.Test.YthhogfhffpfkdaaGreatDoorCtx
import Derived.KernelRfl
namespace Go.Proofs.YthhogfhffpfkdaaGreatDoor.D
open Go Go.Den
set_option linter.unusedVariables false
set_option maxRecDepth 100000
theorem spec_l01New_eq a0 : spec_l01New a0 =
  spec_l01New_l0 a0 (w64 (2069 + (a0.length : Int))) 0 :=
 (den_eq Γ X 0 rfl _).trans (by kernel_rfl)
theorem spec_l01New_l0_eq x0 x3 x4 : spec_l01New_l0 x0 x3 x4 =
  cond (decide (x4 < (x0.length : Int)))
   (cond (decide (x4 < 4000))
    (cond (inside x4 x0.length)
     (spec_l01New_l0 x0 (bits .and .i64 (w64 ((w64 ((w64 (x3 * 97)) + (w64 (x0.getD x4.toNat 0)))) + 7)) 1073741823) (w64 (x4 + 1)))
     (none))
    (some (x0, 0, x3)))
   (some (x0, 0, x3)) :=
 (at_eq Γ X 0 [1, 1, 0, 1, 0] _).trans (by kernel_rfl)
theorem spec_l01Byte_eq a0 : spec_l01Byte a0 =
  cond (decide (a0.2.1 < (a0.1.length : Int)))
   (cond (inside a0.2.1 a0.1.length)
    (spec_l01Byte_c5 (a0.1, a0.2.1, w64 ((w64 (a0.2.2 * 6364136223846793005)) + 1442695040888963407)) (bits .and .i64 (w64 ((bits .and .i64 (bits .xor .i64 (Int.fdiv (w64 ((w64 (a0.2.2 * 6364136223846793005)) + 1442695040888963407)) (2 ^ 33)) (Int.fdiv (w64 ((w64 (a0.2.2 * 6364136223846793005)) + 1442695040888963407)) (2 ^ 45))) 255) + (w64 (a0.1.getD a0.2.1.toNat 0)))) 255))
    (none))
   (some (bits .and .i64 (bits .xor .i64 (Int.fdiv (w64 ((w64 (a0.2.2 * 6364136223846793005)) + 1442695040888963407)) (2 ^ 33)) (Int.fdiv (w64 ((w64 (a0.2.2 * 6364136223846793005)) + 1442695040888963407)) (2 ^ 45))) 255, a0.1, a0.2.1, w64 ((w64 (a0.2.2 * 6364136223846793005)) + 1442695040888963407))) :=
 (den_eq Γ X 1 rfl _).trans (by kernel_rfl)
theorem spec_l01Byte_c5_eq x0 x3 : spec_l01Byte_c5 x0 x3 =
  some (x3, x0.1, w64 (x0.2.1 + 1), x0.2.2) :=
 (at_eq Γ X 1 [1, 1, 1, 0, 1, 0, 1] _).trans (by kernel_rfl)
theorem spec_l21New_eq a0 a1 : spec_l21New a0 a1 =
  (spec_l01New a0).bind fun r1 =>
   spec_l21New_l0 a1 0 r1 :=
 (den_eq Γ X 2 rfl _).trans (by kernel_rfl)
theorem spec_l21New_l0_eq x1 x6 x8 : spec_l21New_l0 x1 x6 x8 =
  cond (decide (x6 < x1))
   ((spec_l01Byte x8).bind fun r2 =>
    spec_l21New_l0 x1 (w64 (x6 + 1)) r2.2)
   (some x8) :=
 (at_eq Γ X 2 [1, 1, 0, 1, 0] _).trans (by kernel_rfl)
theorem spec_MakeNum_eq a0 a1 : spec_MakeNum a0 a1 =
  (spec_l21New a0 a1).bind fun r1 =>
   (spec_l01Byte r1).bind fun r2 =>
    (spec_l01Byte r2.2).bind fun r3 =>
     some (w64 ((w64 (r2.1 * 256)) + r3.1)) :=
 (den_eq Γ X 3 rfl _).trans (by kernel_rfl)
theorem strconv_Itoa_eq a0 : strconv_Itoa a0 = Lb.itoa a0 := den_ext Γ X 4 rfl _
theorem impl_FormatInt_eq a0 : impl_FormatInt a0 =
  (strconv_Itoa a0).bind fun r1 =>
   some r1 :=
 (den_eq Γ X 5 rfl _).trans (by kernel_rfl)
theorem strings_IndexByte_eq a0 a1 : strings_IndexByte a0 a1 = Lb.indexByte a0 a1 := den_ext Γ X 6 rfl _
theorem impl_SplitAny_eq a0 a1 : impl_SplitAny a0 a1 =
  impl_SplitAny_l0 a0 a1 ([] : List ByteArray) 0 0 :=
 (den_eq Γ X 7 rfl _).trans (by kernel_rfl)
theorem impl_SplitAny_l0_eq x0 x1 x5 x6 x7 : impl_SplitAny_l0 x0 x1 x5 x6 x7 =
  cond (decide (x7 < (x0.size : Int)))
   (cond (inside x7 x0.size)
    ((strings_IndexByte x1 (bAt x0 x7.toNat)).bind fun r1 =>
     cond (decide (r1 ≥ 0))
      (cond (decide (0 ≤ x6) && decide (x6 ≤ x7) && decide (x7 ≤ (x0.size : Int)))
       (cond (decide (x5.length + ([x0.extract x6.toNat x7.toNat] : List ByteArray).length ≤ room))
        (impl_SplitAny_l0 x0 x1 (x5 ++ ([x0.extract x6.toNat x7.toNat] : List ByteArray)) (w64 (x7 + 1)) (w64 (x7 + 1)))
        (none))
       (none))
      (impl_SplitAny_l0 x0 x1 x5 x6 (w64 (x7 + 1))))
    (none))
   (cond (decide (0 ≤ x6) && decide (x6 ≤ (x0.size : Int)) && decide ((x0.size : Int) ≤ (x0.size : Int)))
    (cond (decide (x5.length + ([x0.extract x6.toNat ((x0.size : Int).toNat)] : List ByteArray).length ≤ room))
     (some (x5 ++ ([x0.extract x6.toNat ((x0.size : Int).toNat)] : List ByteArray)))
     (none))
    (none)) :=
 (at_eq Γ X 7 [1, 1, 1, 0, 1, 0] _).trans (by kernel_rfl)
theorem impl_SplitLines_eq a0 : impl_SplitLines a0 =
  (impl_SplitAny a0 (⟨#[10]⟩ : ByteArray)).bind fun r1 =>
   cond (inside (w64 ((r1.length : Int) - 1)) r1.length)
    (cond ((r1.getD ((w64 ((r1.length : Int) - 1)).toNat) ByteArray.empty).toList == (⟨#[]⟩ : ByteArray).toList)
     (cond (decide (0 ≤ 0) && decide (0 ≤ w64 ((r1.length : Int) - 1)) && decide (w64 ((r1.length : Int) - 1) ≤ (r1.length : Int)))
      (some ((r1.take ((w64 ((r1.length : Int) - 1)).toNat)).drop 0))
      (none))
     (some r1))
    (none) :=
 (den_eq Γ X 8 rfl _).trans (by kernel_rfl)
theorem impl_NewConsole_eq : impl_NewConsole =
  some ((1, ([] : List (Int × Int))), ([0] : List Int), 0) :=
 (den_eq Γ X 9 rfl _).trans (by kernel_rfl)
theorem impl_copyGraph_eq a0 : impl_copyGraph a0 =
  cond (decide (([] : List (Int × Int)).length + a0.2.length ≤ room))
   (some (a0.1, ([] : List (Int × Int)) ++ a0.2))
   (none) :=
 (den_eq Γ X 10 rfl _).trans (by kernel_rfl)
theorem impl_copyInts_eq a0 : impl_copyInts a0 =
  cond (decide (([] : List Int).length + a0.length ≤ room))
   (some (([] : List Int) ++ a0))
   (none) :=
 (den_eq Γ X 11 rfl _).trans (by kernel_rfl)
theorem impl_copyConsole_eq a0 : impl_copyConsole a0 =
  (impl_copyGraph a0.1).bind fun r1 =>
   (impl_copyInts a0.2.1).bind fun r2 =>
    some (r1, r2, a0.2.2) :=
 (den_eq Γ X 12 rfl _).trans (by kernel_rfl)
theorem impl_within_eq a0 a1 a2 : impl_within a0 a1 a2 =
  cond (decide (a0 ≥ a1))
   (some (decide (a0 ≤ a2)))
   (some false) :=
 (den_eq Γ X 13 rfl _).trans (by kernel_rfl)
theorem strings_Join_eq a0 a1 : strings_Join a0 a1 = Lb.join a0 a1 := den_ext Γ X 14 rfl _
theorem impl_Join_eq a0 a1 : impl_Join a0 a1 =
  (strings_Join a0 a1).bind fun r1 =>
   some r1 :=
 (den_eq Γ X 15 rfl _).trans (by kernel_rfl)
theorem strings_TrimSuffix_eq a0 a1 : strings_TrimSuffix a0 a1 = Lb.trimSuffix a0 a1 := den_ext Γ X 16 rfl _
theorem impl_ParseInt_eq a0 : impl_ParseInt a0 = Lb.pint a0 := den_ext Γ X 17 rfl _
theorem strings_Cut_eq a0 a1 : strings_Cut a0 a1 = Lb.cut a0 a1 := den_ext Γ X 18 rfl _
theorem impl_EdgesOk_eq a0 : impl_EdgesOk a0 =
  (impl_within a0.1 1 6).bind fun r1 =>
   cond (!r1)
    (some false)
    (cond (decide ((a0.2.length : Int) > 12))
     (some false)
     (impl_EdgesOk_l0 a0 a0.2 (a0.2.length : Int) 0)) :=
 (den_eq Γ X 19 rfl _).trans (by kernel_rfl)
theorem impl_EdgesOk_l0_eq x1 x16 x17 x18 : impl_EdgesOk_l0 x1 x16 x17 x18 =
  cond (decide (x18 < x17))
   (cond (inside x18 x16.length)
    (cond (decide ((x16.getD x18.toNat (0, 0)).1 < 0))
     (some false)
     (cond (decide ((x16.getD x18.toNat (0, 0)).1 ≥ (x16.getD x18.toNat (0, 0)).2))
      (some false)
      (cond (decide ((x16.getD x18.toNat (0, 0)).2 ≥ x1.1))
       (some false)
       (impl_EdgesOk_l0 x1 x16 x17 (w64 (x18 + 1))))))
    (none))
   (some true) :=
 (at_eq Γ X 19 [1, 1, 0, 1, 0] _).trans (by kernel_rfl)
theorem cmp_isNaN_int_eq a0 : cmp_isNaN_int a0 =
  some ((a0 : Int) != a0) :=
 (den_eq Γ X 20 rfl _).trans (by kernel_rfl)
theorem cmp_Compare_int_eq a0 a1 : cmp_Compare_int a0 a1 =
  (cmp_isNaN_int a0).bind fun r1 =>
   (cmp_isNaN_int a1).bind fun r2 =>
    cond (r1)
     (cond (r2)
      (some 0)
      (some (-1)))
     (cond (r2)
      (some 1)
      (cond (decide (a0 < a1))
       (some (-1))
       (cond (decide (a0 > a1))
        (some 1)
        (some 0)))) :=
 (den_eq Γ X 21 rfl _).trans (by kernel_rfl)
theorem impl_compareEdges_eq a0 a1 : impl_compareEdges a0 a1 =
  (cmp_Compare_int a0.1 a1.1).bind fun r1 =>
   cond ((r1 : Int) != 0)
    (some r1)
    ((cmp_Compare_int a0.2 a1.2).bind fun r2 =>
     some r2) :=
 (den_eq Γ X 22 rfl _).trans (by kernel_rfl)
theorem impl_Edge__compareEdges_eq a0 : impl_Edge__compareEdges a0 =
  impl_Edge__compareEdges_l0 a0 (w64 ((a0.length : Int) - 1)) :=
 (den_eq Γ X 23 rfl _).trans (by kernel_rfl)
theorem impl_Edge__compareEdges_l0_eq x0 x5 : impl_Edge__compareEdges_l0 x0 x5 =
  cond (decide (x5 > 0))
   (cond (inside x5 x0.length)
    (cond (inside (w64 (x5 - 1)) x0.length)
     ((impl_compareEdges (x0.getD x5.toNat (0, 0)) (x0.getD ((w64 (x5 - 1)).toNat) (0, 0))).bind fun r1 =>
      cond (decide (r1 < 0))
       (some false)
       (impl_Edge__compareEdges_l0 x0 (w64 (x5 - 1))))
     (none))
    (none))
   (some true) :=
 (at_eq Γ X 23 [1, 0, 1, 0] _).trans (by kernel_rfl)
theorem impl_connected_eq a0 a1 : impl_connected a0 a1 =
  impl_connected_l0 a0 a1 1 a0 0 :=
 (den_eq Γ X 24 rfl _).trans (by kernel_rfl)
theorem impl_connected_l0_eq x0 x1 x5 x8 x9 : impl_connected_l0 x0 x1 x5 x8 x9 =
  cond (decide (x9 < x8))
   (impl_connected_l2 x0 x1 x5 x8 x9 x1 (x1.length : Int) 0)
   (cond (decide (x0 < 0))
    (none)
    (some ((x5 : Int) == (w64 ((w64 (1 * 2 ^ (min x0.toNat 64))) - 1))))) :=
 (at_eq Γ X 24 [1, 1, 0, 1, 0] _).trans (by kernel_rfl)
theorem impl_connected_l2_eq x0 x1 x5 x8 x9 x11 x12 x13 : impl_connected_l2 x0 x1 x5 x8 x9 x11 x12 x13 =
  cond (decide (x13 < x12))
   (cond (inside x13 x11.length)
    (cond (decide ((x11.getD x13.toNat (0, 0)).1 < 0))
     (none)
     (cond (((bits .and .i64 (Int.fdiv x5 (2 ^ (min ((x11.getD x13.toNat (0, 0)).1).toNat 64))) 1) : Int) == 1)
      (cond (decide ((x11.getD x13.toNat (0, 0)).1 < 0))
       (none)
       (cond (decide ((x11.getD x13.toNat (0, 0)).2 < 0))
        (none)
        (impl_connected_l2 x0 x1 (bits .or .i64 x5 (bits .or .i64 (w64 (1 * 2 ^ (min ((x11.getD x13.toNat (0, 0)).1).toNat 64))) (w64 (1 * 2 ^ (min ((x11.getD x13.toNat (0, 0)).2).toNat 64))))) x8 x9 x11 x12 (w64 (x13 + 1)))))
      (cond (decide ((x11.getD x13.toNat (0, 0)).2 < 0))
       (none)
       (cond (((bits .and .i64 (Int.fdiv x5 (2 ^ (min ((x11.getD x13.toNat (0, 0)).2).toNat 64))) 1) : Int) == 1)
        (cond (decide ((x11.getD x13.toNat (0, 0)).1 < 0))
         (none)
         (cond (decide ((x11.getD x13.toNat (0, 0)).2 < 0))
          (none)
          (impl_connected_l2 x0 x1 (bits .or .i64 x5 (bits .or .i64 (w64 (1 * 2 ^ (min ((x11.getD x13.toNat (0, 0)).1).toNat 64))) (w64 (1 * 2 ^ (min ((x11.getD x13.toNat (0, 0)).2).toNat 64))))) x8 x9 x11 x12 (w64 (x13 + 1)))))
        (impl_connected_l2 x0 x1 x5 x8 x9 x11 x12 (w64 (x13 + 1)))))))
    (none))
   (impl_connected_l0 x0 x1 x5 x8 (w64 (x9 + 1))) :=
 (at_eq Γ X 24 [1, 1, 0, 1, 0, 0, 1, 1, 0, 0, 1, 0] _).trans (by kernel_rfl)
theorem impl_GraphOk_eq a0 : impl_GraphOk a0 =
  (impl_EdgesOk a0).bind fun r1 =>
   cond (r1)
    ((impl_Edge__compareEdges a0.2).bind fun r2 =>
     cond (r2)
      ((impl_connected a0.1 a0.2).bind fun r3 =>
       some r3)
      (some false))
    (some false) :=
 (den_eq Γ X 25 rfl _).trans (by kernel_rfl)
theorem impl_FormatGraph_eq a0 : impl_FormatGraph a0 =
  (impl_GraphOk a0).bind fun r1 =>
   cond (!r1)
    (some (⟨#[]⟩ : ByteArray))
    ((impl_FormatInt a0.1).bind fun r2 =>
     cond (decide (r2.size + (⟨#[58]⟩ : ByteArray).size ≤ 9223372036854775807))
      (impl_FormatGraph_l0 (r2 ++ (⟨#[58]⟩ : ByteArray)) a0.2 (a0.2.length : Int) 0)
      (none)) :=
 (den_eq Γ X 26 rfl _).trans (by kernel_rfl)
theorem impl_FormatGraph_l0_eq x3 x14 x15 x16 : impl_FormatGraph_l0 x3 x14 x15 x16 =
  cond (decide (x16 < x15))
   (cond (inside x16 x14.length)
    ((impl_FormatInt ((x14.getD x16.toNat (0, 0)).1)).bind fun r3 =>
     cond (decide ((⟨#[32]⟩ : ByteArray).size + r3.size ≤ 9223372036854775807))
      (cond (decide (((⟨#[32]⟩ : ByteArray) ++ r3).size + (⟨#[45]⟩ : ByteArray).size ≤ 9223372036854775807))
       ((impl_FormatInt ((x14.getD x16.toNat (0, 0)).2)).bind fun r4 =>
        cond (decide ((((⟨#[32]⟩ : ByteArray) ++ r3) ++ (⟨#[45]⟩ : ByteArray)).size + r4.size ≤ 9223372036854775807))
         (cond (decide (x3.size + ((((⟨#[32]⟩ : ByteArray) ++ r3) ++ (⟨#[45]⟩ : ByteArray)) ++ r4).size ≤ 9223372036854775807))
          (impl_FormatGraph_l0 (x3 ++ ((((⟨#[32]⟩ : ByteArray) ++ r3) ++ (⟨#[45]⟩ : ByteArray)) ++ r4)) x14 x15 (w64 (x16 + 1)))
          (none))
         (none))
       (none))
      (none))
    (none))
   (some x3) :=
 (at_eq Γ X 26 [1, 1, 1, 0, 1, 0] _).trans (by kernel_rfl)
theorem impl_ParseGraph_eq a0 : impl_ParseGraph a0 =
  (impl_SplitAny a0 (⟨#[32]⟩ : ByteArray)).bind fun r1 =>
   cond (inside 0 r1.length)
    ((strings_TrimSuffix (r1.getD 0 ByteArray.empty) (⟨#[58]⟩ : ByteArray)).bind fun r2 =>
     (impl_ParseInt r2).bind fun r3 =>
      cond (!r3.2)
       (some ((0, ([] : List (Int × Int))), false))
       (cond (decide (0 ≤ 1) && decide (1 ≤ (r1.length : Int)) && decide ((r1.length : Int) ≤ (r1.length : Int)))
        (impl_ParseGraph_l0 a0 (0, ([] : List (Int × Int))) (r3.1, ([] : List (Int × Int))) ((r1.take ((r1.length : Int).toNat)).drop 1) (((r1.take ((r1.length : Int).toNat)).drop 1).length : Int) 0)
        (none)))
    (none) :=
 (den_eq Γ X 27 rfl _).trans (by kernel_rfl)
theorem impl_ParseGraph_l0_eq x0 x2 x7 x33 x34 x35 : impl_ParseGraph_l0 x0 x2 x7 x33 x34 x35 =
  cond (decide (x35 < x34))
   (cond (inside x35 x33.length)
    ((strings_Cut (x33.getD x35.toNat ByteArray.empty) (⟨#[45]⟩ : ByteArray)).bind fun r4 =>
     (impl_ParseInt r4.1).bind fun r5 =>
      (impl_ParseInt r4.2.1).bind fun r6 =>
       cond (!r5.2)
        (some ((0, ([] : List (Int × Int))), false))
        (cond (!r6.2)
         (some ((0, ([] : List (Int × Int))), false))
         (cond (decide (x7.2.length + ([(r5.1, r6.1)] : List (Int × Int)).length ≤ room))
          (impl_ParseGraph_c15 x0 x2 (x7.1, x7.2 ++ ([(r5.1, r6.1)] : List (Int × Int))) x33 x34 x35)
          (none))))
    (none))
   ((impl_GraphOk x7).bind fun r7 =>
    cond (!r7)
     (some ((0, ([] : List (Int × Int))), false))
     ((impl_FormatGraph x7).bind fun r8 =>
      cond (!(r8.toList == x0.toList))
       (some ((0, ([] : List (Int × Int))), false))
       (some (x7, true)))) :=
 (at_eq Γ X 27 [1, 1, 1, 1, 1, 0, 1, 0] _).trans (by kernel_rfl)
theorem impl_ParseGraph_c15_eq x0 x2 x7 x33 x34 x35 : impl_ParseGraph_c15 x0 x2 x7 x33 x34 x35 =
  impl_ParseGraph_l0 x0 x2 x7 x33 x34 (w64 (x35 + 1)) :=
 (at_eq Γ X 27 [1, 1, 1, 1, 1, 0, 1, 0, 0, 1, 1, 1] _).trans (by kernel_rfl)
theorem impl_isVertex_eq a0 a1 : impl_isVertex a0 a1 =
  (impl_GraphOk a0).bind fun r1 =>
   cond (r1)
    ((impl_within a1 0 (w64 (a0.1 - 1))).bind fun r2 =>
     some r2)
    (some false) :=
 (den_eq Γ X 28 rfl _).trans (by kernel_rfl)
theorem impl_Multiplicity_eq a0 a1 a2 : impl_Multiplicity a0 a1 a2 =
  cond (decide (imin a1 a2 < 0))
   (some 0)
   (cond (decide (imax a1 a2 ≥ a0.1))
    (some 0)
    (cond ((a1 : Int) == a2)
     (some 0)
     (impl_Multiplicity_l0 a1 a2 0 a0.2 (a0.2.length : Int) 0))) :=
 (den_eq Γ X 29 rfl _).trans (by kernel_rfl)
theorem impl_Multiplicity_l0_eq x1 x2 x7 x28 x29 x30 : impl_Multiplicity_l0 x1 x2 x7 x28 x29 x30 =
  cond (decide (x30 < x29))
   (cond (inside x30 x28.length)
    (cond ((((x28.getD x30.toNat (0, 0)).1) : Int) == (imin x1 x2))
     (cond ((((x28.getD x30.toNat (0, 0)).2) : Int) == (imax x1 x2))
      (impl_Multiplicity_l0 x1 x2 (w64 (x7 + 1)) x28 x29 (w64 (x30 + 1)))
      (impl_Multiplicity_l0 x1 x2 x7 x28 x29 (w64 (x30 + 1))))
     (impl_Multiplicity_l0 x1 x2 x7 x28 x29 (w64 (x30 + 1))))
    (none))
   (some x7) :=
 (at_eq Γ X 29 [1, 1, 1, 0, 1, 0] _).trans (by kernel_rfl)
theorem impl_Valence_eq a0 a1 : impl_Valence a0 a1 =
  cond (decide (a1 < 0))
   (some 0)
   (cond (decide (a1 ≥ a0.1))
    (some 0)
    (impl_Valence_l0 a1 0 a0.2 (a0.2.length : Int) 0)) :=
 (den_eq Γ X 30 rfl _).trans (by kernel_rfl)
theorem impl_Valence_l0_eq x1 x5 x17 x18 x19 : impl_Valence_l0 x1 x5 x17 x18 x19 =
  cond (decide (x19 < x18))
   (cond (inside x19 x17.length)
    (cond ((((x17.getD x19.toNat (0, 0)).1) : Int) == x1)
     (impl_Valence_l0 x1 (w64 (x5 + 1)) x17 x18 (w64 (x19 + 1)))
     (cond ((((x17.getD x19.toNat (0, 0)).2) : Int) == x1)
      (impl_Valence_l0 x1 (w64 (x5 + 1)) x17 x18 (w64 (x19 + 1)))
      (impl_Valence_l0 x1 x5 x17 x18 (w64 (x19 + 1)))))
    (none))
   (some x5) :=
 (at_eq Γ X 30 [1, 1, 1, 0, 1, 0] _).trans (by kernel_rfl)
theorem impl_LaplacianOf_eq a0 : impl_LaplacianOf a0 =
  (impl_GraphOk a0).bind fun r1 =>
   cond (!r1)
    (some ([] : List (List Int)))
    (impl_LaplacianOf_l0 a0 ([] : List (List Int)) 0) :=
 (den_eq Γ X 31 rfl _).trans (by kernel_rfl)
theorem impl_LaplacianOf_l0_eq x1 x3 x4 : impl_LaplacianOf_l0 x1 x3 x4 =
  cond (decide (x4 < x1.1))
   (cond (decide (0 ≤ x1.1) && decide (x1.1 ≤ (room : Int)))
    (impl_LaplacianOf_l2 x1 x3 x4 (List.replicate x1.1.toNat (0 : Int)) ((List.replicate x1.1.toNat (0 : Int)).length : Int) 0)
    (none))
   (some x3) :=
 (at_eq Γ X 31 [1, 1, 1, 0, 1, 0] _).trans (by kernel_rfl)
theorem impl_LaplacianOf_l2_eq x1 x3 x4 x5 x20 x21 : impl_LaplacianOf_l2 x1 x3 x4 x5 x20 x21 =
  cond (decide (x21 < x20))
   ((impl_Multiplicity x1 x4 x21).bind fun r2 =>
    cond (inside x21 x5.length)
     (impl_LaplacianOf_l2 x1 x3 x4 (x5.set x21.toNat (w64 (0 - r2))) x20 (w64 (x21 + 1)))
     (none))
   ((impl_Valence x1 x4).bind fun r3 =>
    cond (inside x4 x5.length)
     (cond (decide (x3.length + ([x5.set x4.toNat r3] : List (List Int)).length ≤ room))
      (impl_LaplacianOf_l0 x1 (x3 ++ ([x5.set x4.toNat r3] : List (List Int))) (w64 (x4 + 1)))
      (none))
     (none)) :=
 (at_eq Γ X 31 [1, 1, 1, 0, 1, 0, 0, 1, 0, 0, 1, 0, 1, 0] _).trans (by kernel_rfl)
theorem impl_ReducedLaplacian_eq a0 a1 : impl_ReducedLaplacian a0 a1 = Lb.redLap impl_isVertex impl_LaplacianOf a0 a1 := den_ext Γ X 32 rfl _
theorem impl_allWithin_eq a0 a1 a2 : impl_allWithin a0 a1 a2 =
  impl_allWithin_l0 a1 a2 a0 (a0.length : Int) 0 :=
 (den_eq Γ X 33 rfl _).trans (by kernel_rfl)
theorem impl_allWithin_l0_eq x1 x2 x9 x10 x11 : impl_allWithin_l0 x1 x2 x9 x10 x11 =
  cond (decide (x11 < x10))
   (cond (inside x11 x9.length)
    ((impl_within (x9.getD x11.toNat 0) x1 x2).bind fun r1 =>
     cond (!r1)
      (some false)
      (impl_allWithin_l0 x1 x2 x9 x10 (w64 (x11 + 1))))
    (none))
   (some true) :=
 (at_eq Γ X 33 [1, 0, 1, 0] _).trans (by kernel_rfl)
theorem impl_MatrixOk_eq a0 : impl_MatrixOk a0 =
  cond (decide ((a0.length : Int) > 6))
   (some false)
   (impl_MatrixOk_l0 a0 a0 (a0.length : Int) 0) :=
 (den_eq Γ X 34 rfl _).trans (by kernel_rfl)
theorem impl_MatrixOk_l0_eq x0 x8 x9 x10 : impl_MatrixOk_l0 x0 x8 x9 x10 =
  cond (decide (x10 < x9))
   (cond (inside x10 x8.length)
    (cond ((((x8.getD x10.toNat ([] : List Int)).length : Int) : Int) != (x0.length : Int))
     (some false)
     ((impl_allWithin (x8.getD x10.toNat ([] : List Int)) (-500) 500).bind fun r1 =>
      cond (!r1)
       (some false)
       (impl_MatrixOk_l0 x0 x8 x9 (w64 (x10 + 1)))))
    (none))
   (some true) :=
 (at_eq Γ X 34 [1, 1, 0, 1, 0] _).trans (by kernel_rfl)
theorem impl_bitsOf_eq a0 : impl_bitsOf a0 =
  impl_bitsOf_l0 a0 ([] : List Int) 0 :=
 (den_eq Γ X 35 rfl _).trans (by kernel_rfl)
theorem impl_bitsOf_l0_eq x0 x3 x4 : impl_bitsOf_l0 x0 x3 x4 =
  cond (decide (x4 < 0))
   (none)
   (cond (decide (Int.fdiv x0 (2 ^ (min x4.toNat 64)) > 0))
    (cond (decide (x4 < 0))
     (none)
     (cond (((bits .and .i64 (Int.fdiv x0 (2 ^ (min x4.toNat 64))) 1) : Int) == 1)
      (cond (decide (x3.length + ([x4] : List Int).length ≤ room))
       (impl_bitsOf_l0 x0 (x3 ++ ([x4] : List Int)) (w64 (x4 + 1)))
       (none))
      (impl_bitsOf_l0 x0 x3 (w64 (x4 + 1)))))
    (some x3)) :=
 (at_eq Γ X 35 [1, 1, 0, 1, 0] _).trans (by kernel_rfl)
theorem impl_determinant_eq a0 a1 a2 : impl_determinant a0 a1 a2 =
  cond (((a1.length : Int) : Int) == 0)
   (some 1)
   (cond (inside 0 a1.length)
    (cond (inside (a1.getD 0 0) a0.length)
     (impl_determinant_l0 a0 a1 a2 0 1 (a0.getD ((a1.getD 0 0).toNat) ([] : List Int)) ((a0.getD ((a1.getD 0 0).toNat) ([] : List Int)).length : Int) 0)
     (none))
    (none)) :=
 (den_eq Γ X 36 rfl _).trans (by kernel_rfl)
theorem impl_determinant_l0_eq x0 x1 x2 x7 x8 x19 x20 x21 : impl_determinant_l0 x0 x1 x2 x7 x8 x19 x20 x21 =
  cond (decide (x21 < x20))
   (cond (inside x21 x19.length)
    (cond (decide (x21 < 0))
     (none)
     (cond (((bits .and .i64 (Int.fdiv x2 (2 ^ (min x21.toNat 64))) 1) : Int) == 0)
      (impl_determinant_l0 x0 x1 x2 x7 x8 x19 x20 (w64 (x21 + 1)))
      (cond (((x19.getD x21.toNat 0) : Int) != 0)
       (cond (decide (0 ≤ 1) && decide (1 ≤ (x1.length : Int)) && decide ((x1.length : Int) ≤ (x1.length : Int)))
        (cond (decide (x21 < 0))
         (none)
         ((impl_determinant x0 ((x1.take ((x1.length : Int).toNat)).drop 1) (bits .andNot .i64 x2 (w64 (1 * 2 ^ (min x21.toNat 64))))).bind fun r1 =>
          impl_determinant_l0 x0 x1 x2 (w64 (x7 + (w64 ((w64 (x8 * (x19.getD x21.toNat 0))) * r1)))) (w64 (0 - x8)) x19 x20 (w64 (x21 + 1))))
        (none))
       (impl_determinant_l0 x0 x1 x2 x7 (w64 (0 - x8)) x19 x20 (w64 (x21 + 1))))))
    (none))
   (some x7) :=
 (at_eq Γ X 36 [1, 1, 1, 0, 1, 0] _).trans (by kernel_rfl)
theorem impl_magnitude_eq a0 : impl_magnitude a0 =
  some (imax a0 (w64 (0 - a0))) :=
 (den_eq Γ X 37 rfl _).trans (by kernel_rfl)
theorem impl_divisor_eq a0 a1 : impl_divisor a0 a1 =
  impl_divisor_l0 a0 a1 :=
 (den_eq Γ X 38 rfl _).trans (by kernel_rfl)
theorem impl_divisor_l0_eq x0 x1 : impl_divisor_l0 x0 x1 =
  cond ((x1 : Int) != 0)
   (cond (decide (x1 = 0))
    (none)
    (impl_divisor_l0 x1 (Int.tmod x0 x1)))
   ((impl_magnitude x0).bind fun r1 =>
    some r1) :=
 (at_eq Γ X 38 [1, 0, 0] _).trans (by kernel_rfl)
theorem impl_InvariantFactors_eq a0 : impl_InvariantFactors a0 =
  (impl_MatrixOk a0).bind fun r1 =>
   cond (!r1)
    (some ([] : List Int))
    (cond (((a0.length : Int) : Int) == 0)
     (some ([] : List Int))
     (cond (decide (0 ≤ w64 ((a0.length : Int) + 1)) && decide (w64 ((a0.length : Int) + 1) ≤ (room : Int)))
      (impl_InvariantFactors_l0 a0 (List.replicate (w64 ((a0.length : Int) + 1)).toNat (0 : Int)) 0)
      (none))) :=
 (den_eq Γ X 39 rfl _).trans (by kernel_rfl)
theorem impl_InvariantFactors_l0_eq x0 x3 x4 : impl_InvariantFactors_l0 x0 x3 x4 =
  cond (decide ((x0.length : Int) < 0))
   (none)
   (cond (decide (x4 < w64 (1 * 2 ^ (min (x0.length : Int).toNat 64))))
    ((impl_bitsOf x4).bind fun r2 =>
     impl_InvariantFactors_l2 x0 x3 x4 r2 0)
    (impl_InvariantFactors_l4 x3 ([] : List Int) (x0.length : Int) 0)) :=
 (at_eq Γ X 39 [1, 1, 1, 0, 1, 0] _).trans (by kernel_rfl)
theorem impl_InvariantFactors_l2_eq x0 x3 x4 x5 x6 : impl_InvariantFactors_l2 x0 x3 x4 x5 x6 =
  cond (decide ((x0.length : Int) < 0))
   (none)
   (cond (decide (x6 < w64 (1 * 2 ^ (min (x0.length : Int).toNat 64))))
    ((impl_bitsOf x6).bind fun r3 =>
     cond (((r3.length : Int) : Int) == (x5.length : Int))
      (cond (inside (x5.length : Int) x3.length)
       ((impl_determinant x0 x5 x6).bind fun r4 =>
        (impl_divisor (x3.getD ((x5.length : Int).toNat) 0) r4).bind fun r5 =>
         cond (inside (x5.length : Int) x3.length)
          (impl_InvariantFactors_l2 x0 (x3.set ((x5.length : Int).toNat) r5) x4 x5 (w64 (x6 + 1)))
          (none))
       (none))
      (impl_InvariantFactors_l2 x0 x3 x4 x5 (w64 (x6 + 1))))
    (impl_InvariantFactors_l0 x0 x3 (w64 (x4 + 1)))) :=
 (at_eq Γ X 39 [1, 1, 1, 0, 1, 0, 0, 1, 0, 0, 1, 1, 0] _).trans (by kernel_rfl)
theorem impl_InvariantFactors_l4_eq x3 x7 x58 x59 : impl_InvariantFactors_l4 x3 x7 x58 x59 =
  cond (decide (x59 < x58))
   (cond (inside (w64 (x59 + 1)) x3.length)
    (cond (((x3.getD ((w64 (x59 + 1)).toNat) 0) : Int) == 0)
     (cond (decide (x7.length + ([0] : List Int).length ≤ room))
      (impl_InvariantFactors_l4 x3 (x7 ++ ([0] : List Int)) x58 (w64 (x59 + 1)))
      (none))
     (cond (inside (w64 (x59 + 1)) x3.length)
      (cond (inside x59 x3.length)
       (cond (decide (x3.getD x59.toNat 0 = 0))
        (none)
        (cond (decide (x7.length + ([w64 (Int.tdiv (x3.getD ((w64 (x59 + 1)).toNat) 0) (x3.getD x59.toNat 0))] : List Int).length ≤ room))
         (impl_InvariantFactors_l4 x3 (x7 ++ ([w64 (Int.tdiv (x3.getD ((w64 (x59 + 1)).toNat) 0) (x3.getD x59.toNat 0))] : List Int)) x58 (w64 (x59 + 1)))
         (none)))
       (none))
      (none)))
    (none))
   (some x7) :=
 (at_eq Γ X 39 [1, 1, 1, 1, 1, 0, 1, 0] _).trans (by kernel_rfl)
theorem impl_GroupFactors_eq a0 : impl_GroupFactors a0 =
  (impl_GraphOk a0).bind fun r1 =>
   cond (!r1)
    (some ([] : List Int))
    ((impl_ReducedLaplacian a0 0).bind fun r2 =>
     (impl_InvariantFactors r2).bind fun r3 =>
      impl_GroupFactors_l0 ([] : List Int) r3 (r3.length : Int) 0) :=
 (den_eq Γ X 40 rfl _).trans (by kernel_rfl)
theorem impl_GroupFactors_l0_eq x3 x11 x12 x13 : impl_GroupFactors_l0 x3 x11 x12 x13 =
  cond (decide (x13 < x12))
   (cond (inside x13 x11.length)
    (cond (decide (x11.getD x13.toNat 0 > 1))
     (cond (decide (x3.length + ([x11.getD x13.toNat 0] : List Int).length ≤ room))
      (impl_GroupFactors_l0 (x3 ++ ([x11.getD x13.toNat 0] : List Int)) x11 x12 (w64 (x13 + 1)))
      (none))
     (impl_GroupFactors_l0 x3 x11 x12 (w64 (x13 + 1))))
    (none))
   (some x3) :=
 (at_eq Γ X 40 [1, 1, 1, 0, 1, 0] _).trans (by kernel_rfl)
theorem impl_FormatDivisor_eq a0 : impl_FormatDivisor a0 =
  cond (((a0.length : Int) : Int) == 0)
   (some (⟨#[110, 111, 110, 101]⟩ : ByteArray))
   (impl_FormatDivisor_l0 ([] : List ByteArray) a0 (a0.length : Int) 0) :=
 (den_eq Γ X 41 rfl _).trans (by kernel_rfl)
theorem impl_FormatDivisor_l0_eq x3 x9 x10 x11 : impl_FormatDivisor_l0 x3 x9 x10 x11 =
  cond (decide (x11 < x10))
   (cond (inside x11 x9.length)
    ((impl_FormatInt (x9.getD x11.toNat 0)).bind fun r1 =>
     cond (decide (x3.length + ([r1] : List ByteArray).length ≤ room))
      (impl_FormatDivisor_l0 (x3 ++ ([r1] : List ByteArray)) x9 x10 (w64 (x11 + 1)))
      (none))
    (none))
   ((impl_Join x3 (⟨#[32]⟩ : ByteArray)).bind fun r2 =>
    some r2) :=
 (at_eq Γ X 41 [1, 1, 1, 0, 1, 0] _).trans (by kernel_rfl)
theorem impl_GenusOf_eq a0 : impl_GenusOf a0 =
  (impl_GraphOk a0).bind fun r1 =>
   cond (!r1)
    (some (-1))
    (some (w64 ((w64 ((a0.2.length : Int) - a0.1)) + 1))) :=
 (den_eq Γ X 42 rfl _).trans (by kernel_rfl)
theorem impl_Determinant_eq a0 : impl_Determinant a0 =
  (impl_MatrixOk a0).bind fun r1 =>
   cond (!r1)
    (some 0)
    (cond (decide ((a0.length : Int) < 0))
     (none)
     ((impl_bitsOf (w64 ((w64 (1 * 2 ^ (min (a0.length : Int).toNat 64))) - 1))).bind fun r2 =>
      cond (decide ((a0.length : Int) < 0))
       (none)
       ((impl_determinant a0 r2 (w64 ((w64 (1 * 2 ^ (min (a0.length : Int).toNat 64))) - 1))).bind fun r3 =>
        some r3))) :=
 (den_eq Γ X 43 rfl _).trans (by kernel_rfl)
theorem impl_CountTrees_eq a0 : impl_CountTrees a0 =
  (impl_GraphOk a0).bind fun r1 =>
   cond (!r1)
    (some 0)
    ((impl_ReducedLaplacian a0 0).bind fun r2 =>
     (impl_Determinant r2).bind fun r3 =>
      some r3) :=
 (den_eq Γ X 44 rfl _).trans (by kernel_rfl)
theorem impl_GraphLine_eq a0 : impl_GraphLine a0 =
  (impl_GraphOk a0).bind fun r1 =>
   cond (!r1)
    (some (⟨#[]⟩ : ByteArray))
    ((impl_GroupFactors a0).bind fun r2 =>
     cond (decide ((r2.length : Int) > 0))
      ((impl_FormatDivisor r2).bind fun r3 =>
       (impl_GenusOf a0).bind fun r4 =>
        (impl_FormatInt r4).bind fun r5 =>
         cond (decide ((⟨#[103, 101, 110, 117, 115, 32]⟩ : ByteArray).size + r5.size ≤ 9223372036854775807))
          (cond (decide (((⟨#[103, 101, 110, 117, 115, 32]⟩ : ByteArray) ++ r5).size + (⟨#[32, 116, 114, 101, 101, 115, 32]⟩ : ByteArray).size ≤ 9223372036854775807))
           ((impl_CountTrees a0).bind fun r6 =>
            (impl_FormatInt r6).bind fun r7 =>
             cond (decide ((((⟨#[103, 101, 110, 117, 115, 32]⟩ : ByteArray) ++ r5) ++ (⟨#[32, 116, 114, 101, 101, 115, 32]⟩ : ByteArray)).size + r7.size ≤ 9223372036854775807))
              (cond (decide (((((⟨#[103, 101, 110, 117, 115, 32]⟩ : ByteArray) ++ r5) ++ (⟨#[32, 116, 114, 101, 101, 115, 32]⟩ : ByteArray)) ++ r7).size + (⟨#[32, 103, 114, 111, 117, 112, 32]⟩ : ByteArray).size ≤ 9223372036854775807))
               (cond (decide ((((((⟨#[103, 101, 110, 117, 115, 32]⟩ : ByteArray) ++ r5) ++ (⟨#[32, 116, 114, 101, 101, 115, 32]⟩ : ByteArray)) ++ r7) ++ (⟨#[32, 103, 114, 111, 117, 112, 32]⟩ : ByteArray)).size + r3.size ≤ 9223372036854775807))
                (some ((((((⟨#[103, 101, 110, 117, 115, 32]⟩ : ByteArray) ++ r5) ++ (⟨#[32, 116, 114, 101, 101, 115, 32]⟩ : ByteArray)) ++ r7) ++ (⟨#[32, 103, 114, 111, 117, 112, 32]⟩ : ByteArray)) ++ r3))
                (none))
               (none))
              (none))
           (none))
          (none))
      ((impl_GenusOf a0).bind fun r8 =>
       (impl_FormatInt r8).bind fun r9 =>
        cond (decide ((⟨#[103, 101, 110, 117, 115, 32]⟩ : ByteArray).size + r9.size ≤ 9223372036854775807))
         (cond (decide (((⟨#[103, 101, 110, 117, 115, 32]⟩ : ByteArray) ++ r9).size + (⟨#[32, 116, 114, 101, 101, 115, 32]⟩ : ByteArray).size ≤ 9223372036854775807))
          ((impl_CountTrees a0).bind fun r10 =>
           (impl_FormatInt r10).bind fun r11 =>
            cond (decide ((((⟨#[103, 101, 110, 117, 115, 32]⟩ : ByteArray) ++ r9) ++ (⟨#[32, 116, 114, 101, 101, 115, 32]⟩ : ByteArray)).size + r11.size ≤ 9223372036854775807))
             (cond (decide (((((⟨#[103, 101, 110, 117, 115, 32]⟩ : ByteArray) ++ r9) ++ (⟨#[32, 116, 114, 101, 101, 115, 32]⟩ : ByteArray)) ++ r11).size + (⟨#[32, 103, 114, 111, 117, 112, 32]⟩ : ByteArray).size ≤ 9223372036854775807))
              (cond (decide ((((((⟨#[103, 101, 110, 117, 115, 32]⟩ : ByteArray) ++ r9) ++ (⟨#[32, 116, 114, 101, 101, 115, 32]⟩ : ByteArray)) ++ r11) ++ (⟨#[32, 103, 114, 111, 117, 112, 32]⟩ : ByteArray)).size + (⟨#[116, 114, 105, 118, 105, 97, 108]⟩ : ByteArray).size ≤ 9223372036854775807))
               (some ((((((⟨#[103, 101, 110, 117, 115, 32]⟩ : ByteArray) ++ r9) ++ (⟨#[32, 116, 114, 101, 101, 115, 32]⟩ : ByteArray)) ++ r11) ++ (⟨#[32, 103, 114, 111, 117, 112, 32]⟩ : ByteArray)) ++ (⟨#[116, 114, 105, 118, 105, 97, 108]⟩ : ByteArray)))
               (none))
              (none))
             (none))
          (none))
         (none))) :=
 (den_eq Γ X 45 rfl _).trans (by kernel_rfl)
theorem impl_DivisorOk_eq a0 a1 : impl_DivisorOk a0 a1 =
  (impl_GraphOk a0).bind fun r1 =>
   cond (r1)
    (cond (((a1.length : Int) : Int) == a0.1)
     ((impl_allWithin a1 (-60) 60).bind fun r2 =>
      some r2)
     (some false))
    (some false) :=
 (den_eq Γ X 46 rfl _).trans (by kernel_rfl)
theorem impl_fire_eq a0 a1 a2 a3 : impl_fire a0 a1 a2 a3 =
  impl_fire_l0 a1 a2 a3 a0.2 (a0.2.length : Int) 0 :=
 (den_eq Γ X 47 rfl _).trans (by kernel_rfl)
theorem impl_fire_l0_eq x1 x2 x3 x11 x12 x13 : impl_fire_l0 x1 x2 x3 x11 x12 x13 =
  cond (decide (x13 < x12))
   (cond (inside x13 x11.length)
    (cond ((x2 : Int) == ((x11.getD x13.toNat (0, 0)).1))
     (cond (inside x2 x1.length)
      (cond (inside x2 x1.length)
       (cond (inside ((x11.getD x13.toNat (0, 0)).2) (x1.set x2.toNat (w64 ((x1.getD x2.toNat 0) - x3))).length)
        (cond (inside ((x11.getD x13.toNat (0, 0)).2) (x1.set x2.toNat (w64 ((x1.getD x2.toNat 0) - x3))).length)
         (impl_fire_l0 ((x1.set x2.toNat (w64 ((x1.getD x2.toNat 0) - x3))).set (((x11.getD x13.toNat (0, 0)).2).toNat) (w64 (((x1.set x2.toNat (w64 ((x1.getD x2.toNat 0) - x3))).getD (((x11.getD x13.toNat (0, 0)).2).toNat) 0) + x3))) x2 x3 x11 x12 (w64 (x13 + 1)))
         (none))
        (none))
       (none))
      (none))
     (cond ((x2 : Int) == ((x11.getD x13.toNat (0, 0)).2))
      (cond (inside x2 x1.length)
       (cond (inside x2 x1.length)
        (cond (inside ((x11.getD x13.toNat (0, 0)).1) (x1.set x2.toNat (w64 ((x1.getD x2.toNat 0) - x3))).length)
         (cond (inside ((x11.getD x13.toNat (0, 0)).1) (x1.set x2.toNat (w64 ((x1.getD x2.toNat 0) - x3))).length)
          (impl_fire_l0 ((x1.set x2.toNat (w64 ((x1.getD x2.toNat 0) - x3))).set (((x11.getD x13.toNat (0, 0)).1).toNat) (w64 (((x1.set x2.toNat (w64 ((x1.getD x2.toNat 0) - x3))).getD (((x11.getD x13.toNat (0, 0)).1).toNat) 0) + x3))) x2 x3 x11 x12 (w64 (x13 + 1)))
          (none))
         (none))
        (none))
       (none))
      (impl_fire_l0 x1 x2 x3 x11 x12 (w64 (x13 + 1)))))
    (none))
   (some x1) :=
 (at_eq Γ X 47 [1, 1, 0] _).trans (by kernel_rfl)
theorem impl_fired_eq a0 a1 a2 : impl_fired a0 a1 a2 =
  (impl_copyInts a1).bind fun r1 =>
   impl_fired_l0 a0 r1 a2 (a2.length : Int) 0 :=
 (den_eq Γ X 48 rfl _).trans (by kernel_rfl)
theorem impl_fired_l0_eq x3 x7 x12 x13 x14 : impl_fired_l0 x3 x7 x12 x13 x14 =
  cond (decide (x14 < x13))
   (cond (inside x14 x12.length)
    ((impl_fire x3 x7 x14 (x12.getD x14.toNat 0)).bind fun r2 =>
     impl_fired_l0 x3 r2 x12 x13 (w64 (x14 + 1)))
    (none))
   (some x7) :=
 (at_eq Γ X 48 [1, 1, 0, 1, 0] _).trans (by kernel_rfl)
theorem impl_FireSet_eq a0 a1 a2 : impl_FireSet a0 a1 a2 =
  (impl_DivisorOk a0 a1).bind fun r1 =>
   cond (!r1)
    (some (([] : List Int), false))
    (cond (decide (0 ≤ a0.1) && decide (a0.1 ≤ (room : Int)))
     (impl_FireSet_l0 a1 a0 (List.replicate a0.1.toNat (0 : Int)) a2 (a2.length : Int) 0)
     (none)) :=
 (den_eq Γ X 49 rfl _).trans (by kernel_rfl)
theorem impl_FireSet_l0_eq x1 x3 x8 x18 x19 x20 : impl_FireSet_l0 x1 x3 x8 x18 x19 x20 =
  cond (decide (x20 < x19))
   (cond (inside x20 x18.length)
    ((impl_within (x18.getD x20.toNat 0) 0 (w64 (x3.1 - 1))).bind fun r2 =>
     cond (!r2)
      (some (([] : List Int), false))
      (cond (inside (x18.getD x20.toNat 0) x8.length)
       (cond (((x8.getD ((x18.getD x20.toNat 0).toNat) 0) : Int) == 1)
        (some (([] : List Int), false))
        (cond (inside (x18.getD x20.toNat 0) x8.length)
         (impl_FireSet_l0 x1 x3 (x8.set ((x18.getD x20.toNat 0).toNat) 1) x18 x19 (w64 (x20 + 1)))
         (none)))
       (none)))
    (none))
   ((impl_fired x3 x1 x8).bind fun r3 =>
    some (r3, true)) :=
 (at_eq Γ X 49 [1, 1, 1, 0, 1, 0] _).trans (by kernel_rfl)
theorem impl_RunLine_1_eq a0 a1 a2 a3 : impl_RunLine_1 a0 a1 a2 a3 =
  cond (!a1)
   (some (a3, (⟨#[110, 111, 110, 101]⟩ : ByteArray), a3))
   ((impl_DivisorOk a2.1 a0).bind fun r1 =>
    cond (!r1)
     (some (a3, (⟨#[110, 111, 110, 101]⟩ : ByteArray), a3))
     ((impl_copyInts a0).bind fun r2 =>
      (impl_FormatDivisor a0).bind fun r3 =>
       some ((a3.1, r2, a3.2.2), r3, a3.1, r2, a3.2.2))) :=
 (den_eq Γ X 50 rfl _).trans (by kernel_rfl)
theorem impl_edgesOf_eq a0 a1 : impl_edgesOf a0 a1 =
  impl_edgesOf_l0 a0 ([] : List (Int × Int)) a1 (a1.length : Int) 0 :=
 (den_eq Γ X 51 rfl _).trans (by kernel_rfl)
theorem impl_edgesOf_l0_eq x2 x5 x8 x9 x10 : impl_edgesOf_l0 x2 x5 x8 x9 x10 =
  cond (decide (x10 < x9))
   (cond (inside x10 x8.length)
    (cond (inside (x8.getD x10.toNat 0) x2.2.length)
     (cond (decide (x5.length + ([x2.2.getD ((x8.getD x10.toNat 0).toNat) (0, 0)] : List (Int × Int)).length ≤ room))
      (impl_edgesOf_l0 x2 (x5 ++ ([x2.2.getD ((x8.getD x10.toNat 0).toNat) (0, 0)] : List (Int × Int))) x8 x9 (w64 (x10 + 1)))
      (none))
     (none))
    (none))
   (some x5) :=
 (at_eq Γ X 51 [1, 1, 0, 1, 0] _).trans (by kernel_rfl)
theorem impl_IsTree_eq a0 a1 : impl_IsTree a0 a1 =
  (impl_GraphOk a0).bind fun r1 =>
   cond (!r1)
    (some false)
    (cond (((a1.length : Int) : Int) != (w64 (a0.1 - 1)))
     (some false)
     ((impl_allWithin a1 0 (w64 ((a0.2.length : Int) - 1))).bind fun r2 =>
      cond (!r2)
       (some false)
       (impl_IsTree_l0 a1 a0 1))) :=
 (den_eq Γ X 52 rfl _).trans (by kernel_rfl)
theorem impl_IsTree_l0_eq x1 x2 x5 : impl_IsTree_l0 x1 x2 x5 =
  cond (decide (x5 < (x1.length : Int)))
   (cond (inside (w64 (x5 - 1)) x1.length)
    (cond (inside x5 x1.length)
     (cond (decide (x1.getD ((w64 (x5 - 1)).toNat) 0 ≥ x1.getD x5.toNat 0))
      (some false)
      (impl_IsTree_l0 x1 x2 (w64 (x5 + 1))))
     (none))
    (none))
   ((impl_edgesOf x2 x1).bind fun r3 =>
    (impl_connected x2.1 r3).bind fun r4 =>
     some r4) :=
 (at_eq Γ X 52 [1, 1, 0, 1, 0] _).trans (by kernel_rfl)
theorem impl_TreesOf_eq a0 : impl_TreesOf a0 = Lb.treesOf impl_GraphOk impl_CountTrees impl_IsTree impl_copyInts a0 := den_ext Γ X 53 rfl _
theorem impl_isAt_eq a0 a1 a2 : impl_isAt a0 a1 a2 =
  (impl_within a1 0 (w64 ((a0.2.length : Int) - 1))).bind fun r1 =>
   cond (r1)
    (cond (inside a1 a0.2.length)
     (cond ((((a0.2.getD a1.toNat (0, 0)).1) : Int) == a2)
      (some true)
      (cond (inside a1 a0.2.length)
       (some ((((a0.2.getD a1.toNat (0, 0)).2) : Int) == a2))
       (none)))
     (none))
    (some false) :=
 (den_eq Γ X 54 rfl _).trans (by kernel_rfl)
theorem impl_across_eq a0 a1 a2 : impl_across a0 a1 a2 =
  cond (inside a1 a0.2.length)
   (cond (inside a1 a0.2.length)
    (some (w64 ((w64 (((a0.2.getD a1.toNat (0, 0)).1) + ((a0.2.getD a1.toNat (0, 0)).2))) - a2)))
    (none))
   (none) :=
 (den_eq Γ X 55 rfl _).trans (by kernel_rfl)
theorem slices_Index_int_int_eq a0 a1 : slices_Index_int_int a0 a1 =
  slices_Index_int_int_l0 a0 a1 (a0.length : Int) 0 :=
 (den_eq Γ X 56 rfl _).trans (by kernel_rfl)
theorem slices_Index_int_int_l0_eq x0 x1 x7 x8 : slices_Index_int_int_l0 x0 x1 x7 x8 =
  cond (decide (x8 < x7))
   (cond (inside x8 x0.length)
    (cond ((x1 : Int) == (x0.getD x8.toNat 0))
     (some x8)
     (slices_Index_int_int_l0 x0 x1 x7 (w64 (x8 + 1))))
    (none))
   (some (-1)) :=
 (at_eq Γ X 56 [1, 0, 1, 0] _).trans (by kernel_rfl)
theorem slices_Contains_int_int_eq a0 a1 : slices_Contains_int_int a0 a1 =
  (slices_Index_int_int a0 a1).bind fun r1 =>
   some (decide (r1 ≥ 0)) :=
 (den_eq Γ X 57 rfl _).trans (by kernel_rfl)
theorem impl_StateOfTree_eq a0 a1 a2 : impl_StateOfTree a0 a1 a2 =
  (impl_IsTree a0 a1).bind fun r1 =>
   cond (!r1)
    (some (([] : List Int), false))
    ((impl_within a2 0 (w64 (a0.1 - 1))).bind fun r2 =>
     cond (!r2)
      (some (([] : List Int), false))
      (cond (decide (0 ≤ a0.1) && decide (a0.1 ≤ (room : Int)))
       (impl_StateOfTree_l0 a1 a2 a0 (List.replicate a0.1.toNat (0 : Int)) ((List.replicate a0.1.toNat (0 : Int)).length : Int) 0)
       (none))) :=
 (den_eq Γ X 58 rfl _).trans (by kernel_rfl)
theorem impl_StateOfTree_l0_eq x1 x2 x3 x8 x31 x32 : impl_StateOfTree_l0 x1 x2 x3 x8 x31 x32 =
  cond (decide (x32 < x31))
   (cond (inside x32 x8.length)
    (impl_StateOfTree_l0 x1 x2 x3 (x8.set x32.toNat (-1)) x31 (w64 (x32 + 1)))
    (none))
   (impl_StateOfTree_l2 x1 x3 x8 ([x2] : List Int) 0) :=
 (at_eq Γ X 58 [1, 1, 1, 0, 1, 0] _).trans (by kernel_rfl)
theorem impl_StateOfTree_l2_eq x1 x3 x8 x10 x11 : impl_StateOfTree_l2 x1 x3 x8 x10 x11 =
  cond (decide (x11 < (x10.length : Int)))
   (impl_StateOfTree_l4 x1 x3 x8 x10 x11 x1 (x1.length : Int) 0)
   (some (x8, true)) :=
 (at_eq Γ X 58 [1, 1, 1, 1, 1, 0, 1, 0] _).trans (by kernel_rfl)
theorem impl_StateOfTree_l4_eq x1 x3 x8 x10 x11 x47 x48 x49 : impl_StateOfTree_l4 x1 x3 x8 x10 x11 x47 x48 x49 =
  cond (decide (x49 < x48))
   (cond (inside x49 x47.length)
    (cond (inside x11 x10.length)
     ((impl_isAt x3 (x47.getD x49.toNat 0) (x10.getD x11.toNat 0)).bind fun r3 =>
      cond (!r3)
       (impl_StateOfTree_l4 x1 x3 x8 x10 x11 x47 x48 (w64 (x49 + 1)))
       (cond (inside x11 x10.length)
        ((impl_across x3 (x47.getD x49.toNat 0) (x10.getD x11.toNat 0)).bind fun r4 =>
         (slices_Contains_int_int x10 r4).bind fun r5 =>
          cond (!r5)
           (cond (inside r4 x8.length)
            (cond (decide (x10.length + ([r4] : List Int).length ≤ room))
             (impl_StateOfTree_l4 x1 x3 (x8.set r4.toNat (x47.getD x49.toNat 0)) (x10 ++ ([r4] : List Int)) x11 x47 x48 (w64 (x49 + 1)))
             (none))
            (none))
           (impl_StateOfTree_l4 x1 x3 x8 x10 x11 x47 x48 (w64 (x49 + 1))))
        (none)))
     (none))
    (none))
   (impl_StateOfTree_l2 x1 x3 x8 x10 (w64 (x11 + 1))) :=
 (at_eq Γ X 58 [1, 1, 1, 1, 1, 0, 1, 0, 0, 1, 0, 0, 1, 0] _).trans (by kernel_rfl)
theorem impl_RotorsOk_eq a0 a1 a2 : impl_RotorsOk a0 a1 a2 =
  (impl_isVertex a0 a2).bind fun r1 =>
   cond (!r1)
    (some false)
    (cond (((a1.length : Int) : Int) != a0.1)
     (some false)
     (cond (inside a2 a1.length)
      (cond (((a1.getD a2.toNat 0) : Int) != (-1))
       (some false)
       (impl_RotorsOk_l0 a2 a0 a1 (a1.length : Int) 0))
      (none))) :=
 (den_eq Γ X 59 rfl _).trans (by kernel_rfl)
theorem impl_RotorsOk_l0_eq x2 x3 x27 x28 x29 : impl_RotorsOk_l0 x2 x3 x27 x28 x29 =
  cond (decide (x29 < x28))
   (cond (inside x29 x27.length)
    (cond ((x29 : Int) != x2)
     ((impl_isAt x3 (x27.getD x29.toNat 0) x29).bind fun r2 =>
      cond (!r2)
       (some false)
       (impl_RotorsOk_l0 x2 x3 x27 x28 (w64 (x29 + 1))))
     (impl_RotorsOk_l0 x2 x3 x27 x28 (w64 (x29 + 1))))
    (none))
   (some true) :=
 (at_eq Γ X 59 [1, 1, 0, 1, 0] _).trans (by kernel_rfl)
theorem impl_NextRotor_eq a0 a1 a2 : impl_NextRotor a0 a1 a2 =
  (impl_isVertex a0 a1).bind fun r1 =>
   cond (!r1)
    (some (-1))
    ((impl_isAt a0 a2 a1).bind fun r2 =>
     cond (!r2)
      (some (-1))
      (cond (decide ((a0.2.length : Int) = 0))
       (none)
       (impl_NextRotor_l0 a1 a0 (a0.2.length : Int) (Int.tmod (w64 (a2 + 1)) (a0.2.length : Int))))) :=
 (den_eq Γ X 60 rfl _).trans (by kernel_rfl)
theorem impl_NextRotor_l0_eq x1 x3 x7 x8 : impl_NextRotor_l0 x1 x3 x7 x8 =
  (impl_isAt x3 x8 x1).bind fun r3 =>
   cond (!r3)
    (cond (decide (x7 = 0))
     (none)
     (impl_NextRotor_l0 x1 x3 x7 (Int.tmod (w64 (x8 + 1)) x7)))
    (some x8) :=
 (at_eq Γ X 60 [1, 1, 1, 1, 0, 0] _).trans (by kernel_rfl)
theorem impl_WalkToSink_eq a0 a1 a2 a3 : impl_WalkToSink a0 a1 a2 a3 =
  (impl_RotorsOk a0 a1 a2).bind fun r1 =>
   cond (!r1)
    (some (([] : List Int), 0, false))
    ((impl_within a3 0 (w64 (a0.1 - 1))).bind fun r2 =>
     cond (!r2)
      (some (([] : List Int), 0, false))
      ((impl_copyInts a1).bind fun r3 =>
       impl_WalkToSink_l0 a2 a3 a0 r3 0)) :=
 (den_eq Γ X 61 rfl _).trans (by kernel_rfl)
theorem impl_WalkToSink_l0_eq x2 x3 x4 x11 x12 : impl_WalkToSink_l0 x2 x3 x4 x11 x12 =
  cond ((x3 : Int) != x2)
   (cond ((x12 : Int) == 2000)
    (some (([] : List Int), 0, false))
    (cond (inside x3 x11.length)
     ((impl_NextRotor x4 x3 (x11.getD x3.toNat 0)).bind fun r4 =>
      cond (inside x3 x11.length)
       (cond (inside x3 (x11.set x3.toNat r4).length)
        ((impl_across x4 ((x11.set x3.toNat r4).getD x3.toNat 0) x3).bind fun r5 =>
         impl_WalkToSink_l0 x2 r5 x4 (x11.set x3.toNat r4) (w64 (x12 + 1)))
        (none))
       (none))
     (none)))
   (some (x11, x12, true)) :=
 (at_eq Γ X 61 [1, 1, 1, 1, 0, 0] _).trans (by kernel_rfl)
theorem impl_inDebt_eq a0 a1 : impl_inDebt a0 a1 =
  impl_inDebt_l0 a1 a0 (a0.length : Int) 0 :=
 (den_eq Γ X 62 rfl _).trans (by kernel_rfl)
theorem impl_inDebt_l0_eq x1 x7 x8 x9 : impl_inDebt_l0 x1 x7 x8 x9 =
  cond (decide (x9 < x8))
   (cond (inside x9 x7.length)
    (cond ((x9 : Int) != x1)
     (cond (decide (x7.getD x9.toNat 0 < 0))
      (some x9)
      (impl_inDebt_l0 x1 x7 x8 (w64 (x9 + 1))))
     (impl_inDebt_l0 x1 x7 x8 (w64 (x9 + 1))))
    (none))
   (some (-1)) :=
 (at_eq Γ X 62 [1, 0, 1, 0] _).trans (by kernel_rfl)
theorem impl_burn_eq a0 a1 a2 : impl_burn a0 a1 a2 =
  impl_burn_l0 a1 a0 ([a2] : List Int) :=
 (den_eq Γ X 63 rfl _).trans (by kernel_rfl)
theorem impl_burn_l0_eq x1 x3 x7 : impl_burn_l0 x1 x3 x7 =
  impl_burn_l2 x1 x3 x7 (-1) 0 :=
 (at_eq Γ X 63 [1, 1, 0] _).trans (by kernel_rfl)
theorem impl_burn_l2_eq x1 x3 x7 x8 x9 : impl_burn_l2 x1 x3 x7 x8 x9 =
  cond (decide (x9 < x3.1))
   (cond (decide (x8 < 0))
    (impl_burn_l4 x1 x3 x7 x8 x9 0 (x7.length : Int) 0)
    (cond (decide (x8 < 0))
     (some x7)
     (cond (decide (x7.length + ([x8] : List Int).length ≤ room))
      (impl_burn_l0 x1 x3 (x7 ++ ([x8] : List Int)))
      (none))))
   (cond (decide (x8 < 0))
    (some x7)
    (cond (decide (x7.length + ([x8] : List Int).length ≤ room))
     (impl_burn_l0 x1 x3 (x7 ++ ([x8] : List Int)))
     (none))) :=
 (at_eq Γ X 63 [1, 1, 0, 0, 0, 1, 0, 1, 0] _).trans (by kernel_rfl)
theorem impl_burn_l4_eq x1 x3 x7 x8 x9 x10 x26 x27 : impl_burn_l4 x1 x3 x7 x8 x9 x10 x26 x27 =
  cond (decide (x27 < x26))
   (cond (inside x27 x7.length)
    ((impl_Multiplicity x3 x9 (x7.getD x27.toNat 0)).bind fun r1 =>
     impl_burn_l4 x1 x3 x7 x8 x9 (w64 (x10 + r1)) x26 (w64 (x27 + 1)))
    (none))
   ((slices_Contains_int_int x7 x9).bind fun r2 =>
    cond (!r2)
     (cond (inside x9 x1.length)
      (cond (decide (x1.getD x9.toNat 0 < x10))
       (impl_burn_l2 x1 x3 x7 x9 (w64 (x9 + 1)))
       (impl_burn_l2 x1 x3 x7 x8 (w64 (x9 + 1))))
      (none))
     (impl_burn_l2 x1 x3 x7 x8 (w64 (x9 + 1)))) :=
 (at_eq Γ X 63 [1, 1, 0, 0, 0, 1, 0, 1, 0, 0, 1, 0, 0, 1, 0, 1, 0] _).trans (by kernel_rfl)
theorem impl_reduce_eq a0 a1 a2 : impl_reduce a0 a1 a2 =
  (impl_copyInts a1).bind fun r1 =>
   cond (decide (0 ≤ a0.1) && decide (a0.1 ≤ (room : Int)))
    ((impl_inDebt r1 a2).bind fun r2 =>
     impl_reduce_l0 a2 a0 r1 (List.replicate a0.1.toNat (0 : Int)) r2)
    (none) :=
 (den_eq Γ X 64 rfl _).trans (by kernel_rfl)
theorem impl_reduce_l0_eq x2 x3 x8 x9 x10 : impl_reduce_l0 x2 x3 x8 x9 x10 =
  cond (decide (x10 ≥ 0))
   ((impl_Valence x3 x10).bind fun r3 =>
    cond (inside x10 x8.length)
     (cond (decide (r3 = 0))
      (none)
      ((impl_fire x3 x8 x10 (w64 (0 - (w64 (Int.tdiv (w64 ((w64 (r3 - 1)) - (x8.getD x10.toNat 0))) r3))))).bind fun r4 =>
       cond (inside x10 x9.length)
        (cond (inside x10 x9.length)
         ((impl_inDebt r4 x2).bind fun r5 =>
          impl_reduce_l0 x2 x3 r4 (x9.set x10.toNat (w64 ((x9.getD x10.toNat 0) - (w64 (Int.tdiv (w64 ((w64 (r3 - 1)) - (x8.getD x10.toNat 0))) r3))))) r5)
         (none))
        (none)))
     (none))
   (impl_reduce_l2 x2 x3 x8 x9) :=
 (at_eq Γ X 64 [1, 1, 1, 0, 1, 0] _).trans (by kernel_rfl)
theorem impl_reduce_l2_eq x2 x3 x8 x9 : impl_reduce_l2 x2 x3 x8 x9 =
  (impl_burn x3 x8 x2).bind fun r6 =>
   cond (((r6.length : Int) : Int) == x3.1)
    (some (x8, x9))
    (impl_reduce_l4 x2 x3 x8 x9 r6 (x9.length : Int) 0) :=
 (at_eq Γ X 64 [1, 1, 1, 1, 0] _).trans (by kernel_rfl)
theorem impl_reduce_l4_eq x2 x3 x8 x9 x13 x65 x66 : impl_reduce_l4 x2 x3 x8 x9 x13 x65 x66 =
  cond (decide (x66 < x65))
   ((slices_Contains_int_int x13 x66).bind fun r7 =>
    cond (!r7)
     ((impl_fire x3 x8 x66 1).bind fun r8 =>
      cond (inside x66 x9.length)
       (cond (inside x66 x9.length)
        (impl_reduce_l4 x2 x3 r8 (x9.set x66.toNat (w64 ((x9.getD x66.toNat 0) + 1))) x13 x65 (w64 (x66 + 1)))
        (none))
       (none))
     (impl_reduce_l4 x2 x3 x8 x9 x13 x65 (w64 (x66 + 1))))
   (impl_reduce_l2 x2 x3 x8 x9) :=
 (at_eq Γ X 64 [1, 1, 1, 1, 0, 0, 0, 1, 1, 1, 0] _).trans (by kernel_rfl)
theorem impl_ReducedOf_eq a0 a1 a2 : impl_ReducedOf a0 a1 a2 =
  (impl_DivisorOk a0 a1).bind fun r1 =>
   cond (!r1)
    (some (([] : List Int), false))
    ((impl_isVertex a0 a2).bind fun r2 =>
     cond (!r2)
      (some (([] : List Int), false))
      ((impl_reduce a0 a1 a2).bind fun r3 =>
       some (r3.1, true))) :=
 (den_eq Γ X 65 rfl _).trans (by kernel_rfl)
theorem impl_IsEffective_eq a0 : impl_IsEffective a0 =
  impl_IsEffective_l0 a0 (a0.length : Int) 0 :=
 (den_eq Γ X 66 rfl _).trans (by kernel_rfl)
theorem impl_IsEffective_l0_eq x5 x6 x7 : impl_IsEffective_l0 x5 x6 x7 =
  cond (decide (x7 < x6))
   (cond (inside x7 x5.length)
    (cond (decide (x5.getD x7.toNat 0 < 0))
     (some false)
     (impl_IsEffective_l0 x5 x6 (w64 (x7 + 1))))
    (none))
   (some true) :=
 (at_eq Γ X 66 [1, 0, 1, 0] _).trans (by kernel_rfl)
theorem impl_PileOk_eq a0 a1 a2 : impl_PileOk a0 a1 a2 =
  (impl_DivisorOk a0 a1).bind fun r1 =>
   cond (r1)
    ((impl_within a2 0 (w64 (a0.1 - 1))).bind fun r2 =>
     cond (r2)
      ((impl_IsEffective a1).bind fun r3 =>
       cond (r3)
        (cond (inside a2 a1.length)
         (some (((a1.getD a2.toNat 0) : Int) == 0))
         (none))
        (some false))
      (some false))
    (some false) :=
 (den_eq Γ X 67 rfl _).trans (by kernel_rfl)
theorem impl_unstable_eq a0 a1 a2 : impl_unstable a0 a1 a2 =
  impl_unstable_l0 a2 a0 a1 (a1.length : Int) 0 :=
 (den_eq Γ X 68 rfl _).trans (by kernel_rfl)
theorem impl_unstable_l0_eq x2 x3 x9 x10 x11 : impl_unstable_l0 x2 x3 x9 x10 x11 =
  cond (decide (x11 < x10))
   (cond (inside x11 x9.length)
    (cond ((x11 : Int) != x2)
     ((impl_Valence x3 x11).bind fun r1 =>
      cond (decide (x9.getD x11.toNat 0 ≥ r1))
       (some x11)
       (impl_unstable_l0 x2 x3 x9 x10 (w64 (x11 + 1))))
     (impl_unstable_l0 x2 x3 x9 x10 (w64 (x11 + 1))))
    (none))
   (some (-1)) :=
 (at_eq Γ X 68 [1, 0, 1, 0] _).trans (by kernel_rfl)
theorem impl_stabilize_eq a0 a1 a2 : impl_stabilize a0 a1 a2 =
  (impl_copyInts a1).bind fun r1 =>
   cond (decide (0 ≤ a0.1) && decide (a0.1 ≤ (room : Int)))
    ((impl_unstable a0 r1 a2).bind fun r2 =>
     impl_stabilize_l0 a2 a0 r1 (List.replicate a0.1.toNat (0 : Int)) r2)
    (none) :=
 (den_eq Γ X 69 rfl _).trans (by kernel_rfl)
theorem impl_stabilize_l0_eq x2 x3 x8 x9 x10 : impl_stabilize_l0 x2 x3 x8 x9 x10 =
  cond (decide (x10 ≥ 0))
   (cond (inside x10 x8.length)
    ((impl_Valence x3 x10).bind fun r3 =>
     cond (decide (r3 = 0))
      (none)
      ((impl_fire x3 x8 x10 (w64 (Int.tdiv (x8.getD x10.toNat 0) r3))).bind fun r4 =>
       cond (inside x10 x9.length)
        (cond (inside x10 x9.length)
         ((impl_unstable x3 r4 x2).bind fun r5 =>
          impl_stabilize_l0 x2 x3 r4 (x9.set x10.toNat (w64 ((x9.getD x10.toNat 0) + (w64 (Int.tdiv (x8.getD x10.toNat 0) r3))))) r5)
         (none))
        (none)))
    (none))
   (cond (inside x2 x8.length)
    (some (x8.set x2.toNat 0, x9))
    (none)) :=
 (at_eq Γ X 69 [1, 1, 1, 0, 1, 0] _).trans (by kernel_rfl)
theorem impl_Stabilize_eq a0 a1 a2 : impl_Stabilize a0 a1 a2 =
  (impl_PileOk a0 a1 a2).bind fun r1 =>
   cond (!r1)
    (some (([] : List Int), ([] : List Int), false))
    ((impl_stabilize a0 a1 a2).bind fun r2 =>
     some (r2.1, r2.2, true)) :=
 (den_eq Γ X 70 rfl _).trans (by kernel_rfl)
theorem impl_sumOf_eq a0 : impl_sumOf a0 =
  impl_sumOf_l0 0 a0 (a0.length : Int) 0 :=
 (den_eq Γ X 71 rfl _).trans (by kernel_rfl)
theorem impl_sumOf_l0_eq x3 x6 x7 x8 : impl_sumOf_l0 x3 x6 x7 x8 =
  cond (decide (x8 < x7))
   (cond (inside x8 x6.length)
    (impl_sumOf_l0 (w64 (x3 + (x6.getD x8.toNat 0))) x6 x7 (w64 (x8 + 1)))
    (none))
   (some x3) :=
 (at_eq Γ X 71 [1, 1, 0, 1, 0] _).trans (by kernel_rfl)
theorem impl_winnable_eq a0 a1 : impl_winnable a0 a1 =
  (impl_sumOf a1).bind fun r1 =>
   cond (decide (r1 < 0))
    (some false)
    ((impl_reduce a0 a1 0).bind fun r2 =>
     cond (inside 0 r2.1.length)
      (some (decide (r2.1.getD 0 0 ≥ 0)))
      (none)) :=
 (den_eq Γ X 72 rfl _).trans (by kernel_rfl)
theorem impl_IsWinnable_eq a0 a1 : impl_IsWinnable a0 a1 =
  (impl_DivisorOk a0 a1).bind fun r1 =>
   cond (r1)
    ((impl_winnable a0 a1).bind fun r2 =>
     some r2)
    (some false) :=
 (den_eq Γ X 73 rfl _).trans (by kernel_rfl)
theorem slices_Min_int_int_eq a0 : slices_Min_int_int a0 =
  cond (decide ((a0.length : Int) < 1))
   (none)
   (cond (inside 0 a0.length)
    (slices_Min_int_int_l0 a0 (a0.getD 0 0) 1)
    (none)) :=
 (den_eq Γ X 74 rfl _).trans (by kernel_rfl)
theorem slices_Min_int_int_l0_eq x0 x3 x4 : slices_Min_int_int_l0 x0 x3 x4 =
  cond (decide (x4 < (x0.length : Int)))
   (cond (inside x4 x0.length)
    (slices_Min_int_int_l0 x0 (imin x3 (x0.getD x4.toNat 0)) (w64 (x4 + 1)))
    (none))
   (some x3) :=
 (at_eq Γ X 74 [1, 1, 1, 0, 1, 0] _).trans (by kernel_rfl)
theorem impl_fromZero_eq a0 : impl_fromZero a0 =
  (impl_copyInts a0).bind fun r1 =>
   (slices_Min_int_int a0).bind fun r2 =>
    impl_fromZero_l0 r1 r2 (r1.length : Int) 0 :=
 (den_eq Γ X 75 rfl _).trans (by kernel_rfl)
theorem impl_fromZero_l0_eq x3 x4 x11 x12 : impl_fromZero_l0 x3 x4 x11 x12 =
  cond (decide (x12 < x11))
   (cond (inside x12 x3.length)
    (cond (inside x12 x3.length)
     (impl_fromZero_l0 (x3.set x12.toNat (w64 ((x3.getD x12.toNat 0) - x4))) x4 x11 (w64 (x12 + 1)))
     (none))
    (none))
   (some x3) :=
 (at_eq Γ X 75 [1, 1, 1, 0, 1, 0] _).trans (by kernel_rfl)
theorem impl_WinningScript_eq a0 a1 : impl_WinningScript a0 a1 =
  (impl_IsWinnable a0 a1).bind fun r1 =>
   cond (!r1)
    (some (([] : List Int), false))
    ((impl_reduce a0 a1 0).bind fun r2 =>
     (impl_fromZero r2.2).bind fun r3 =>
      some (r3, true)) :=
 (den_eq Γ X 76 rfl _).trans (by kernel_rfl)
theorem impl_burnt_eq a0 a1 : impl_burnt a0 a1 =
  impl_burnt_l0 a1 ([] : List Int) a0.2 (a0.2.length : Int) 0 :=
 (den_eq Γ X 77 rfl _).trans (by kernel_rfl)
theorem impl_burnt_l0_eq x1 x5 x9 x10 x11 : impl_burnt_l0 x1 x5 x9 x10 x11 =
  cond (decide (x11 < x10))
   (cond (inside x11 x9.length)
    ((slices_Index_int_int x1 ((x9.getD x11.toNat (0, 0)).1)).bind fun r1 =>
     (slices_Index_int_int x1 ((x9.getD x11.toNat (0, 0)).2)).bind fun r2 =>
      cond (decide (r1 < r2))
       (cond (decide (x5.length + ([0] : List Int).length ≤ room))
        (impl_burnt_l0 x1 (x5 ++ ([0] : List Int)) x9 x10 (w64 (x11 + 1)))
        (none))
       (cond (decide (x5.length + ([1] : List Int).length ≤ room))
        (impl_burnt_l0 x1 (x5 ++ ([1] : List Int)) x9 x10 (w64 (x11 + 1)))
        (none)))
    (none))
   (some x5) :=
 (at_eq Γ X 77 [1, 1, 0, 1, 0] _).trans (by kernel_rfl)
theorem impl_OrientOfRank_eq a0 a1 : impl_OrientOfRank a0 a1 =
  (impl_DivisorOk a0 a1).bind fun r1 =>
   cond (!r1)
    (some (([] : List Int), false))
    ((impl_winnable a0 a1).bind fun r2 =>
     cond (r2)
      (some (([] : List Int), false))
      ((impl_reduce a0 a1 0).bind fun r3 =>
       (impl_burn a0 r3.1 0).bind fun r4 =>
        (impl_burnt a0 r4).bind fun r5 =>
         some (r5, true))) :=
 (den_eq Γ X 78 rfl _).trans (by kernel_rfl)
theorem impl_WinLine_eq a0 a1 : impl_WinLine a0 a1 =
  (impl_DivisorOk a0 a1).bind fun r1 =>
   cond (!r1)
    (some (⟨#[]⟩ : ByteArray))
    ((impl_WinningScript a0 a1).bind fun r2 =>
     cond (r2.2)
      ((impl_FormatDivisor r2.1).bind fun r3 =>
       cond (decide ((⟨#[119, 111, 110, 32, 98, 121, 32]⟩ : ByteArray).size + r3.size ≤ 9223372036854775807))
        (some ((⟨#[119, 111, 110, 32, 98, 121, 32]⟩ : ByteArray) ++ r3))
        (none))
      ((impl_OrientOfRank a0 a1).bind fun r4 =>
       (impl_FormatDivisor r4.1).bind fun r5 =>
        cond (decide ((⟨#[108, 111, 115, 116, 58, 32]⟩ : ByteArray).size + r5.size ≤ 9223372036854775807))
         (some ((⟨#[108, 111, 115, 116, 58, 32]⟩ : ByteArray) ++ r5))
         (none))) :=
 (den_eq Γ X 79 rfl _).trans (by kernel_rfl)
theorem impl_orNone_eq a0 : impl_orNone a0 =
  cond (a0.toList == (⟨#[]⟩ : ByteArray).toList)
   (some (⟨#[110, 111, 110, 101]⟩ : ByteArray))
   (some a0) :=
 (den_eq Γ X 80 rfl _).trans (by kernel_rfl)
theorem impl_DegreeOf_eq a0 : impl_DegreeOf a0 =
  (impl_sumOf a0).bind fun r1 =>
   some r1 :=
 (den_eq Γ X 81 rfl _).trans (by kernel_rfl)
theorem slices_SortFunc_int_int__Compare_int_int_eq a0 : slices_SortFunc_int_int__Compare_int_int a0 = Lb.sortRows a0 := den_ext Γ X 82 rfl _
theorem impl_effectiveIn_eq a0 a1 : impl_effectiveIn a0 a1 =
  (impl_sumOf a1).bind fun r1 =>
   (impl_reduce a0 a1 0).bind fun r2 =>
    cond (decide (r1 < 0))
     (some ([] : List (List Int)))
     (cond (inside 0 r2.1.length)
      (cond (decide (r2.1.getD 0 0 < 0))
       (some ([] : List (List Int)))
       ((impl_FormatDivisor r2.1).bind fun r3 =>
        impl_effectiveIn_l0 a0 ([r2.1] : List (List Int)) 0 (mput ([] : List (ByteArray × Int)) r3 1)))
      (none)) :=
 (den_eq Γ X 83 rfl _).trans (by kernel_rfl)
theorem impl_effectiveIn_l0_eq x2 x8 x10 x32 : impl_effectiveIn_l0 x2 x8 x10 x32 =
  cond (decide (x10 < (x8.length : Int)))
   (impl_effectiveIn_l2 x2 x8 x10 1 x32)
   ((slices_SortFunc_int_int__Compare_int_int x8).bind fun r9 =>
    some r9) :=
 (at_eq Γ X 83 [1, 1, 1, 1, 1, 1, 0, 1, 0] _).trans (by kernel_rfl)
theorem impl_effectiveIn_l2_eq x2 x8 x10 x11 x32 : impl_effectiveIn_l2 x2 x8 x10 x11 x32 =
  cond (decide (x2.1 < 0))
   (none)
   (cond (decide (x11 < w64 ((w64 (1 * 2 ^ (min x2.1.toNat 64))) - 1)))
    (cond (inside x10 x8.length)
     ((impl_copyInts (x8.getD x10.toNat ([] : List Int))).bind fun r4 =>
      impl_effectiveIn_l4 x2 x8 x10 x11 r4 x32 (r4.length : Int) 0)
     (none))
    (impl_effectiveIn_l0 x2 x8 (w64 (x10 + 1)) x32)) :=
 (at_eq Γ X 83 [1, 1, 1, 1, 1, 1, 0, 1, 0, 0, 1, 0, 0, 1, 0] _).trans (by kernel_rfl)
theorem impl_effectiveIn_l4_eq x2 x8 x10 x11 x12 x32 x56 x57 : impl_effectiveIn_l4 x2 x8 x10 x11 x12 x32 x56 x57 =
  cond (decide (x57 < x56))
   (cond (decide (x57 < 0))
    (none)
    ((impl_fire x2 x12 x57 (bits .and .i64 (Int.fdiv x11 (2 ^ (min x57.toNat 64))) 1)).bind fun r5 =>
     impl_effectiveIn_l4 x2 x8 x10 x11 r5 x32 x56 (w64 (x57 + 1))))
   ((impl_IsEffective x12).bind fun r6 =>
    cond (r6)
     ((impl_FormatDivisor x12).bind fun r7 =>
      cond (((mget x32 r7) : Int) == 0)
       ((impl_FormatDivisor x12).bind fun r8 =>
        cond (decide (x8.length + ([x12] : List (List Int)).length ≤ room))
         (impl_effectiveIn_l2 x2 (x8 ++ ([x12] : List (List Int))) x10 (w64 (x11 + 1)) (mput x32 r8 1))
         (none))
       (impl_effectiveIn_l2 x2 x8 x10 (w64 (x11 + 1)) x32))
     (impl_effectiveIn_l2 x2 x8 x10 (w64 (x11 + 1)) x32)) :=
 (at_eq Γ X 83 [1, 1, 1, 1, 1, 1, 0, 1, 0, 0, 1, 0, 0, 1, 0, 0, 1, 0, 0, 1, 0, 1, 0] _).trans (by kernel_rfl)
theorem impl_effective_eq a0 a1 : impl_effective a0 a1 =
  cond ((a0 : Int) == 1)
   (some ([([a1] : List Int)] : List (List Int)))
   (impl_effective_l0 a0 a1 ([] : List (List Int)) 0) :=
 (den_eq Γ X 84 rfl _).trans (by kernel_rfl)
theorem impl_effective_l0_eq x0 x1 x5 x6 : impl_effective_l0 x0 x1 x5 x6 =
  cond (decide (x6 ≤ x1))
   ((impl_effective (w64 (x0 - 1)) (w64 (x1 - x6))).bind fun r1 =>
    impl_effective_l2 x0 x1 x5 x6 r1 (r1.length : Int) 0)
   (some x5) :=
 (at_eq Γ X 84 [1, 1, 1, 0, 1, 0] _).trans (by kernel_rfl)
theorem impl_effective_l2_eq x0 x1 x5 x6 x24 x25 x26 : impl_effective_l2 x0 x1 x5 x6 x24 x25 x26 =
  cond (decide (x26 < x25))
   (cond (inside x26 x24.length)
    (cond (decide (([x6] : List Int).length + (x24.getD x26.toNat ([] : List Int)).length ≤ room))
     (cond (decide (x5.length + ([([x6] : List Int) ++ (x24.getD x26.toNat ([] : List Int))] : List (List Int)).length ≤ room))
      (impl_effective_l2 x0 x1 (x5 ++ ([([x6] : List Int) ++ (x24.getD x26.toNat ([] : List Int))] : List (List Int))) x6 x24 x25 (w64 (x26 + 1)))
      (none))
     (none))
    (none))
   (impl_effective_l0 x0 x1 x5 (w64 (x6 + 1))) :=
 (at_eq Γ X 84 [1, 1, 1, 0, 1, 0, 0, 1, 0, 0, 1, 0] _).trans (by kernel_rfl)
theorem impl_covers_eq a0 a1 : impl_covers a0 a1 =
  impl_covers_l0 a0 a1 (a1.length : Int) 0 :=
 (den_eq Γ X 85 rfl _).trans (by kernel_rfl)
theorem impl_covers_l0_eq x0 x7 x8 x9 : impl_covers_l0 x0 x7 x8 x9 =
  cond (decide (x9 < x8))
   (cond (inside x9 x7.length)
    (cond (inside x9 x0.length)
     (cond (decide (x0.getD x9.toNat 0 < x7.getD x9.toNat 0))
      (some false)
      (impl_covers_l0 x0 x7 x8 (w64 (x9 + 1))))
     (none))
    (none))
   (some true) :=
 (at_eq Γ X 85 [1, 0, 1, 0] _).trans (by kernel_rfl)
theorem impl_rank_1_eq a0 a1 : impl_rank_1 a0 a1 =
  (impl_covers a0 a1).bind fun r1 =>
   some r1 :=
 (den_eq Γ X 86 rfl _).trans (by kernel_rfl)
theorem slices_IndexFunc_int_int__rank_1_eq a0 a1 : slices_IndexFunc_int_int__rank_1 a0 a1 =
  slices_IndexFunc_int_int__rank_1_l0 a0 a1 (a0.length : Int) 0 :=
 (den_eq Γ X 87 rfl _).trans (by kernel_rfl)
theorem slices_IndexFunc_int_int__rank_1_l0_eq x0 x1 x7 x8 : slices_IndexFunc_int_int__rank_1_l0 x0 x1 x7 x8 =
  cond (decide (x8 < x7))
   (cond (inside x8 x0.length)
    ((impl_rank_1 (x0.getD x8.toNat ([] : List Int)) x1).bind fun r1 =>
     cond (r1)
      (some x8)
      (slices_IndexFunc_int_int__rank_1_l0 x0 x1 x7 (w64 (x8 + 1))))
    (none))
   (some (-1)) :=
 (at_eq Γ X 87 [1, 0, 1, 0] _).trans (by kernel_rfl)
theorem slices_ContainsFunc_int_int__rank_1_eq a0 a1 : slices_ContainsFunc_int_int__rank_1 a0 a1 =
  (slices_IndexFunc_int_int__rank_1 a0 a1).bind fun r1 =>
   some (decide (r1 ≥ 0)) :=
 (den_eq Γ X 88 rfl _).trans (by kernel_rfl)
theorem impl_rank_eq a0 a1 : impl_rank a0 a1 =
  (impl_effectiveIn a0 a1).bind fun r1 =>
   impl_rank_l0 a0 r1 0 :=
 (den_eq Γ X 89 rfl _).trans (by kernel_rfl)
theorem impl_rank_l0_eq x2 x6 x7 : impl_rank_l0 x2 x6 x7 =
  (impl_effective x2.1 x7).bind fun r2 =>
   impl_rank_l2 x2 x6 x7 r2 (r2.length : Int) 0 :=
 (at_eq Γ X 89 [1, 1, 1, 0] _).trans (by kernel_rfl)
theorem impl_rank_l2_eq x2 x6 x7 x18 x19 x20 : impl_rank_l2 x2 x6 x7 x18 x19 x20 =
  cond (decide (x20 < x19))
   (cond (inside x20 x18.length)
    ((slices_ContainsFunc_int_int__rank_1 x6 (x18.getD x20.toNat ([] : List Int))).bind fun r3 =>
     cond (!r3)
      (some (w64 (x7 - 1), x18.getD x20.toNat ([] : List Int)))
      (impl_rank_l2 x2 x6 x7 x18 x19 (w64 (x20 + 1))))
    (none))
   (impl_rank_l0 x2 x6 (w64 (x7 + 1))) :=
 (at_eq Γ X 89 [1, 1, 1, 0, 0, 0, 0, 1, 0] _).trans (by kernel_rfl)
theorem impl_RankOf_eq a0 a1 : impl_RankOf a0 a1 =
  (impl_DivisorOk a0 a1).bind fun r1 =>
   cond (!r1)
    (some (0, false))
    ((impl_DegreeOf a1).bind fun r2 =>
     cond (decide (r2 > 7))
      (some (0, false))
      ((impl_rank a0 a1).bind fun r3 =>
       some (r3.1, true))) :=
 (den_eq Γ X 90 rfl _).trans (by kernel_rfl)
theorem impl_RankWitness_eq a0 a1 : impl_RankWitness a0 a1 =
  (impl_DivisorOk a0 a1).bind fun r1 =>
   cond (!r1)
    (some (([] : List Int), false))
    ((impl_DegreeOf a1).bind fun r2 =>
     cond (decide (r2 > 7))
      (some (([] : List Int), false))
      ((impl_rank a0 a1).bind fun r3 =>
       some (r3.2, true))) :=
 (den_eq Γ X 91 rfl _).trans (by kernel_rfl)
theorem impl_RankLine_eq a0 a1 : impl_RankLine a0 a1 =
  (impl_RankOf a0 a1).bind fun r1 =>
   cond (!r1.2)
    (some (⟨#[]⟩ : ByteArray))
    ((impl_RankWitness a0 a1).bind fun r2 =>
     (impl_FormatInt r1.1).bind fun r3 =>
      cond (decide ((⟨#[114, 97, 110, 107, 32]⟩ : ByteArray).size + r3.size ≤ 9223372036854775807))
       (cond (decide (((⟨#[114, 97, 110, 107, 32]⟩ : ByteArray) ++ r3).size + (⟨#[32, 98, 117, 116, 32, 110, 111, 116, 32]⟩ : ByteArray).size ≤ 9223372036854775807))
        ((impl_FormatDivisor r2.1).bind fun r4 =>
         cond (decide ((((⟨#[114, 97, 110, 107, 32]⟩ : ByteArray) ++ r3) ++ (⟨#[32, 98, 117, 116, 32, 110, 111, 116, 32]⟩ : ByteArray)).size + r4.size ≤ 9223372036854775807))
          (some ((((⟨#[114, 97, 110, 107, 32]⟩ : ByteArray) ++ r3) ++ (⟨#[32, 98, 117, 116, 32, 110, 111, 116, 32]⟩ : ByteArray)) ++ r4))
          (none))
        (none))
       (none)) :=
 (den_eq Γ X 92 rfl _).trans (by kernel_rfl)
theorem impl_CanonicalOf_eq a0 : impl_CanonicalOf a0 =
  (impl_GraphOk a0).bind fun r1 =>
   cond (!r1)
    (some ([] : List Int))
    (impl_CanonicalOf_l0 a0 ([] : List Int) 0) :=
 (den_eq Γ X 93 rfl _).trans (by kernel_rfl)
theorem impl_CanonicalOf_l0_eq x1 x3 x4 : impl_CanonicalOf_l0 x1 x3 x4 =
  cond (decide (x4 < x1.1))
   ((impl_Valence x1 x4).bind fun r2 =>
    cond (decide (x3.length + ([w64 (r2 - 2)] : List Int).length ≤ room))
     (impl_CanonicalOf_l0 x1 (x3 ++ ([w64 (r2 - 2)] : List Int)) (w64 (x4 + 1)))
     (none))
   (some x3) :=
 (at_eq Γ X 93 [1, 1, 1, 0, 1, 0] _).trans (by kernel_rfl)
theorem impl_NegateDivisor_eq a0 : impl_NegateDivisor a0 =
  (impl_copyInts a0).bind fun r1 =>
   impl_NegateDivisor_l0 r1 (r1.length : Int) 0 :=
 (den_eq Γ X 94 rfl _).trans (by kernel_rfl)
theorem impl_NegateDivisor_l0_eq x3 x8 x9 : impl_NegateDivisor_l0 x3 x8 x9 =
  cond (decide (x9 < x8))
   (cond (inside x9 x3.length)
    (cond (inside x9 x3.length)
     (impl_NegateDivisor_l0 (x3.set x9.toNat (w64 (0 - (x3.getD x9.toNat 0)))) x8 (w64 (x9 + 1)))
     (none))
    (none))
   (some x3) :=
 (at_eq Γ X 94 [1, 1, 0, 1, 0] _).trans (by kernel_rfl)
theorem impl_plus_eq a0 a1 : impl_plus a0 a1 =
  (impl_copyInts a0).bind fun r1 =>
   impl_plus_l0 a1 r1 (r1.length : Int) 0 :=
 (den_eq Γ X 95 rfl _).trans (by kernel_rfl)
theorem impl_plus_l0_eq x1 x5 x10 x11 : impl_plus_l0 x1 x5 x10 x11 =
  cond (decide (x11 < x10))
   (cond (inside x11 x5.length)
    (cond (inside x11 x1.length)
     (cond (inside x11 x5.length)
      (impl_plus_l0 x1 (x5.set x11.toNat (w64 ((x5.getD x11.toNat 0) + (x1.getD x11.toNat 0)))) x10 (w64 (x11 + 1)))
      (none))
     (none))
    (none))
   (some x5) :=
 (at_eq Γ X 95 [1, 1, 0, 1, 0] _).trans (by kernel_rfl)
theorem impl_ResidualOf_eq a0 a1 : impl_ResidualOf a0 a1 =
  (impl_DivisorOk a0 a1).bind fun r1 =>
   cond (!r1)
    (some (([] : List Int), false))
    ((impl_CanonicalOf a0).bind fun r2 =>
     (impl_NegateDivisor a1).bind fun r3 =>
      (impl_plus r2 r3).bind fun r4 =>
       some (r4, true)) :=
 (den_eq Γ X 96 rfl _).trans (by kernel_rfl)
theorem impl_RiemannRoch_eq a0 a1 : impl_RiemannRoch a0 a1 =
  (impl_ResidualOf a0 a1).bind fun r1 =>
   (impl_RankOf a0 a1).bind fun r2 =>
    (impl_RankOf a0 r1.1).bind fun r3 =>
     cond (!r2.2)
      (some (0, 0, false))
      (cond (!r3.2)
       (some (0, 0, false))
       (some (r2.1, r3.1, true))) :=
 (den_eq Γ X 97 rfl _).trans (by kernel_rfl)
theorem impl_RiemannLine_eq a0 a1 : impl_RiemannLine a0 a1 =
  (impl_RiemannRoch a0 a1).bind fun r1 =>
   cond (!r1.2.2)
    (some (⟨#[]⟩ : ByteArray))
    ((impl_FormatInt r1.1).bind fun r2 =>
     cond (decide (r2.size + (⟨#[32, 45, 32]⟩ : ByteArray).size ≤ 9223372036854775807))
      ((impl_FormatInt r1.2.1).bind fun r3 =>
       cond (decide ((r2 ++ (⟨#[32, 45, 32]⟩ : ByteArray)).size + r3.size ≤ 9223372036854775807))
        (cond (decide (((r2 ++ (⟨#[32, 45, 32]⟩ : ByteArray)) ++ r3).size + (⟨#[32, 61, 32]⟩ : ByteArray).size ≤ 9223372036854775807))
         ((impl_DegreeOf a1).bind fun r4 =>
          (impl_FormatInt r4).bind fun r5 =>
           cond (decide ((((r2 ++ (⟨#[32, 45, 32]⟩ : ByteArray)) ++ r3) ++ (⟨#[32, 61, 32]⟩ : ByteArray)).size + r5.size ≤ 9223372036854775807))
            (cond (decide (((((r2 ++ (⟨#[32, 45, 32]⟩ : ByteArray)) ++ r3) ++ (⟨#[32, 61, 32]⟩ : ByteArray)) ++ r5).size + (⟨#[32, 43, 32, 49, 32, 45, 32]⟩ : ByteArray).size ≤ 9223372036854775807))
             ((impl_GenusOf a0).bind fun r6 =>
              (impl_FormatInt r6).bind fun r7 =>
               cond (decide ((((((r2 ++ (⟨#[32, 45, 32]⟩ : ByteArray)) ++ r3) ++ (⟨#[32, 61, 32]⟩ : ByteArray)) ++ r5) ++ (⟨#[32, 43, 32, 49, 32, 45, 32]⟩ : ByteArray)).size + r7.size ≤ 9223372036854775807))
                (some ((((((r2 ++ (⟨#[32, 45, 32]⟩ : ByteArray)) ++ r3) ++ (⟨#[32, 61, 32]⟩ : ByteArray)) ++ r5) ++ (⟨#[32, 43, 32, 49, 32, 45, 32]⟩ : ByteArray)) ++ r7))
                (none))
             (none))
            (none))
         (none))
        (none))
      (none)) :=
 (den_eq Γ X 98 rfl _).trans (by kernel_rfl)
theorem impl_IsStable_eq a0 a1 a2 : impl_IsStable a0 a1 a2 =
  (impl_PileOk a0 a1 a2).bind fun r1 =>
   cond (r1)
    ((impl_unstable a0 a1 a2).bind fun r2 =>
     some (decide (r2 < 0)))
    (some false) :=
 (den_eq Γ X 99 rfl _).trans (by kernel_rfl)
theorem slices_Equal_int_int_eq a0 a1 : slices_Equal_int_int a0 a1 =
  cond (((a0.length : Int) : Int) != (a1.length : Int))
   (some false)
   (slices_Equal_int_int_l0 a0 a1 (a0.length : Int) 0) :=
 (den_eq Γ X 100 rfl _).trans (by kernel_rfl)
theorem slices_Equal_int_int_l0_eq x0 x1 x12 x13 : slices_Equal_int_int_l0 x0 x1 x12 x13 =
  cond (decide (x13 < x12))
   (cond (inside x13 x0.length)
    (cond (inside x13 x1.length)
     (cond (((x0.getD x13.toNat 0) : Int) != (x1.getD x13.toNat 0))
      (some false)
      (slices_Equal_int_int_l0 x0 x1 x12 (w64 (x13 + 1))))
     (none))
    (none))
   (some true) :=
 (at_eq Γ X 100 [1, 1, 0, 1, 0] _).trans (by kernel_rfl)
theorem impl_SameDivisor_eq a0 a1 : impl_SameDivisor a0 a1 =
  (slices_Equal_int_int a0 a1).bind fun r1 =>
   some r1 :=
 (den_eq Γ X 101 rfl _).trans (by kernel_rfl)
theorem impl_IsRecurrent_eq a0 a1 a2 : impl_IsRecurrent a0 a1 a2 =
  (impl_IsStable a0 a1 a2).bind fun r1 =>
   cond (!r1)
    (some false)
    ((impl_copyInts a1).bind fun r2 =>
     (impl_fire a0 r2 a2 1).bind fun r3 =>
      cond (inside a2 r3.length)
       ((impl_stabilize a0 (r3.set a2.toNat 0) a2).bind fun r4 =>
        impl_IsRecurrent_l0 a1 a2 r4.1 r4.2 (r4.2.length : Int) 0)
       (none)) :=
 (den_eq Γ X 102 rfl _).trans (by kernel_rfl)
theorem impl_IsRecurrent_l0_eq x1 x2 x8 x9 x34 x35 : impl_IsRecurrent_l0 x1 x2 x8 x9 x34 x35 =
  cond (decide (x35 < x34))
   (cond (inside x35 x9.length)
    (cond ((x35 : Int) != x2)
     (cond (((x9.getD x35.toNat 0) : Int) != 1)
      (some false)
      (impl_IsRecurrent_l0 x1 x2 x8 x9 x34 (w64 (x35 + 1))))
     (impl_IsRecurrent_l0 x1 x2 x8 x9 x34 (w64 (x35 + 1))))
    (none))
   ((impl_SameDivisor x8 x1).bind fun r5 =>
    some r5) :=
 (at_eq Γ X 102 [1, 1, 1, 1, 1, 1, 0, 1, 0] _).trans (by kernel_rfl)
theorem impl_PileLine_eq a0 a1 a2 : impl_PileLine a0 a1 a2 =
  (impl_Stabilize a0 a1 a2).bind fun r1 =>
   cond (!r1.2.2)
    (some (⟨#[]⟩ : ByteArray))
    ((impl_FormatDivisor r1.1).bind fun r2 =>
     cond (decide (r2.size + (⟨#[32, 97, 102, 116, 101, 114, 32]⟩ : ByteArray).size ≤ 9223372036854775807))
      ((impl_sumOf r1.2.1).bind fun r3 =>
       (impl_FormatInt r3).bind fun r4 =>
        cond (decide ((r2 ++ (⟨#[32, 97, 102, 116, 101, 114, 32]⟩ : ByteArray)).size + r4.size ≤ 9223372036854775807))
         ((impl_IsRecurrent a0 r1.1 a2).bind fun r5 =>
          cond (r5)
           (cond (decide (((r2 ++ (⟨#[32, 97, 102, 116, 101, 114, 32]⟩ : ByteArray)) ++ r4).size + (⟨#[32, 114, 101, 99, 117, 114, 114, 101, 110, 116]⟩ : ByteArray).size ≤ 9223372036854775807))
            (some (((r2 ++ (⟨#[32, 97, 102, 116, 101, 114, 32]⟩ : ByteArray)) ++ r4) ++ (⟨#[32, 114, 101, 99, 117, 114, 114, 101, 110, 116]⟩ : ByteArray)))
            (none))
           (some ((r2 ++ (⟨#[32, 97, 102, 116, 101, 114, 32]⟩ : ByteArray)) ++ r4)))
         (none))
      (none)) :=
 (den_eq Γ X 103 rfl _).trans (by kernel_rfl)
theorem impl_EffectiveIn_eq a0 a1 : impl_EffectiveIn a0 a1 =
  (impl_DivisorOk a0 a1).bind fun r1 =>
   cond (!r1)
    (some (([] : List (List Int)), false))
    ((impl_DegreeOf a1).bind fun r2 =>
     cond (decide (r2 > 7))
      (some (([] : List (List Int)), false))
      ((impl_effectiveIn a0 a1).bind fun r3 =>
       some (r3, true))) :=
 (den_eq Γ X 104 rfl _).trans (by kernel_rfl)
theorem impl_ListLines_eq a0 : impl_ListLines a0 =
  impl_ListLines_l0 ([] : List ByteArray) a0 (a0.length : Int) 0 :=
 (den_eq Γ X 105 rfl _).trans (by kernel_rfl)
theorem impl_ListLines_l0_eq x3 x6 x7 x8 : impl_ListLines_l0 x3 x6 x7 x8 =
  cond (decide (x8 < x7))
   (cond (inside x8 x6.length)
    ((impl_FormatDivisor (x6.getD x8.toNat ([] : List Int))).bind fun r1 =>
     cond (decide (x3.length + ([r1] : List ByteArray).length ≤ room))
      (impl_ListLines_l0 (x3 ++ ([r1] : List ByteArray)) x6 x7 (w64 (x8 + 1)))
      (none))
    (none))
   (some x3) :=
 (at_eq Γ X 105 [1, 1, 0, 1, 0] _).trans (by kernel_rfl)
theorem impl_listed_eq a0 a1 : impl_listed a0 a1 =
  (impl_ListLines a0).bind fun r1 =>
   (impl_Join r1 (⟨#[59]⟩ : ByteArray)).bind fun r2 =>
    (impl_orNone r2).bind fun r3 =>
     some r3 :=
 (den_eq Γ X 106 rfl _).trans (by kernel_rfl)
theorem impl_FullPile_eq a0 a1 : impl_FullPile a0 a1 =
  (impl_isVertex a0 a1).bind fun r1 =>
   cond (!r1)
    (some ([] : List Int))
    (cond (decide (0 ≤ a0.1) && decide (a0.1 ≤ (room : Int)))
     (impl_FullPile_l0 a1 a0 (List.replicate a0.1.toNat (0 : Int)) ((List.replicate a0.1.toNat (0 : Int)).length : Int) 0)
     (none)) :=
 (den_eq Γ X 107 rfl _).trans (by kernel_rfl)
theorem impl_FullPile_l0_eq x1 x2 x5 x15 x16 : impl_FullPile_l0 x1 x2 x5 x15 x16 =
  cond (decide (x16 < x15))
   (cond ((x16 : Int) != x1)
    ((impl_Valence x2 x16).bind fun r2 =>
     cond (inside x16 x5.length)
      (impl_FullPile_l0 x1 x2 (x5.set x16.toNat (w64 (r2 - 1))) x15 (w64 (x16 + 1)))
      (none))
    (impl_FullPile_l0 x1 x2 x5 x15 (w64 (x16 + 1))))
   (some x5) :=
 (at_eq Γ X 107 [1, 1, 1, 0, 1, 0] _).trans (by kernel_rfl)
theorem impl_recurrentOf_eq a0 a1 a2 : impl_recurrentOf a0 a1 a2 =
  (impl_FullPile a0 a2).bind fun r1 =>
   (impl_NegateDivisor a1).bind fun r2 =>
    (impl_plus r1 r2).bind fun r3 =>
     (impl_reduce a0 r3 a2).bind fun r4 =>
      (impl_NegateDivisor r4.1).bind fun r5 =>
       (impl_plus r1 r5).bind fun r6 =>
        cond (inside a2 r6.length)
         (some (r6.set a2.toNat 0))
         (none) :=
 (den_eq Γ X 108 rfl _).trans (by kernel_rfl)
theorem impl_IdentityPile_eq a0 a1 : impl_IdentityPile a0 a1 =
  (impl_isVertex a0 a1).bind fun r1 =>
   cond (!r1)
    (some (([] : List Int), false))
    (cond (decide (0 ≤ a0.1) && decide (a0.1 ≤ (room : Int)))
     ((impl_recurrentOf a0 (List.replicate a0.1.toNat (0 : Int)) a1).bind fun r2 =>
      some (r2, true))
     (none)) :=
 (den_eq Γ X 109 rfl _).trans (by kernel_rfl)
theorem impl_GroupOrder_eq a0 : impl_GroupOrder a0 =
  (impl_CountTrees a0).bind fun r1 =>
   some r1 :=
 (den_eq Γ X 110 rfl _).trans (by kernel_rfl)
theorem impl_reducedAt_1_eq a0 a1 a2 : impl_reducedAt_1 a0 a1 a2 =
  (impl_burn a1 a0 a2).bind fun r1 =>
   some (decide ((r1.length : Int) < a1.1)) :=
 (den_eq Γ X 111 rfl _).trans (by kernel_rfl)
theorem slices_DeleteFunc_int_int__reducedAt_1_eq a0 a1 a2 : slices_DeleteFunc_int_int__reducedAt_1 a0 a1 a2 = Lb.delRows impl_reducedAt_1 a0 a1 a2 := den_ext Γ X 112 rfl _
theorem impl_reducedAt_eq a0 a1 : impl_reducedAt a0 a1 =
  impl_reducedAt_l0 a0 a1 ([([] : List Int)] : List (List Int)) 0 :=
 (den_eq Γ X 113 rfl _).trans (by kernel_rfl)
theorem impl_reducedAt_l0_eq x2 x3 x5 x6 : impl_reducedAt_l0 x2 x3 x5 x6 =
  cond (decide (x6 < x2.1))
   ((impl_Valence x2 x6).bind fun r1 =>
    cond ((x6 : Int) == x3)
     (impl_reducedAt_l2 x2 x3 x5 x6 0 ([] : List (List Int)) (x5.length : Int) 0)
     (impl_reducedAt_l2 x2 x3 x5 x6 (w64 (r1 - 1)) ([] : List (List Int)) (x5.length : Int) 0))
   ((slices_DeleteFunc_int_int__reducedAt_1 x5 x2 x3).bind fun r3 =>
    some r3) :=
 (at_eq Γ X 113 [1, 1, 0, 1, 0] _).trans (by kernel_rfl)
theorem impl_reducedAt_l2_eq x2 x3 x5 x6 x7 x8 x27 x28 : impl_reducedAt_l2 x2 x3 x5 x6 x7 x8 x27 x28 =
  cond (decide (x28 < x27))
   (cond (inside x28 x5.length)
    (impl_reducedAt_l4 x2 x3 x5 x6 x7 x8 0 x27 x28 x28.toNat)
    (none))
   (impl_reducedAt_l0 x2 x3 x8 (w64 (x6 + 1))) :=
 (at_eq Γ X 113 [1, 1, 0, 1, 0, 0, 1, 0, 0, 1, 1, 1, 0, 1, 0] _).trans (by kernel_rfl)
theorem impl_reducedAt_l4_eq x2 x3 x5 x6 x7 x8 x11 x27 x28 i10_0 : impl_reducedAt_l4 x2 x3 x5 x6 x7 x8 x11 x27 x28 i10_0 =
  cond (decide (x11 ≤ x7))
   ((impl_copyInts (x5.getD i10_0 ([] : List Int))).bind fun r2 =>
    cond (decide (r2.length + ([x11] : List Int).length ≤ room))
     (cond (decide (x8.length + ([r2 ++ ([x11] : List Int)] : List (List Int)).length ≤ room))
      (impl_reducedAt_l4 x2 x3 x5 x6 x7 (x8 ++ ([r2 ++ ([x11] : List Int)] : List (List Int))) (w64 (x11 + 1)) x27 x28 i10_0)
      (none))
     (none))
   (impl_reducedAt_l2 x2 x3 x5 x6 x7 x8 x27 (w64 (x28 + 1))) :=
 (at_eq Γ X 113 [1, 1, 0, 1, 0, 0, 1, 0, 0, 1, 1, 1, 0, 1, 0, 0, 1, 1, 0, 0, 1, 1, 0] _).trans (by kernel_rfl)
theorem impl_RecurrentPiles_eq a0 a1 : impl_RecurrentPiles a0 a1 =
  (impl_isVertex a0 a1).bind fun r1 =>
   cond (!r1)
    (some (([] : List (List Int)), false))
    ((impl_GroupOrder a0).bind fun r2 =>
     cond (decide (r2 > 400))
      (some (([] : List (List Int)), false))
      ((impl_FullPile a0 a1).bind fun r3 =>
       (impl_reducedAt a0 a1).bind fun r4 =>
        impl_RecurrentPiles_l0 r3 ([] : List (List Int)) r4 (r4.length : Int) 0)) :=
 (den_eq Γ X 114 rfl _).trans (by kernel_rfl)
theorem impl_RecurrentPiles_l0_eq x6 x7 x24 x25 x26 : impl_RecurrentPiles_l0 x6 x7 x24 x25 x26 =
  cond (decide (x26 < x25))
   (cond (inside x26 x24.length)
    ((impl_NegateDivisor (x24.getD x26.toNat ([] : List Int))).bind fun r5 =>
     (impl_plus x6 r5).bind fun r6 =>
      cond (decide (x7.length + ([r6] : List (List Int)).length ≤ room))
       (impl_RecurrentPiles_l0 x6 (x7 ++ ([r6] : List (List Int))) x24 x25 (w64 (x26 + 1)))
       (none))
    (none))
   ((slices_SortFunc_int_int__Compare_int_int x7).bind fun r7 =>
    some (r7, true)) :=
 (at_eq Γ X 114 [1, 1, 1, 1, 0, 1, 0] _).trans (by kernel_rfl)
theorem impl_ParkingsOf_eq a0 a1 : impl_ParkingsOf a0 a1 =
  (impl_isVertex a0 a1).bind fun r1 =>
   cond (!r1)
    (some (([] : List (List Int)), false))
    ((impl_GroupOrder a0).bind fun r2 =>
     cond (decide (r2 > 400))
      (some (([] : List (List Int)), false))
      ((impl_reducedAt a0 a1).bind fun r3 =>
       impl_ParkingsOf_l0 a1 r3 (r3.length : Int) 0)) :=
 (den_eq Γ X 115 rfl _).trans (by kernel_rfl)
theorem impl_ParkingsOf_l0_eq x1 x6 x22 x23 : impl_ParkingsOf_l0 x1 x6 x22 x23 =
  cond (decide (x23 < x22))
   (cond (inside x23 x6.length)
    (cond (inside x1 (x6.getD x23.toNat ([] : List Int)).length)
     (impl_ParkingsOf_l0 x1 (x6.set x23.toNat ((x6.getD x23.toNat ([] : List Int)).set x1.toNat (-1))) x22 (w64 (x23 + 1)))
     (none))
    (none))
   (some (x6, true)) :=
 (at_eq Γ X 115 [1, 1, 1, 0, 1, 0] _).trans (by kernel_rfl)
theorem impl_addTerms_eq a0 a1 a2 a3 : impl_addTerms a0 a1 a2 a3 = Lb.addTm A140 a0 a1 a2 a3 := den_ext Γ X 116 rfl _
theorem impl_joins_eq a0 a1 a2 : impl_joins a0 a1 a2 =
  cond (decide (a1 < 0))
   (none)
   (impl_joins_l0 a0 a2 (w64 (1 * 2 ^ (min a1.toNat 64))) (a0.length : Int) 0) :=
 (den_eq Γ X 117 rfl _).trans (by kernel_rfl)
theorem impl_joins_l0_eq x0 x2 x7 x13 x14 : impl_joins_l0 x0 x2 x7 x13 x14 =
  cond (decide (x14 < x13))
   (impl_joins_l2 x0 x2 x7 x13 x14 x0 (x0.length : Int) 0)
   (cond (decide (x2 < 0))
    (none)
    (some (((bits .and .i64 (Int.fdiv x7 (2 ^ (min x2.toNat 64))) 1) : Int) == 1))) :=
 (at_eq Γ X 117 [1, 1, 0, 1, 0] _).trans (by kernel_rfl)
theorem impl_joins_l2_eq x0 x2 x7 x13 x14 x16 x17 x18 : impl_joins_l2 x0 x2 x7 x13 x14 x16 x17 x18 =
  cond (decide (x18 < x17))
   (cond (inside x18 x16.length)
    (cond (decide ((x16.getD x18.toNat (0, 0)).1 < 0))
     (none)
     (cond (((bits .and .i64 (Int.fdiv x7 (2 ^ (min ((x16.getD x18.toNat (0, 0)).1).toNat 64))) 1) : Int) == 1)
      (cond (decide ((x16.getD x18.toNat (0, 0)).1 < 0))
       (none)
       (cond (decide ((x16.getD x18.toNat (0, 0)).2 < 0))
        (none)
        (impl_joins_l2 x0 x2 (bits .or .i64 x7 (bits .or .i64 (w64 (1 * 2 ^ (min ((x16.getD x18.toNat (0, 0)).1).toNat 64))) (w64 (1 * 2 ^ (min ((x16.getD x18.toNat (0, 0)).2).toNat 64))))) x13 x14 x16 x17 (w64 (x18 + 1)))))
      (cond (decide ((x16.getD x18.toNat (0, 0)).2 < 0))
       (none)
       (cond (((bits .and .i64 (Int.fdiv x7 (2 ^ (min ((x16.getD x18.toNat (0, 0)).2).toNat 64))) 1) : Int) == 1)
        (cond (decide ((x16.getD x18.toNat (0, 0)).1 < 0))
         (none)
         (cond (decide ((x16.getD x18.toNat (0, 0)).2 < 0))
          (none)
          (impl_joins_l2 x0 x2 (bits .or .i64 x7 (bits .or .i64 (w64 (1 * 2 ^ (min ((x16.getD x18.toNat (0, 0)).1).toNat 64))) (w64 (1 * 2 ^ (min ((x16.getD x18.toNat (0, 0)).2).toNat 64))))) x13 x14 x16 x17 (w64 (x18 + 1)))))
        (impl_joins_l2 x0 x2 x7 x13 x14 x16 x17 (w64 (x18 + 1)))))))
    (none))
   (impl_joins_l0 x0 x2 x7 x13 (w64 (x14 + 1))) :=
 (at_eq Γ X 117 [1, 1, 0, 1, 0, 0, 1, 1, 0, 0, 1, 0] _).trans (by kernel_rfl)
theorem impl_tutte_eq a0 : impl_tutte a0 =
  cond (((a0.length : Int) : Int) == 0)
   (some ((1, ((Ty.dflt A140).1).2), (Ty.dflt A140).2))
   (cond (inside 0 a0.length)
    (cond (decide (0 ≤ 1) && decide (1 ≤ (a0.length : Int)) && decide ((a0.length : Int) ≤ (a0.length : Int)))
     (cond ((((a0.getD 0 (0, 0)).1) : Int) == ((a0.getD 0 (0, 0)).2))
      ((impl_tutte ((a0.take ((a0.length : Int).toNat)).drop 1)).bind fun r1 =>
       (impl_addTerms (Ty.dflt A140) r1 0 1).bind fun r2 =>
        some r2)
      (impl_tutte_l0 (Ty.dflt A140) (Ty.dflt A140) (a0.getD 0 (0, 0)) ((a0.take ((a0.length : Int).toNat)).drop 1) ([] : List (Int × Int)) ((a0.take ((a0.length : Int).toNat)).drop 1) (((a0.take ((a0.length : Int).toNat)).drop 1).length : Int) 0))
     (none))
    (none)) :=
 (den_eq Γ X 118 rfl _).trans (by kernel_rfl)
theorem impl_tutte_l0_eq x2 x3 x4 x5 x6 x29 x30 x31 : impl_tutte_l0 x2 x3 x4 x5 x6 x29 x30 x31 =
  cond (decide (x31 < x30))
   (cond (inside x31 x29.length)
    (cond ((((x29.getD x31.toNat (0, 0)).1) : Int) == x4.2)
     (cond ((((x29.getD x31.toNat (0, 0)).2) : Int) == x4.2)
      (cond (decide (x6.length + ([(x4.1, x4.1)] : List (Int × Int)).length ≤ room))
       (impl_tutte_l0 x2 x3 x4 x5 (x6 ++ ([(x4.1, x4.1)] : List (Int × Int))) x29 x30 (w64 (x31 + 1)))
       (none))
      (cond (decide (x6.length + ([(x4.1, (x29.getD x31.toNat (0, 0)).2)] : List (Int × Int)).length ≤ room))
       (impl_tutte_l0 x2 x3 x4 x5 (x6 ++ ([(x4.1, (x29.getD x31.toNat (0, 0)).2)] : List (Int × Int))) x29 x30 (w64 (x31 + 1)))
       (none)))
     (cond ((((x29.getD x31.toNat (0, 0)).2) : Int) == x4.2)
      (cond (decide (x6.length + ([((x29.getD x31.toNat (0, 0)).1, x4.1)] : List (Int × Int)).length ≤ room))
       (impl_tutte_l0 x2 x3 x4 x5 (x6 ++ ([((x29.getD x31.toNat (0, 0)).1, x4.1)] : List (Int × Int))) x29 x30 (w64 (x31 + 1)))
       (none))
      (cond (decide (x6.length + ([x29.getD x31.toNat (0, 0)] : List (Int × Int)).length ≤ room))
       (impl_tutte_l0 x2 x3 x4 x5 (x6 ++ ([x29.getD x31.toNat (0, 0)] : List (Int × Int))) x29 x30 (w64 (x31 + 1)))
       (none))))
    (none))
   ((impl_joins x5 x4.1 x4.2).bind fun r3 =>
    cond (!r3)
     ((impl_tutte x6).bind fun r4 =>
      (impl_addTerms x3 r4 1 0).bind fun r5 =>
       some r5)
     ((impl_tutte x5).bind fun r6 =>
      (impl_addTerms x3 r6 0 0).bind fun r7 =>
       (impl_tutte x6).bind fun r8 =>
        (impl_addTerms r7 r8 0 0).bind fun r9 =>
         some r9)) :=
 (at_eq Γ X 118 [1, 1, 1, 1, 1, 1, 0, 1, 0] _).trans (by kernel_rfl)
theorem impl_trimmed_eq a0 : impl_trimmed a0 =
  impl_trimmed_l0 a0 :=
 (den_eq Γ X 119 rfl _).trans (by kernel_rfl)
theorem impl_trimmed_l0_eq x0 : impl_trimmed_l0 x0 =
  cond (decide ((x0.length : Int) > 0))
   (cond (inside (w64 ((x0.length : Int) - 1)) x0.length)
    (cond (((x0.getD ((w64 ((x0.length : Int) - 1)).toNat) 0) : Int) == 0)
     (cond (decide (0 ≤ 0) && decide (0 ≤ w64 ((x0.length : Int) - 1)) && decide (w64 ((x0.length : Int) - 1) ≤ (x0.length : Int)))
      (impl_trimmed_l0 ((x0.take ((w64 ((x0.length : Int) - 1)).toNat)).drop 0))
      (none))
     (some x0))
    (none))
   (some x0) :=
 (at_eq Γ X 119 [1, 0, 0] _).trans (by kernel_rfl)
theorem impl_TutteOf_eq a0 : impl_TutteOf a0 = Lb.tutOf A140 impl_GraphOk impl_tutte impl_trimmed impl_copyInts a0 := den_ext Γ X 120 rfl _
theorem impl_powerText_eq a0 a1 : impl_powerText a0 a1 =
  cond ((a1 : Int) == 0)
   (some (⟨#[]⟩ : ByteArray))
   (cond ((a1 : Int) == 1)
    (some a0)
    ((impl_FormatInt a1).bind fun r1 =>
     cond (decide (a0.size + r1.size ≤ 9223372036854775807))
      (some (a0 ++ r1))
      (none))) :=
 (den_eq Γ X 121 rfl _).trans (by kernel_rfl)
theorem impl_FormatPolynomial_eq a0 : impl_FormatPolynomial a0 =
  impl_FormatPolynomial_l0 ([] : List ByteArray) a0 (a0.length : Int) 0 :=
 (den_eq Γ X 122 rfl _).trans (by kernel_rfl)
theorem impl_FormatPolynomial_l0_eq x3 x9 x10 x11 : impl_FormatPolynomial_l0 x3 x9 x10 x11 =
  cond (decide (x11 < x10))
   (cond (inside x11 x9.length)
    (impl_FormatPolynomial_l2 x3 x11 x9 x10 x11 (x9.getD x11.toNat ([] : List Int)) ((x9.getD x11.toNat ([] : List Int)).length : Int) 0)
    (none))
   (cond (((x3.length : Int) : Int) == 0)
    (some (⟨#[48]⟩ : ByteArray))
    ((impl_Join x3 (⟨#[32, 43, 32]⟩ : ByteArray)).bind fun r5 =>
     some r5)) :=
 (at_eq Γ X 122 [1, 1, 0, 1, 0] _).trans (by kernel_rfl)
theorem impl_FormatPolynomial_l2_eq x3 x4 x9 x10 x11 x16 x17 x18 : impl_FormatPolynomial_l2 x3 x4 x9 x10 x11 x16 x17 x18 =
  cond (decide (x18 < x17))
   (cond (inside x18 x16.length)
    (cond (((x16.getD x18.toNat 0) : Int) == 0)
     (impl_FormatPolynomial_l2 x3 x4 x9 x10 x11 x16 x17 (w64 (x18 + 1)))
     ((impl_powerText (⟨#[120]⟩ : ByteArray) x4).bind fun r1 =>
      (impl_powerText (⟨#[121]⟩ : ByteArray) x18).bind fun r2 =>
       cond (decide (r1.size + r2.size ≤ 9223372036854775807))
        (cond (((x16.getD x18.toNat 0) : Int) == 1)
         (cond (!((r1 ++ r2).toList == (⟨#[]⟩ : ByteArray).toList))
          (cond (decide (x3.length + ([r1 ++ r2] : List ByteArray).length ≤ room))
           (impl_FormatPolynomial_l2 (x3 ++ ([r1 ++ r2] : List ByteArray)) x4 x9 x10 x11 x16 x17 (w64 (x18 + 1)))
           (none))
          ((impl_FormatInt (x16.getD x18.toNat 0)).bind fun r3 =>
           cond (decide (r3.size + (r1 ++ r2).size ≤ 9223372036854775807))
            (cond (decide (x3.length + ([r3 ++ (r1 ++ r2)] : List ByteArray).length ≤ room))
             (impl_FormatPolynomial_l2 (x3 ++ ([r3 ++ (r1 ++ r2)] : List ByteArray)) x4 x9 x10 x11 x16 x17 (w64 (x18 + 1)))
             (none))
            (none)))
         ((impl_FormatInt (x16.getD x18.toNat 0)).bind fun r4 =>
          cond (decide (r4.size + (r1 ++ r2).size ≤ 9223372036854775807))
           (cond (decide (x3.length + ([r4 ++ (r1 ++ r2)] : List ByteArray).length ≤ room))
            (impl_FormatPolynomial_l2 (x3 ++ ([r4 ++ (r1 ++ r2)] : List ByteArray)) x4 x9 x10 x11 x16 x17 (w64 (x18 + 1)))
            (none))
           (none)))
        (none)))
    (none))
   (impl_FormatPolynomial_l0 x3 x9 x10 (w64 (x11 + 1))) :=
 (at_eq Γ X 122 [1, 1, 0, 1, 0, 0, 1, 1, 0, 0, 1, 1, 0] _).trans (by kernel_rfl)
theorem impl_oneAt_eq a0 a1 a2 : impl_oneAt a0 a1 a2 =
  cond (decide (0 ≤ a0.1) && decide (a0.1 ≤ (room : Int)))
   (cond (inside a1 (List.replicate a0.1.toNat (0 : Int)).length)
    (some ((List.replicate a0.1.toNat (0 : Int)).set a1.toNat a2))
    (none))
   (none) :=
 (den_eq Γ X 123 rfl _).trans (by kernel_rfl)
theorem impl_reaches_eq a0 a1 : impl_reaches a0 a1 =
  impl_reaches_l0 a1 a0 (a1.length : Int) 0 :=
 (den_eq Γ X 124 rfl _).trans (by kernel_rfl)
theorem impl_reaches_l0_eq x1 x2 x7 x8 : impl_reaches_l0 x1 x2 x7 x8 =
  cond (decide (x8 < x7))
   ((impl_oneAt x2 x8 (-1)).bind fun r1 =>
    (impl_plus x1 r1).bind fun r2 =>
     (impl_winnable x2 r2).bind fun r3 =>
      cond (!r3)
       (some false)
       (impl_reaches_l0 x1 x2 x7 (w64 (x8 + 1))))
   (some true) :=
 (at_eq Γ X 124 [1, 0, 1, 0] _).trans (by kernel_rfl)
theorem impl_GonalDivisor_eq a0 : impl_GonalDivisor a0 =
  (impl_GraphOk a0).bind fun r1 =>
   cond (!r1)
    (some (([] : List Int), false))
    (cond (decide (a0.1 > 5))
     (some (([] : List Int), false))
     ((impl_GenusOf a0).bind fun r2 =>
      cond (decide (r2 > 5))
       (some (([] : List Int), false))
       (impl_GonalDivisor_l0 a0 1))) :=
 (den_eq Γ X 125 rfl _).trans (by kernel_rfl)
theorem impl_GonalDivisor_l0_eq x1 x4 : impl_GonalDivisor_l0 x1 x4 =
  (impl_effective x1.1 x4).bind fun r3 =>
   impl_GonalDivisor_l2 x1 x4 r3 (r3.length : Int) 0 :=
 (at_eq Γ X 125 [1, 1, 1, 0] _).trans (by kernel_rfl)
theorem impl_GonalDivisor_l2_eq x1 x4 x25 x26 x27 : impl_GonalDivisor_l2 x1 x4 x25 x26 x27 =
  cond (decide (x27 < x26))
   (cond (inside x27 x25.length)
    ((impl_reaches x1 (x25.getD x27.toNat ([] : List Int))).bind fun r4 =>
     cond (r4)
      (some (x25.getD x27.toNat ([] : List Int), true))
      (impl_GonalDivisor_l2 x1 x4 x25 x26 (w64 (x27 + 1))))
    (none))
   (impl_GonalDivisor_l0 x1 (w64 (x4 + 1))) :=
 (at_eq Γ X 125 [1, 1, 1, 0, 0, 0, 0, 1, 0] _).trans (by kernel_rfl)
theorem impl_GonalityOf_eq a0 : impl_GonalityOf a0 =
  (impl_GonalDivisor a0).bind fun r1 =>
   cond (!r1.2)
    (some (0, false))
    ((impl_DegreeOf r1.1).bind fun r2 =>
     some (r2, true)) :=
 (den_eq Γ X 126 rfl _).trans (by kernel_rfl)
theorem impl_RanksAt_eq a0 a1 : impl_RanksAt a0 a1 =
  (impl_isVertex a0 a1).bind fun r1 =>
   cond (!r1)
    (some (([] : List Int), false))
    (impl_RanksAt_l0 a1 a0 ([] : List Int) 0) :=
 (den_eq Γ X 127 rfl _).trans (by kernel_rfl)
theorem impl_RanksAt_l0_eq x1 x2 x6 x7 : impl_RanksAt_l0 x1 x2 x6 x7 =
  cond (decide (x7 ≤ 7))
   ((impl_oneAt x2 x1 x7).bind fun r2 =>
    (impl_rank x2 r2).bind fun r3 =>
     cond (decide (x6.length + ([r3.1] : List Int).length ≤ room))
      (impl_RanksAt_l0 x1 x2 (x6 ++ ([r3.1] : List Int)) (w64 (x7 + 1)))
      (none))
   (some (x6, true)) :=
 (at_eq Γ X 127 [1, 1, 1, 0, 1, 0] _).trans (by kernel_rfl)
theorem impl_GapsAt_eq a0 a1 : impl_GapsAt a0 a1 =
  (impl_isVertex a0 a1).bind fun r1 =>
   cond (!r1)
    (some (([] : List Int), false))
    ((impl_GenusOf a0).bind fun r2 =>
     cond (decide (r2 > 3))
      (some (([] : List Int), false))
      ((impl_RanksAt a0 a1).bind fun r3 =>
       impl_GapsAt_l0 a0 r3.1 ([] : List Int) 1)) :=
 (den_eq Γ X 128 rfl _).trans (by kernel_rfl)
theorem impl_GapsAt_l0_eq x2 x6 x8 x9 : impl_GapsAt_l0 x2 x6 x8 x9 =
  (impl_GenusOf x2).bind fun r4 =>
   cond (decide (x9 ≤ w64 (2 * r4)))
    (cond (inside x9 x6.length)
     (cond (inside (w64 (x9 - 1)) x6.length)
      (cond (((x6.getD x9.toNat 0) : Int) == (x6.getD ((w64 (x9 - 1)).toNat) 0))
       (cond (decide (x8.length + ([x9] : List Int).length ≤ room))
        (impl_GapsAt_l0 x2 x6 (x8 ++ ([x9] : List Int)) (w64 (x9 + 1)))
        (none))
       (impl_GapsAt_l0 x2 x6 x8 (w64 (x9 + 1))))
      (none))
     (none))
    (some (x8, true)) :=
 (at_eq Γ X 128 [1, 1, 1, 1, 0, 1, 0] _).trans (by kernel_rfl)
theorem impl_RunLine_eq a0 a1 : impl_RunLine a0 a1 =
  (impl_copyConsole a0).bind fun r1 =>
   cond (a1.toList == (⟨#[]⟩ : ByteArray).toList)
    (some (r1, (⟨#[]⟩ : ByteArray)))
    (cond (inside 0 a1.size)
     (cond (((bAt a1 0) : Int) == 35)
      (some (r1, (⟨#[]⟩ : ByteArray)))
      ((impl_SplitAny a1 (⟨#[32]⟩ : ByteArray)).bind fun r2 =>
       cond (decide (0 ≤ 1) && decide (1 ≤ (r2.length : Int)) && decide ((r2.length : Int) ≤ (r2.length : Int)))
        ((impl_copyInts a0.2.1).bind fun r3 =>
         (impl_within a0.2.2 0 (w64 ((r3.length : Int) - 1))).bind fun r4 =>
          cond (r4)
           (cond (inside a0.2.2 r3.length)
            (cond (decide ((((r2.take ((r2.length : Int).toNat)).drop 1).length : Int) > 0))
             (impl_RunLine_c11 a0 ((0, ([] : List (Int × Int))), ([] : List Int), 0) r1 r2 ((r2.take ((r2.length : Int).toNat)).drop 1))
             (impl_RunLine_c48 a0 ((0, ([] : List (Int × Int))), ([] : List Int), 0) r1 r2 (r3.set a0.2.2.toNat 0)))
            (none))
           (cond (decide ((((r2.take ((r2.length : Int).toNat)).drop 1).length : Int) > 0))
            (impl_RunLine_c11 a0 ((0, ([] : List (Int × Int))), ([] : List Int), 0) r1 r2 ((r2.take ((r2.length : Int).toNat)).drop 1))
            (impl_RunLine_c48 a0 ((0, ([] : List (Int × Int))), ([] : List Int), 0) r1 r2 r3)))
        (none)))
     (none)) :=
 (den_eq Γ X 129 rfl _).trans (by kernel_rfl)
theorem impl_RunLine_l0_eq x2 x4 x6 x7 x8 x13 x87 x88 x89 : impl_RunLine_l0 x2 x4 x6 x7 x8 x13 x87 x88 x89 =
  cond (decide (x89 < x88))
   (cond (inside x89 x87.length)
    ((impl_ParseInt (x87.getD x89.toNat ByteArray.empty)).bind fun r8 =>
     cond (!r8.2)
      (some (x6, (⟨#[117, 110, 107, 110, 111, 119, 110, 32, 99, 111, 109, 109, 97, 110, 100]⟩ : ByteArray)))
      (cond (decide (x13.length + ([r8.1] : List Int).length ≤ room))
       (impl_RunLine_l0 x2 x4 x6 x7 x8 (x13 ++ ([r8.1] : List Int)) x87 x88 (w64 (x89 + 1)))
       (none)))
    (none))
   (cond (inside 0 x7.length)
    (cond ((x7.getD 0 ByteArray.empty).toList == (⟨#[99, 104, 105, 112, 115]⟩ : ByteArray).toList)
     ((impl_DivisorOk x2.1 x13).bind fun r9 =>
      cond (r9)
       (some ((x6.1, x13, x6.2.2), (⟨#[111, 107]⟩ : ByteArray)))
       (some (x6, (⟨#[110, 111, 110, 101]⟩ : ByteArray))))
     (cond (inside 0 x7.length)
      (cond ((x7.getD 0 ByteArray.empty).toList == (⟨#[115, 105, 110, 107]⟩ : ByteArray).toList)
       (cond (((x8.length : Int) : Int) == 1)
        (cond (inside 0 x13.length)
         (cond (decide (x13.getD 0 0 ≥ 0))
          (cond (inside 0 x13.length)
           (cond (decide (x13.getD 0 0 < x2.1.1))
            (cond (inside 0 x13.length)
             (some ((x6.1, x6.2.1, x13.getD 0 0), (⟨#[111, 107]⟩ : ByteArray)))
             (none))
            (some (x6, (⟨#[110, 111, 110, 101]⟩ : ByteArray))))
           (none))
          (some (x6, (⟨#[110, 111, 110, 101]⟩ : ByteArray))))
         (none))
        (cond (inside 0 x7.length)
         (cond ((x7.getD 0 ByteArray.empty).toList == (⟨#[102, 105, 114, 101]⟩ : ByteArray).toList)
          ((impl_FireSet x2.1 x2.2.1 x13).bind fun r10 =>
           (impl_RunLine_1 r10.1 r10.2 x2 x6).bind fun r11 =>
            some (r11.1, r11.2.1))
          (cond (inside 0 x7.length)
           (cond ((x7.getD 0 ByteArray.empty).toList == (⟨#[119, 97, 108, 107]⟩ : ByteArray).toList)
            (cond (((x8.length : Int) : Int) == 1)
             ((impl_TreesOf x2.1).bind fun r12 =>
              impl_RunLine_c40 x2 x4 x6 x13 r12.1)
             (some (x6, (⟨#[117, 110, 107, 110, 111, 119, 110, 32, 99, 111, 109, 109, 97, 110, 100]⟩ : ByteArray))))
            (some (x6, (⟨#[117, 110, 107, 110, 111, 119, 110, 32, 99, 111, 109, 109, 97, 110, 100]⟩ : ByteArray))))
           (none)))
         (none)))
       (cond (inside 0 x7.length)
        (cond ((x7.getD 0 ByteArray.empty).toList == (⟨#[102, 105, 114, 101]⟩ : ByteArray).toList)
         ((impl_FireSet x2.1 x2.2.1 x13).bind fun r16 =>
          (impl_RunLine_1 r16.1 r16.2 x2 x6).bind fun r17 =>
           some (r17.1, r17.2.1))
         (cond (inside 0 x7.length)
          (cond ((x7.getD 0 ByteArray.empty).toList == (⟨#[119, 97, 108, 107]⟩ : ByteArray).toList)
           (cond (((x8.length : Int) : Int) == 1)
            ((impl_TreesOf x2.1).bind fun r18 =>
             impl_RunLine_c40 x2 x4 x6 x13 r18.1)
            (some (x6, (⟨#[117, 110, 107, 110, 111, 119, 110, 32, 99, 111, 109, 109, 97, 110, 100]⟩ : ByteArray))))
           (some (x6, (⟨#[117, 110, 107, 110, 111, 119, 110, 32, 99, 111, 109, 109, 97, 110, 100]⟩ : ByteArray))))
          (none)))
        (none)))
      (none)))
    (none)) :=
 (at_eq Γ X 129 [1, 1, 1, 1, 1, 1, 1, 1, 0, 1, 0, 1, 1, 0, 1, 0] _).trans (by kernel_rfl)
theorem impl_RunLine_c11_eq x2 x4 x6 x7 x8 : impl_RunLine_c11 x2 x4 x6 x7 x8 =
  cond (inside 0 x7.length)
   (cond ((x7.getD 0 ByteArray.empty).toList == (⟨#[103, 114, 97, 112, 104]⟩ : ByteArray).toList)
    ((impl_Join x8 (⟨#[32]⟩ : ByteArray)).bind fun r5 =>
     (impl_ParseGraph r5).bind fun r6 =>
      cond (r6.2)
       (cond (decide (0 ≤ r6.1.1) && decide (r6.1.1 ≤ (room : Int)))
        ((impl_GraphLine r6.1).bind fun r7 =>
         some ((r6.1, List.replicate r6.1.1.toNat (0 : Int), 0), r7))
        (none))
       (some (x6, (⟨#[117, 110, 107, 110, 111, 119, 110, 32, 99, 111, 109, 109, 97, 110, 100]⟩ : ByteArray))))
    (impl_RunLine_l0 x2 x4 x6 x7 x8 ([] : List Int) x8 (x8.length : Int) 0))
   (none) :=
 (at_eq Γ X 129 [1, 1, 1, 1, 1, 1, 1, 1, 0, 1, 0, 0, 0] _).trans (by kernel_rfl)
theorem impl_RunLine_c40_eq x2 x4 x6 x13 x18 : impl_RunLine_c40 x2 x4 x6 x13 x18 =
  cond (((x18.length : Int) : Int) == 0)
   (some (x6, (⟨#[110, 111, 110, 101]⟩ : ByteArray)))
   (cond (inside 0 x18.length)
    ((impl_StateOfTree x2.1 (x18.getD 0 ([] : List Int)) x2.2.2).bind fun r13 =>
     cond (inside 0 x13.length)
      ((impl_WalkToSink x2.1 r13.1 x2.2.2 (x13.getD 0 0)).bind fun r14 =>
       cond (!r14.2.2)
        (some (x6, (⟨#[110, 111, 110, 101]⟩ : ByteArray)))
        ((impl_FormatInt r14.2.1).bind fun r15 =>
         some (x6, r15)))
      (none))
    (none)) :=
 (at_eq Γ X 129 [1, 1, 1, 1, 1, 1, 1, 1, 0, 1, 0, 1, 1, 1, 0, 0, 1, 1, 1, 1, 1, 1, 1, 0, 1, 0, 0] _).trans (by kernel_rfl)
theorem impl_RunLine_c48_eq x2 x4 x6 x7 x10 : impl_RunLine_c48 x2 x4 x6 x7 x10 =
  cond (inside 0 x7.length)
   (cond ((x7.getD 0 ByteArray.empty).toList == (⟨#[114, 101, 100, 117, 99, 101]⟩ : ByteArray).toList)
    ((impl_ReducedOf x2.1 x2.2.1 x2.2.2).bind fun r19 =>
     (impl_RunLine_1 r19.1 r19.2 x2 x6).bind fun r20 =>
      some (r20.1, r20.2.1))
    (cond ((x7.getD 0 ByteArray.empty).toList == (⟨#[115, 101, 116, 116, 108, 101]⟩ : ByteArray).toList)
     ((impl_Stabilize x2.1 x10 x2.2.2).bind fun r21 =>
      (impl_RunLine_1 r21.1 r21.2.2 x2 x6).bind fun r22 =>
       some (r22.1, r22.2.1))
     (cond ((x7.getD 0 ByteArray.empty).toList == (⟨#[119, 105, 110]⟩ : ByteArray).toList)
      ((impl_WinLine x2.1 x2.2.1).bind fun r23 =>
       (impl_orNone r23).bind fun r24 =>
        some (x6, r24))
      (cond ((x7.getD 0 ByteArray.empty).toList == (⟨#[114, 97, 110, 107]⟩ : ByteArray).toList)
       ((impl_RankLine x2.1 x2.2.1).bind fun r25 =>
        (impl_orNone r25).bind fun r26 =>
         some (x6, r26))
       (cond ((x7.getD 0 ByteArray.empty).toList == (⟨#[114, 105, 101, 109, 97, 110, 110]⟩ : ByteArray).toList)
        ((impl_RiemannLine x2.1 x2.2.1).bind fun r27 =>
         (impl_orNone r27).bind fun r28 =>
          some (x6, r28))
        (cond ((x7.getD 0 ByteArray.empty).toList == (⟨#[112, 105, 108, 101]⟩ : ByteArray).toList)
         ((impl_PileLine x2.1 x10 x2.2.2).bind fun r29 =>
          (impl_orNone r29).bind fun r30 =>
           some (x6, r30))
         (cond ((x7.getD 0 ByteArray.empty).toList == (⟨#[97, 108, 108]⟩ : ByteArray).toList)
          ((impl_EffectiveIn x2.1 x2.2.1).bind fun r31 =>
           (impl_listed r31.1 r31.2).bind fun r32 =>
            some (x6, r32))
          (cond ((x7.getD 0 ByteArray.empty).toList == (⟨#[105, 100, 101, 110, 116, 105, 116, 121]⟩ : ByteArray).toList)
           ((impl_IdentityPile x2.1 x2.2.2).bind fun r33 =>
            cond (!r33.2)
             (some (x6, (⟨#[110, 111, 110, 101]⟩ : ByteArray)))
             ((impl_FormatDivisor r33.1).bind fun r34 =>
              some (x6, r34)))
           (cond ((x7.getD 0 ByteArray.empty).toList == (⟨#[116, 114, 101, 101, 115]⟩ : ByteArray).toList)
            ((impl_TreesOf x2.1).bind fun r35 =>
             (impl_listed r35.1 r35.2).bind fun r36 =>
              some (x6, r36))
            (cond ((x7.getD 0 ByteArray.empty).toList == (⟨#[114, 101, 99, 117, 114, 114, 101, 110, 116]⟩ : ByteArray).toList)
             ((impl_RecurrentPiles x2.1 x2.2.2).bind fun r37 =>
              (impl_listed r37.1 r37.2).bind fun r38 =>
               some (x6, r38))
             (cond ((x7.getD 0 ByteArray.empty).toList == (⟨#[112, 97, 114, 107, 105, 110, 103]⟩ : ByteArray).toList)
              ((impl_ParkingsOf x2.1 x2.2.2).bind fun r39 =>
               (impl_listed r39.1 r39.2).bind fun r40 =>
                some (x6, r40))
              (cond ((x7.getD 0 ByteArray.empty).toList == (⟨#[116, 117, 116, 116, 101]⟩ : ByteArray).toList)
               ((impl_TutteOf x2.1).bind fun r41 =>
                cond (!r41.2)
                 (some (x6, (⟨#[110, 111, 110, 101]⟩ : ByteArray)))
                 ((impl_FormatPolynomial r41.1).bind fun r42 =>
                  some (x6, r42)))
               (cond ((x7.getD 0 ByteArray.empty).toList == (⟨#[103, 111, 110, 97, 108, 105, 116, 121]⟩ : ByteArray).toList)
                ((impl_GonalityOf x2.1).bind fun r43 =>
                 cond (!r43.2)
                  (some (x6, (⟨#[110, 111, 110, 101]⟩ : ByteArray)))
                  ((impl_FormatInt r43.1).bind fun r44 =>
                   some (x6, r44)))
                (cond ((x7.getD 0 ByteArray.empty).toList == (⟨#[103, 97, 112, 115]⟩ : ByteArray).toList)
                 ((impl_GapsAt x2.1 x2.2.2).bind fun r45 =>
                  impl_RunLine_c87 x4 x6 r45.1)
                 (some (x6, (⟨#[117, 110, 107, 110, 111, 119, 110, 32, 99, 111, 109, 109, 97, 110, 100]⟩ : ByteArray)))))))))))))))))
   (none) :=
 (at_eq Γ X 129 [1, 1, 1, 1, 1, 1, 1, 1, 1, 0, 0] _).trans (by kernel_rfl)
theorem impl_RunLine_c87_eq x4 x6 x34 : impl_RunLine_c87 x4 x6 x34 =
  (impl_FormatDivisor x34).bind fun r46 =>
   some (x6, r46) :=
 (at_eq Γ X 129 [1, 1, 1, 1, 1, 1, 1, 1, 1, 0, 1, 0, 1, 1, 1, 1, 1, 1, 1, 1, 1, 1, 1, 1, 1, 1, 1, 1, 1, 1, 1, 1, 1, 1, 1, 1, 1, 1, 1, 0, 1, 0] _).trans (by kernel_rfl)
theorem impl_RunSession_eq a0 : impl_RunSession a0 =
  (impl_SplitLines a0).bind fun r1 =>
   cond (decide ((r1.length : Int) > 40))
    (some ((⟨#[]⟩ : ByteArray), (-1)))
    ((impl_NewConsole ).bind fun r2 =>
     impl_RunSession_l0 r1 r2 (⟨#[]⟩ : ByteArray) r1 (r1.length : Int) 0) :=
 (den_eq Γ X 130 rfl _).trans (by kernel_rfl)
theorem impl_RunSession_l0_eq x4 x5 x6 x17 x18 x19 : impl_RunSession_l0 x4 x5 x6 x17 x18 x19 =
  cond (decide (x19 < x18))
   (cond (inside x19 x17.length)
    ((impl_RunLine x5 (x17.getD x19.toNat ByteArray.empty)).bind fun r3 =>
     cond (!(r3.2.toList == (⟨#[]⟩ : ByteArray).toList))
      (cond (decide (r3.2.size + (⟨#[10]⟩ : ByteArray).size ≤ 9223372036854775807))
       (cond (decide (x6.size + (r3.2 ++ (⟨#[10]⟩ : ByteArray)).size ≤ 9223372036854775807))
        (impl_RunSession_l0 x4 r3.1 (x6 ++ (r3.2 ++ (⟨#[10]⟩ : ByteArray))) x17 x18 (w64 (x19 + 1)))
        (none))
       (none))
      (impl_RunSession_l0 x4 r3.1 x6 x17 x18 (w64 (x19 + 1))))
    (none))
   (some (x6, (x4.length : Int))) :=
 (at_eq Γ X 130 [1, 1, 1, 1, 1, 0, 1, 0] _).trans (by kernel_rfl)
theorem laws_FnConfirms_eq a0 : laws_FnConfirms a0 =
  cond (decide ((a0.length : Int) > 1048576))
   (some true)
   ((spec_MakeNum a0 1).bind fun r1 =>
    (impl_FormatInt (w64 (3 + (Int.tmod r1 5)))).bind fun r2 =>
     cond (decide ((⟨#[103, 114, 97, 112, 104, 32, 51, 58, 32, 48, 45, 49, 32, 48, 45, 49, 32, 48, 45, 50, 32, 49, 45, 50, 10, 99, 104, 105, 112, 115, 32, 49, 32, 48, 32, 45, 49, 10, 119, 105, 110, 10, 99, 104, 105, 112, 115, 32, 53, 32, 48, 32, 45, 53, 10, 119, 105, 110, 10, 99, 104, 105, 112, 115, 32, 48, 32]⟩ : ByteArray).size + r2.size ≤ 9223372036854775807))
      (cond (decide (((⟨#[103, 114, 97, 112, 104, 32, 51, 58, 32, 48, 45, 49, 32, 48, 45, 49, 32, 48, 45, 50, 32, 49, 45, 50, 10, 99, 104, 105, 112, 115, 32, 49, 32, 48, 32, 45, 49, 10, 119, 105, 110, 10, 99, 104, 105, 112, 115, 32, 53, 32, 48, 32, 45, 53, 10, 119, 105, 110, 10, 99, 104, 105, 112, 115, 32, 48, 32]⟩ : ByteArray) ++ r2).size + (⟨#[32, 48, 10, 114, 105, 101, 109, 97, 110, 110, 10, 99, 104, 105, 112, 115, 32, 49, 32, 49, 32, 48, 10, 114, 97, 110, 107, 10, 97, 108, 108, 10, 105, 100, 101, 110, 116, 105, 116, 121, 10, 116, 114, 101, 101, 115, 10, 114, 101, 99, 117, 114, 114, 101, 110, 116, 10, 103, 111, 110, 97, 108, 105, 116, 121, 10, 103, 97, 112, 115, 10, 116, 117, 116, 116, 101, 10, 119, 97, 108, 107, 32, 50]⟩ : ByteArray).size ≤ 9223372036854775807))
       ((impl_RunSession (((⟨#[103, 114, 97, 112, 104, 32, 51, 58, 32, 48, 45, 49, 32, 48, 45, 49, 32, 48, 45, 50, 32, 49, 45, 50, 10, 99, 104, 105, 112, 115, 32, 49, 32, 48, 32, 45, 49, 10, 119, 105, 110, 10, 99, 104, 105, 112, 115, 32, 53, 32, 48, 32, 45, 53, 10, 119, 105, 110, 10, 99, 104, 105, 112, 115, 32, 48, 32]⟩ : ByteArray) ++ r2) ++ (⟨#[32, 48, 10, 114, 105, 101, 109, 97, 110, 110, 10, 99, 104, 105, 112, 115, 32, 49, 32, 49, 32, 48, 10, 114, 97, 110, 107, 10, 97, 108, 108, 10, 105, 100, 101, 110, 116, 105, 116, 121, 10, 116, 114, 101, 101, 115, 10, 114, 101, 99, 117, 114, 114, 101, 110, 116, 10, 103, 111, 110, 97, 108, 105, 116, 121, 10, 103, 97, 112, 115, 10, 116, 117, 116, 116, 101, 10, 119, 97, 108, 107, 32, 50]⟩ : ByteArray))).bind fun r3 =>
        (impl_SplitLines r3.1).bind fun r4 =>
         cond (((r4.length : Int) : Int) == 17)
          (cond (inside 0 r4.length)
           (cond ((r4.getD 0 ByteArray.empty).toList == (⟨#[103, 101, 110, 117, 115, 32, 50, 32, 116, 114, 101, 101, 115, 32, 53, 32, 103, 114, 111, 117, 112, 32, 53]⟩ : ByteArray).toList)
            (cond (inside 1 r4.length)
             (cond ((r4.getD 1 ByteArray.empty).toList == (⟨#[111, 107]⟩ : ByteArray).toList)
              (cond (inside 2 r4.length)
               (cond ((r4.getD 2 ByteArray.empty).toList == (⟨#[108, 111, 115, 116, 58, 32, 48, 32, 48, 32, 48, 32, 49]⟩ : ByteArray).toList)
                (cond (inside 4 r4.length)
                 (cond ((r4.getD 4 ByteArray.empty).toList == (⟨#[119, 111, 110, 32, 98, 121, 32, 51, 32, 50, 32, 48]⟩ : ByteArray).toList)
                  (cond (inside 6 r4.length)
                   ((impl_FormatInt (w64 ((w64 (3 + (Int.tmod r1 5))) - 2))).bind fun r5 =>
                    cond (decide (r5.size + (⟨#[32, 45, 32, 45, 49, 32, 61, 32]⟩ : ByteArray).size ≤ 9223372036854775807))
                     (cond (decide ((r5 ++ (⟨#[32, 45, 32, 45, 49, 32, 61, 32]⟩ : ByteArray)).size + r2.size ≤ 9223372036854775807))
                      (cond (decide (((r5 ++ (⟨#[32, 45, 32, 45, 49, 32, 61, 32]⟩ : ByteArray)) ++ r2).size + (⟨#[32, 43, 32, 49, 32, 45, 32, 50]⟩ : ByteArray).size ≤ 9223372036854775807))
                       (cond ((r4.getD 6 ByteArray.empty).toList == (((r5 ++ (⟨#[32, 45, 32, 45, 49, 32, 61, 32]⟩ : ByteArray)) ++ r2) ++ (⟨#[32, 43, 32, 49, 32, 45, 32, 50]⟩ : ByteArray)).toList)
                        (cond (inside 8 r4.length)
                         (cond ((r4.getD 8 ByteArray.empty).toList == (⟨#[114, 97, 110, 107, 32, 49, 32, 98, 117, 116, 32, 110, 111, 116, 32, 48, 32, 49, 32, 49]⟩ : ByteArray).toList)
                          (cond (inside 9 r4.length)
                           (cond ((r4.getD 9 ByteArray.empty).toList == (⟨#[48, 32, 48, 32, 50, 59, 49, 32, 49, 32, 48]⟩ : ByteArray).toList)
                            (cond (inside 10 r4.length)
                             (cond ((r4.getD 10 ByteArray.empty).toList == (⟨#[48, 32, 50, 32, 49]⟩ : ByteArray).toList)
                              (cond (inside 11 r4.length)
                               (cond ((r4.getD 11 ByteArray.empty).toList == (⟨#[48, 32, 50, 59, 48, 32, 51, 59, 49, 32, 50, 59, 49, 32, 51, 59, 50, 32, 51]⟩ : ByteArray).toList)
                                (cond (inside 12 r4.length)
                                 (cond ((r4.getD 12 ByteArray.empty).toList == (⟨#[48, 32, 48, 32, 49, 59, 48, 32, 49, 32, 48, 59, 48, 32, 49, 32, 49, 59, 48, 32, 50, 32, 48, 59, 48, 32, 50, 32, 49]⟩ : ByteArray).toList)
                                  (cond (inside 13 r4.length)
                                   (cond ((r4.getD 13 ByteArray.empty).toList == (⟨#[50]⟩ : ByteArray).toList)
                                    (cond (inside 14 r4.length)
                                     (cond ((r4.getD 14 ByteArray.empty).toList == (⟨#[49, 32, 50]⟩ : ByteArray).toList)
                                      (cond (inside 15 r4.length)
                                       (cond ((r4.getD 15 ByteArray.empty).toList == (⟨#[121, 32, 43, 32, 121, 50, 32, 43, 32, 120, 32, 43, 32, 120, 121, 32, 43, 32, 120, 50]⟩ : ByteArray).toList)
                                        (cond (inside 16 r4.length)
                                         (some ((r4.getD 16 ByteArray.empty).toList == (⟨#[50]⟩ : ByteArray).toList))
                                         (none))
                                        (some false))
                                       (none))
                                      (some false))
                                     (none))
                                    (some false))
                                   (none))
                                  (some false))
                                 (none))
                                (some false))
                               (none))
                              (some false))
                             (none))
                            (some false))
                           (none))
                          (some false))
                         (none))
                        (some false))
                       (none))
                      (none))
                     (none))
                   (none))
                  (some false))
                 (none))
                (some false))
               (none))
              (some false))
             (none))
            (some false))
           (none))
          (some false))
       (none))
      (none)) :=
 (den_eq Γ X 131 rfl _).trans (by kernel_rfl)
theorem spec_l01Below_eq a0 a1 : spec_l01Below a0 a1 =
  cond (decide (a1 ≤ 0))
   (some (0, a0))
   (cond (decide (a1 ≤ 256))
    ((spec_l01Byte a0).bind fun r1 =>
     cond (decide (a1 = 0))
      (none)
      (some (Int.tmod r1.1 a1, r1.2)))
    ((spec_l01Byte a0).bind fun r2 =>
     (spec_l01Byte r2.2).bind fun r3 =>
      (spec_l01Byte r3.2).bind fun r4 =>
       (spec_l01Byte r4.2).bind fun r5 =>
        cond (decide (a1 = 0))
         (none)
         (some (Int.tmod (w64 ((w64 ((w64 ((w64 (r2.1 * 16777216)) + (w64 (r3.1 * 65536)))) + (w64 (r4.1 * 256)))) + r5.1)) a1, r5.2)))) :=
 (den_eq Γ X 132 rfl _).trans (by kernel_rfl)
theorem spec_l01Str_eq a0 a1 : spec_l01Str a0 a1 =
  (spec_l01Below a0 (a1.length : Int)).bind fun r1 =>
   cond (inside r1.1 a1.length)
    (some (a1.getD r1.1.toNat ByteArray.empty, r1.2))
    (none) :=
 (den_eq Γ X 133 rfl _).trans (by kernel_rfl)
theorem spec_l20Line_eq a0 : spec_l20Line a0 =
  (spec_l01Below a0 4).bind fun r1 =>
   cond ((r1.1 : Int) == 0)
    ((spec_l01Str r1.2 ([(⟨#[99, 104, 105, 112, 115, 32, 50, 32, 48, 32, 45, 49]⟩ : ByteArray), (⟨#[99, 104, 105, 112, 115, 32, 48, 32, 48, 32, 48, 32, 49]⟩ : ByteArray), (⟨#[99, 104, 105, 112, 115, 32, 51, 32, 49, 32, 49, 32, 45, 50]⟩ : ByteArray), (⟨#[99, 104, 105, 112, 115, 32, 49, 32, 45, 49, 32, 48]⟩ : ByteArray), (⟨#[102, 105, 114, 101, 32, 48]⟩ : ByteArray), (⟨#[102, 105, 114, 101, 32, 49, 32, 50]⟩ : ByteArray), (⟨#[102, 105, 114, 101, 32, 48, 32, 49, 32, 50, 32, 51]⟩ : ByteArray), (⟨#[115, 105, 110, 107, 32, 49]⟩ : ByteArray), (⟨#[115, 105, 110, 107, 32, 51]⟩ : ByteArray), (⟨#[119, 97, 108, 107, 32, 49]⟩ : ByteArray), (⟨#[119, 97, 108, 107, 32, 50]⟩ : ByteArray)] : List ByteArray)).bind fun r2 =>
     some (r2.1, r2.2))
    (cond ((r1.1 : Int) == 1)
     ((spec_l01Str r1.2 ([(⟨#[114, 101, 100, 117, 99, 101]⟩ : ByteArray), (⟨#[115, 101, 116, 116, 108, 101]⟩ : ByteArray), (⟨#[119, 105, 110]⟩ : ByteArray), (⟨#[114, 97, 110, 107]⟩ : ByteArray), (⟨#[114, 105, 101, 109, 97, 110, 110]⟩ : ByteArray), (⟨#[112, 105, 108, 101]⟩ : ByteArray), (⟨#[97, 108, 108]⟩ : ByteArray), (⟨#[105, 100, 101, 110, 116, 105, 116, 121]⟩ : ByteArray), (⟨#[103, 97, 112, 115]⟩ : ByteArray), (⟨#[103, 111, 110, 97, 108, 105, 116, 121]⟩ : ByteArray), (⟨#[116, 117, 116, 116, 101]⟩ : ByteArray)] : List ByteArray)).bind fun r3 =>
      some (r3.1, r3.2))
     (cond ((r1.1 : Int) == 2)
      ((spec_l01Str r1.2 ([(⟨#[116, 114, 101, 101, 115]⟩ : ByteArray), (⟨#[114, 101, 99, 117, 114, 114, 101, 110, 116]⟩ : ByteArray), (⟨#[112, 97, 114, 107, 105, 110, 103]⟩ : ByteArray), (⟨#[103, 114, 97, 112, 104, 32, 51, 58, 32, 48, 45, 49, 32, 48, 45, 50, 32, 49, 45, 50]⟩ : ByteArray), (⟨#[103, 114, 97, 112, 104, 32, 52, 58, 32, 48, 45, 49, 32, 48, 45, 50, 32, 48, 45, 51, 32, 49, 45, 50, 32, 49, 45, 51, 32, 50, 45, 51]⟩ : ByteArray), (⟨#[103, 114, 97, 112, 104, 32, 50, 58, 32, 48, 45, 49, 32, 48, 45, 49, 32, 48, 45, 49]⟩ : ByteArray), (⟨#[103, 114, 97, 112, 104, 32, 49, 58]⟩ : ByteArray)] : List ByteArray)).bind fun r4 =>
       some (r4.1, r4.2))
      ((spec_l01Str r1.2 ([(⟨#[]⟩ : ByteArray), (⟨#[35, 32, 110, 111, 116, 101]⟩ : ByteArray), (⟨#[119, 104, 97, 116]⟩ : ByteArray), (⟨#[103, 114, 97, 112, 104, 32, 50, 58, 32, 49, 45, 48]⟩ : ByteArray), (⟨#[103, 114, 97, 112, 104, 32, 51, 58, 32, 48, 45, 49]⟩ : ByteArray), (⟨#[99, 104, 105, 112, 115]⟩ : ByteArray), (⟨#[99, 104, 105, 112, 115, 32, 120]⟩ : ByteArray), (⟨#[102, 105, 114, 101, 32, 57]⟩ : ByteArray), (⟨#[102, 105, 114, 101, 32, 48, 32, 48]⟩ : ByteArray), (⟨#[115, 105, 110, 107, 32, 57]⟩ : ByteArray), (⟨#[115, 105, 110, 107, 32, 48, 32, 49]⟩ : ByteArray), (⟨#[119, 97, 108, 107]⟩ : ByteArray), (⟨#[119, 105, 110, 32, 49]⟩ : ByteArray), (⟨#[119, 97, 108, 107, 32, 45, 49]⟩ : ByteArray), (⟨#[103, 114, 97, 112, 104]⟩ : ByteArray)] : List ByteArray)).bind fun r5 =>
       some (r5.1, r5.2)))) :=
 (den_eq Γ X 134 rfl _).trans (by kernel_rfl)
theorem spec_l20Script_eq a0 a1 : spec_l20Script a0 a1 =
  (spec_l01Str a0 ([(⟨#[103, 114, 97, 112, 104, 32, 51, 58, 32, 48, 45, 49, 32, 48, 45, 49, 32, 48, 45, 50, 32, 49, 45, 50]⟩ : ByteArray), (⟨#[103, 114, 97, 112, 104, 32, 52, 58, 32, 48, 45, 49, 32, 48, 45, 51, 32, 49, 45, 50, 32, 50, 45, 51]⟩ : ByteArray), (⟨#[103, 114, 97, 112, 104, 32, 51, 58, 32, 48, 45, 49, 32, 49, 45, 50]⟩ : ByteArray), (⟨#[103, 114, 97, 112, 104, 32, 52, 58, 32, 48, 45, 49, 32, 48, 45, 50, 32, 48, 45, 51, 32, 49, 45, 50, 32, 49, 45, 51, 32, 50, 45, 51]⟩ : ByteArray)] : List ByteArray)).bind fun r1 =>
   (spec_l01Below r1.2 a1).bind fun r2 =>
    spec_l20Script_l0 r2.2 ([r1.1] : List ByteArray) (w64 (1 + r2.1)) :=
 (den_eq Γ X 135 rfl _).trans (by kernel_rfl)
theorem spec_l20Script_l0_eq x0 x5 x6 : spec_l20Script_l0 x0 x5 x6 =
  cond (decide (x6 > 0))
   ((spec_l20Line x0).bind fun r3 =>
    cond (decide (x5.length + ([r3.1] : List ByteArray).length ≤ room))
     (spec_l20Script_l0 r3.2 (x5 ++ ([r3.1] : List ByteArray)) (w64 (x6 - 1)))
     (none))
   (some (x5, x0)) :=
 (at_eq Γ X 135 [1, 1, 0, 1, 0] _).trans (by kernel_rfl)
theorem spec_MakeLines_eq a0 : spec_MakeLines a0 =
  (spec_l01New a0).bind fun r1 =>
   (spec_l20Script r1 8).bind fun r2 =>
    some r2.1 :=
 (den_eq Γ X 136 rfl _).trans (by kernel_rfl)
theorem laws_FnConsole_eq a0 : laws_FnConsole a0 =
  cond (decide ((a0.length : Int) > 1048576))
   (some true)
   ((spec_MakeLines a0).bind fun r1 =>
    (impl_NewConsole ).bind fun r2 =>
     laws_FnConsole_l0 r1 r2 (⟨#[]⟩ : ByteArray) (r1.length : Int) 0) :=
 (den_eq Γ X 137 rfl _).trans (by kernel_rfl)
theorem laws_FnConsole_l0_eq x3 x4 x5 x19 x20 : laws_FnConsole_l0 x3 x4 x5 x19 x20 =
  cond (decide (x20 < x19))
   (cond (inside x20 x3.length)
    ((impl_RunLine x4 (x3.getD x20.toNat ByteArray.empty)).bind fun r3 =>
     cond (!(r3.2.toList == (⟨#[]⟩ : ByteArray).toList))
      (cond (decide (x5.size + r3.2.size ≤ 9223372036854775807))
       (cond (decide ((x5 ++ r3.2).size + (⟨#[10]⟩ : ByteArray).size ≤ 9223372036854775807))
        (laws_FnConsole_l0 x3 r3.1 ((x5 ++ r3.2) ++ (⟨#[10]⟩ : ByteArray)) x19 (w64 (x20 + 1)))
        (none))
       (none))
      (laws_FnConsole_l0 x3 r3.1 x5 x19 (w64 (x20 + 1))))
    (none))
   ((impl_Join x3 (⟨#[10]⟩ : ByteArray)).bind fun r4 =>
    (impl_RunSession r4).bind fun r5 =>
     cond (!(x5.toList == (⟨#[]⟩ : ByteArray).toList))
      (cond (r5.1.toList == x5.toList)
       (cond (decide (r5.2 ≥ w64 ((x3.length : Int) - 1)))
        (some (decide (r5.2 ≤ (x3.length : Int))))
        (some false))
       (some false))
      (some false)) :=
 (at_eq Γ X 137 [1, 1, 1, 1, 1, 0, 1, 0] _).trans (by kernel_rfl)
end Go.Proofs.YthhogfhffpfkdaaGreatDoor.D

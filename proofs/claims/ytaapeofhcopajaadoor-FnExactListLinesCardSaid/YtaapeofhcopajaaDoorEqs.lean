/-
  Each function and each loop by its equation: what the evaluator tells of it, for all arguments.
-/
import Derived.Test.YtaapeofhcopajaaDoorCtx
import Derived.KernelRfl
namespace Go.Proofs.YtaapeofhcopajaaDoor.D
open Go Go.Den
set_option linter.unusedVariables false
set_option maxRecDepth 100000
theorem laws_toIntS_eq (a0 : (List Int)) : laws_toIntS a0 =
    cond (decide (0 ≤ (a0.length : Int)) && decide ((a0.length : Int) ≤ (room : Int)))
      (laws_toIntS_l0 a0 (List.replicate (a0.length : Int).toNat 0) 0)
      (none) :=
  (den_eq Γ X 0 rfl _).trans (by kernel_rfl)
theorem laws_toIntS_l0_eq (x0 : (List Int)) (x3 : (List Int)) (x4 : Int) : laws_toIntS_l0 x0 x3 x4 =
    cond (decide (x4 < (x0.length : Int)))
      (cond (inside x4 x0.length)
        (cond (inside x4 x3.length)
          (laws_toIntS_l0 x0 (x3.set x4.toNat (x0.getD x4.toNat 0)) (w64 (x4 + 1)))
          (none))
        (none))
      (some x3) :=
  (at_eq Γ X 0 [1, 1, 0, 1, 0] _).trans (by kernel_rfl)
theorem spec_FormatInt_eq (a0 : Int) : spec_FormatInt a0 =
    cond (decide (a0 < 0))
      (cond (((w64 (Int.tdiv a0 10)) : Int) == 0)
        (cond (decide ((⟨#[45]⟩ : ByteArray).size + (toStr ([IntKind.wrap .u8 (w64 (48 - a0))] : List Int)).size ≤ 9223372036854775807))
          (some ((⟨#[45]⟩ : ByteArray) ++ (toStr ([IntKind.wrap .u8 (w64 (48 - a0))] : List Int))))
          (none))
        ((spec_FormatInt (w64 (Int.tdiv a0 10))).bind fun r1 =>
          cond (decide (r1.size + (toStr ([IntKind.wrap .u8 (w64 (48 - (Int.tmod a0 10)))] : List Int)).size ≤ 9223372036854775807))
            (some (r1 ++ (toStr ([IntKind.wrap .u8 (w64 (48 - (Int.tmod a0 10)))] : List Int))))
            (none)))
      (spec_FormatInt_l0 a0 (⟨#[]⟩ : ByteArray)) :=
  (den_eq Γ X 1 rfl _).trans (by kernel_rfl)
theorem spec_FormatInt_l0_eq (x0 : Int) (x3 : ByteArray) : spec_FormatInt_l0 x0 x3 =
    cond (decide (x0 > 9))
      (cond (decide ((toStr ([IntKind.wrap .u8 (w64 (48 + (Int.tmod x0 10)))] : List Int)).size + x3.size ≤ 9223372036854775807))
        (spec_FormatInt_l0 (w64 (Int.tdiv x0 10)) ((toStr ([IntKind.wrap .u8 (w64 (48 + (Int.tmod x0 10)))] : List Int)) ++ x3))
        (none))
      (cond (decide ((toStr ([IntKind.wrap .u8 (w64 (48 + x0))] : List Int)).size + x3.size ≤ 9223372036854775807))
        (some ((toStr ([IntKind.wrap .u8 (w64 (48 + x0))] : List Int)) ++ x3))
        (none)) :=
  (at_eq Γ X 1 [1, 1, 1, 0, 0] _).trans (by kernel_rfl)
theorem spec_Join_eq (a0 : (List ByteArray)) (a1 : ByteArray) : spec_Join a0 a1 =
    spec_Join_l0 a1 (⟨#[]⟩ : ByteArray) a0 (a0.length : Int) 0 :=
  (den_eq Γ X 2 rfl _).trans (by kernel_rfl)
theorem spec_Join_l0_eq (x1 : ByteArray) (x5 : ByteArray) (x8 : (List ByteArray)) (x9 : Int) (x10 : Int) : spec_Join_l0 x1 x5 x8 x9 x10 =
    cond (decide (x10 < x9))
      (cond (inside x10 x8.length)
        (cond (decide (x10 > 0))
          (cond (decide (x5.size + x1.size ≤ 9223372036854775807))
            (cond (decide ((x5 ++ x1).size + (x8.getD x10.toNat ByteArray.empty).size ≤ 9223372036854775807))
              (spec_Join_l0 x1 ((x5 ++ x1) ++ (x8.getD x10.toNat ByteArray.empty)) x8 x9 (w64 (x10 + 1)))
              (none))
            (none))
          (cond (decide (x5.size + (x8.getD x10.toNat ByteArray.empty).size ≤ 9223372036854775807))
            (spec_Join_l0 x1 (x5 ++ (x8.getD x10.toNat ByteArray.empty)) x8 x9 (w64 (x10 + 1)))
            (none)))
        (none))
      (some x5) :=
  (at_eq Γ X 2 [1, 1, 0, 1, 0] _).trans (by kernel_rfl)
theorem spec_FormatDivisor_eq (a0 : (List Int)) : spec_FormatDivisor a0 =
    spec_FormatDivisor_l0 ([] : List ByteArray) a0 (a0.length : Int) 0 :=
  (den_eq Γ X 3 rfl _).trans (by kernel_rfl)
theorem spec_FormatDivisor_l0_eq (x3 : (List ByteArray)) (x7 : (List Int)) (x8 : Int) (x9 : Int) : spec_FormatDivisor_l0 x3 x7 x8 x9 =
    cond (decide (x9 < x8))
      (cond (inside x9 x7.length)
        ((spec_FormatInt (x7.getD x9.toNat 0)).bind fun r1 =>
          cond (decide (x3.length + ([r1] : List ByteArray).length ≤ room))
            (spec_FormatDivisor_l0 (x3 ++ ([r1] : List ByteArray)) x7 x8 (w64 (x9 + 1)))
            (none))
        (none))
      (cond (((x3.length : Int) : Int) == 0)
        (some (⟨#[110, 111, 110, 101]⟩ : ByteArray))
        ((spec_Join x3 (⟨#[32]⟩ : ByteArray)).bind fun r2 =>
          some r2)) :=
  (at_eq Γ X 3 [1, 1, 0, 1, 0] _).trans (by kernel_rfl)
theorem strconv_Itoa_eq (a0 : Int) : strconv_Itoa a0 = Lb.itoa a0 := den_ext Γ X 4 rfl _
theorem impl_FormatInt_eq (a0 : Int) : impl_FormatInt a0 =
    (strconv_Itoa a0).bind fun r1 =>
      some r1 :=
  (den_eq Γ X 5 rfl _).trans (by kernel_rfl)
theorem strings_Join_eq (a0 : (List ByteArray)) (a1 : ByteArray) : strings_Join a0 a1 = Lb.join a0 a1 := den_ext Γ X 6 rfl _
theorem impl_Join_eq (a0 : (List ByteArray)) (a1 : ByteArray) : impl_Join a0 a1 =
    (strings_Join a0 a1).bind fun r1 =>
      some r1 :=
  (den_eq Γ X 7 rfl _).trans (by kernel_rfl)
theorem impl_FormatDivisor_eq (a0 : (List Int)) : impl_FormatDivisor a0 =
    cond (((a0.length : Int) : Int) == 0)
      (some (⟨#[110, 111, 110, 101]⟩ : ByteArray))
      (impl_FormatDivisor_l0 ([] : List ByteArray) a0 (a0.length : Int) 0) :=
  (den_eq Γ X 8 rfl _).trans (by kernel_rfl)
theorem impl_FormatDivisor_l0_eq (x3 : (List ByteArray)) (x9 : (List Int)) (x10 : Int) (x11 : Int) : impl_FormatDivisor_l0 x3 x9 x10 x11 =
    cond (decide (x11 < x10))
      (cond (inside x11 x9.length)
        ((impl_FormatInt (x9.getD x11.toNat 0)).bind fun r1 =>
          cond (decide (x3.length + ([r1] : List ByteArray).length ≤ room))
            (impl_FormatDivisor_l0 (x3 ++ ([r1] : List ByteArray)) x9 x10 (w64 (x11 + 1)))
            (none))
        (none))
      ((impl_Join x3 (⟨#[32]⟩ : ByteArray)).bind fun r2 =>
        some r2) :=
  (at_eq Γ X 8 [1, 1, 1, 0, 1, 0] _).trans (by kernel_rfl)
theorem laws_eqIntS_eq (a0 : (List Int)) (a1 : (List Int)) : laws_eqIntS a0 a1 =
    cond (((a0.length : Int) : Int) != (a1.length : Int))
      (some false)
      (laws_eqIntS_l0 a0 a1 0) :=
  (den_eq Γ X 9 rfl _).trans (by kernel_rfl)
theorem laws_eqIntS_l0_eq (x0 : (List Int)) (x1 : (List Int)) (x5 : Int) : laws_eqIntS_l0 x0 x1 x5 =
    cond (decide (x5 < (x0.length : Int)))
      (cond (inside x5 x0.length)
        (cond (inside x5 x1.length)
          (cond (((x0.getD x5.toNat 0) : Int) != (x1.getD x5.toNat 0))
            (some false)
            (laws_eqIntS_l0 x0 x1 (w64 (x5 + 1))))
          (none))
        (none))
      (some true) :=
  (at_eq Γ X 9 [1, 1, 0, 1, 0] _).trans (by kernel_rfl)
theorem laws_FnExactFormatDivisor_eq (a0 : (List Int)) : laws_FnExactFormatDivisor a0 =
    cond (decide ((a0.length : Int) > 1048576))
      (some true)
      ((laws_toIntS a0).bind fun r1 =>
        (spec_FormatDivisor r1).bind fun r2 =>
          (laws_toIntS a0).bind fun r3 =>
            (impl_FormatDivisor r3).bind fun r4 =>
              cond (!(r4.toList == r2.toList))
                (some false)
                ((laws_toIntS a0).bind fun r5 =>
                  (laws_eqIntS r3 r5).bind fun r6 =>
                    cond (!r6)
                      (some false)
                      (some true))) :=
  (den_eq Γ X 10 rfl _).trans (by kernel_rfl)
theorem laws_szIntS_eq (a0 : (List Int)) (a1 : Int) : laws_szIntS a0 a1 =
    cond (decide (w64 (a1 - (a0.length : Int)) < 0))
      (some (-1))
      (some (w64 (a1 - (a0.length : Int)))) :=
  (den_eq Γ X 11 rfl _).trans (by kernel_rfl)
theorem laws_szMorphism_eq (a0 : ((List Int) × (List Int))) (a1 : Int) : laws_szMorphism a0 a1 =
    (laws_szIntS a0.1 a1).bind fun r1 =>
      cond (decide (r1 < 0))
        (some (-1))
        ((laws_szIntS a0.2 r1).bind fun r2 =>
          cond (decide (r2 < 0))
            (some (-1))
            (some r2)) :=
  (den_eq Γ X 12 rfl _).trans (by kernel_rfl)
theorem laws_toMorphism_eq (a0 : ((List Int) × (List Int))) : laws_toMorphism a0 =
    (laws_toIntS a0.1).bind fun r1 =>
      (laws_toIntS a0.2).bind fun r2 =>
        some (r1, r2) :=
  (den_eq Γ X 13 rfl _).trans (by kernel_rfl)
theorem spec_FormatMorphism_eq (a0 : ((List Int) × (List Int))) : spec_FormatMorphism a0 =
    (spec_FormatDivisor a0.1).bind fun r1 =>
      cond (decide (r1.size + (⟨#[32, 124, 32]⟩ : ByteArray).size ≤ 9223372036854775807))
        ((spec_FormatDivisor a0.2).bind fun r2 =>
          cond (decide ((r1 ++ (⟨#[32, 124, 32]⟩ : ByteArray)).size + r2.size ≤ 9223372036854775807))
            (some ((r1 ++ (⟨#[32, 124, 32]⟩ : ByteArray)) ++ r2))
            (none))
        (none) :=
  (den_eq Γ X 14 rfl _).trans (by kernel_rfl)
theorem impl_FormatMorphism_eq (a0 : ((List Int) × (List Int))) : impl_FormatMorphism a0 =
    (impl_FormatDivisor a0.1).bind fun r1 =>
      cond (decide (r1.size + (⟨#[32, 124, 32]⟩ : ByteArray).size ≤ 9223372036854775807))
        ((impl_FormatDivisor a0.2).bind fun r2 =>
          cond (decide ((r1 ++ (⟨#[32, 124, 32]⟩ : ByteArray)).size + r2.size ≤ 9223372036854775807))
            (some ((r1 ++ (⟨#[32, 124, 32]⟩ : ByteArray)) ++ r2))
            (none))
        (none) :=
  (den_eq Γ X 15 rfl _).trans (by kernel_rfl)
theorem laws_eqMorphism_eq (a0 : ((List Int) × (List Int))) (a1 : ((List Int) × (List Int))) : laws_eqMorphism a0 a1 =
    (laws_eqIntS a0.1 a1.1).bind fun r1 =>
      cond (!r1)
        (some false)
        ((laws_eqIntS a0.2 a1.2).bind fun r2 =>
          cond (!r2)
            (some false)
            (some true)) :=
  (den_eq Γ X 16 rfl _).trans (by kernel_rfl)
theorem laws_FnExactFormatMorphism_eq (a0 : ((List Int) × (List Int))) : laws_FnExactFormatMorphism a0 =
    (laws_szMorphism a0 1048576).bind fun r1 =>
      cond (decide (r1 < 0))
        (some true)
        ((laws_toMorphism a0).bind fun r2 =>
          (spec_FormatMorphism r2).bind fun r3 =>
            (laws_toMorphism a0).bind fun r4 =>
              (impl_FormatMorphism r4).bind fun r5 =>
                cond (!(r5.toList == r3.toList))
                  (some false)
                  ((laws_toMorphism a0).bind fun r6 =>
                    (laws_eqMorphism r4 r6).bind fun r7 =>
                      cond (!r7)
                        (some false)
                        (some true))) :=
  (den_eq Γ X 17 rfl _).trans (by kernel_rfl)
theorem laws_szIntSS_eq (a0 : (List (List Int))) (a1 : Int) : laws_szIntSS a0 a1 =
    cond (decide (w64 (a1 - (a0.length : Int)) < 0))
      (some (-1))
      (laws_szIntSS_l0 a0 (w64 (a1 - (a0.length : Int))) 0) :=
  (den_eq Γ X 18 rfl _).trans (by kernel_rfl)
theorem laws_szIntSS_l0_eq (x0 : (List (List Int))) (x1 : Int) (x5 : Int) : laws_szIntSS_l0 x0 x1 x5 =
    cond (decide (x5 < (x0.length : Int)))
      (cond (inside x5 x0.length)
        ((laws_szIntS (x0.getD x5.toNat ([] : List Int)) x1).bind fun r1 =>
          cond (decide (r1 < 0))
            (some (-1))
            (laws_szIntSS_l0 x0 r1 (w64 (x5 + 1))))
        (none))
      (some x1) :=
  (at_eq Γ X 18 [1, 1, 1, 0, 1, 0] _).trans (by kernel_rfl)
theorem laws_toIntSS_eq (a0 : (List (List Int))) : laws_toIntSS a0 =
    cond (decide (0 ≤ (a0.length : Int)) && decide ((a0.length : Int) ≤ (room : Int)))
      (laws_toIntSS_l0 a0 (List.replicate (a0.length : Int).toNat ([] : List Int)) 0)
      (none) :=
  (den_eq Γ X 19 rfl _).trans (by kernel_rfl)
theorem laws_toIntSS_l0_eq (x0 : (List (List Int))) (x3 : (List (List Int))) (x4 : Int) : laws_toIntSS_l0 x0 x3 x4 =
    cond (decide (x4 < (x0.length : Int)))
      (cond (inside x4 x0.length)
        ((laws_toIntS (x0.getD x4.toNat ([] : List Int))).bind fun r1 =>
          cond (inside x4 x3.length)
            (laws_toIntSS_l0 x0 (x3.set x4.toNat r1) (w64 (x4 + 1)))
            (none))
        (none))
      (some x3) :=
  (at_eq Γ X 19 [1, 1, 0, 1, 0] _).trans (by kernel_rfl)
theorem spec_l18Power_eq (a0 : ByteArray) (a1 : Int) : spec_l18Power a0 a1 =
    cond ((a1 : Int) == 0)
      (some (⟨#[]⟩ : ByteArray))
      (cond ((a1 : Int) == 1)
        (some a0)
        ((spec_FormatInt a1).bind fun r1 =>
          cond (decide (a0.size + r1.size ≤ 9223372036854775807))
            (some (a0 ++ r1))
            (none))) :=
  (den_eq Γ X 20 rfl _).trans (by kernel_rfl)
theorem spec_FormatPolynomial_eq (a0 : (List (List Int))) : spec_FormatPolynomial a0 =
    spec_FormatPolynomial_l0 ([] : List ByteArray) a0 (a0.length : Int) 0 :=
  (den_eq Γ X 21 rfl _).trans (by kernel_rfl)
theorem spec_FormatPolynomial_l0_eq (x3 : (List ByteArray)) (x10 : (List (List Int))) (x11 : Int) (x12 : Int) : spec_FormatPolynomial_l0 x3 x10 x11 x12 =
    cond (decide (x12 < x11))
      (cond (inside x12 x10.length)
        (spec_FormatPolynomial_l2 x3 x12 x10 x11 x12 (x10.getD x12.toNat ([] : List Int)) ((x10.getD x12.toNat ([] : List Int)).length : Int) 0)
        (none))
      (cond (((x3.length : Int) : Int) == 0)
        (some (⟨#[48]⟩ : ByteArray))
        ((spec_Join x3 (⟨#[32, 43, 32]⟩ : ByteArray)).bind fun r5 =>
          some r5)) :=
  (at_eq Γ X 21 [1, 1, 0, 1, 0] _).trans (by kernel_rfl)
theorem spec_FormatPolynomial_l2_eq (x3 : (List ByteArray)) (x4 : Int) (x10 : (List (List Int))) (x11 : Int) (x12 : Int) (x17 : (List Int)) (x18 : Int) (x19 : Int) : spec_FormatPolynomial_l2 x3 x4 x10 x11 x12 x17 x18 x19 =
    cond (decide (x19 < x18))
      (cond (inside x19 x17.length)
        ((spec_l18Power (⟨#[120]⟩ : ByteArray) x4).bind fun r1 =>
          (spec_l18Power (⟨#[121]⟩ : ByteArray) x19).bind fun r2 =>
            cond (decide (r1.size + r2.size ≤ 9223372036854775807))
              (cond (((x17.getD x19.toNat 0) : Int) != 0)
                (cond (((x17.getD x19.toNat 0) : Int) != 1)
                  ((spec_FormatInt (x17.getD x19.toNat 0)).bind fun r3 =>
                    cond (decide (r3.size + (r1 ++ r2).size ≤ 9223372036854775807))
                      (cond (((x17.getD x19.toNat 0) : Int) != 0)
                        (cond (decide (x3.length + ([r3 ++ (r1 ++ r2)] : List ByteArray).length ≤ room))
                          (spec_FormatPolynomial_l2 (x3 ++ ([r3 ++ (r1 ++ r2)] : List ByteArray)) x4 x10 x11 x12 x17 x18 (w64 (x19 + 1)))
                          (none))
                        (spec_FormatPolynomial_l2 x3 x4 x10 x11 x12 x17 x18 (w64 (x19 + 1))))
                      (none))
                  (cond ((r1 ++ r2).toList == (⟨#[]⟩ : ByteArray).toList)
                    ((spec_FormatInt (x17.getD x19.toNat 0)).bind fun r4 =>
                      cond (decide (r4.size + (r1 ++ r2).size ≤ 9223372036854775807))
                        (cond (((x17.getD x19.toNat 0) : Int) != 0)
                          (cond (decide (x3.length + ([r4 ++ (r1 ++ r2)] : List ByteArray).length ≤ room))
                            (spec_FormatPolynomial_l2 (x3 ++ ([r4 ++ (r1 ++ r2)] : List ByteArray)) x4 x10 x11 x12 x17 x18 (w64 (x19 + 1)))
                            (none))
                          (spec_FormatPolynomial_l2 x3 x4 x10 x11 x12 x17 x18 (w64 (x19 + 1))))
                        (none))
                    (cond (((x17.getD x19.toNat 0) : Int) != 0)
                      (cond (decide (x3.length + ([r1 ++ r2] : List ByteArray).length ≤ room))
                        (spec_FormatPolynomial_l2 (x3 ++ ([r1 ++ r2] : List ByteArray)) x4 x10 x11 x12 x17 x18 (w64 (x19 + 1)))
                        (none))
                      (spec_FormatPolynomial_l2 x3 x4 x10 x11 x12 x17 x18 (w64 (x19 + 1))))))
                (cond (((x17.getD x19.toNat 0) : Int) != 0)
                  (cond (decide (x3.length + ([r1 ++ r2] : List ByteArray).length ≤ room))
                    (spec_FormatPolynomial_l2 (x3 ++ ([r1 ++ r2] : List ByteArray)) x4 x10 x11 x12 x17 x18 (w64 (x19 + 1)))
                    (none))
                  (spec_FormatPolynomial_l2 x3 x4 x10 x11 x12 x17 x18 (w64 (x19 + 1)))))
              (none))
        (none))
      (spec_FormatPolynomial_l0 x3 x10 x11 (w64 (x12 + 1))) :=
  (at_eq Γ X 21 [1, 1, 0, 1, 0, 0, 1, 1, 0, 0, 1, 1, 0] _).trans (by kernel_rfl)
theorem impl_powerText_eq (a0 : ByteArray) (a1 : Int) : impl_powerText a0 a1 =
    cond ((a1 : Int) == 0)
      (some (⟨#[]⟩ : ByteArray))
      (cond ((a1 : Int) == 1)
        (some a0)
        ((impl_FormatInt a1).bind fun r1 =>
          cond (decide (a0.size + r1.size ≤ 9223372036854775807))
            (some (a0 ++ r1))
            (none))) :=
  (den_eq Γ X 22 rfl _).trans (by kernel_rfl)
theorem impl_FormatPolynomial_eq (a0 : (List (List Int))) : impl_FormatPolynomial a0 =
    impl_FormatPolynomial_l0 ([] : List ByteArray) a0 (a0.length : Int) 0 :=
  (den_eq Γ X 23 rfl _).trans (by kernel_rfl)
theorem impl_FormatPolynomial_l0_eq (x3 : (List ByteArray)) (x9 : (List (List Int))) (x10 : Int) (x11 : Int) : impl_FormatPolynomial_l0 x3 x9 x10 x11 =
    cond (decide (x11 < x10))
      (cond (inside x11 x9.length)
        (impl_FormatPolynomial_l2 x3 x11 x9 x10 x11 (x9.getD x11.toNat ([] : List Int)) ((x9.getD x11.toNat ([] : List Int)).length : Int) 0)
        (none))
      (cond (((x3.length : Int) : Int) == 0)
        (some (⟨#[48]⟩ : ByteArray))
        ((impl_Join x3 (⟨#[32, 43, 32]⟩ : ByteArray)).bind fun r5 =>
          some r5)) :=
  (at_eq Γ X 23 [1, 1, 0, 1, 0] _).trans (by kernel_rfl)
theorem impl_FormatPolynomial_l2_eq (x3 : (List ByteArray)) (x4 : Int) (x9 : (List (List Int))) (x10 : Int) (x11 : Int) (x16 : (List Int)) (x17 : Int) (x18 : Int) : impl_FormatPolynomial_l2 x3 x4 x9 x10 x11 x16 x17 x18 =
    cond (decide (x18 < x17))
      (cond (inside x18 x16.length)
        (cond (((x16.getD x18.toNat 0) : Int) == 0)
          (impl_FormatPolynomial_l2 x3 x4 x9 x10 x11 x16 x17 (w64 (x18 + 1)))
          ((impl_powerText (⟨#[120]⟩ : ByteArray) x4).bind fun r1 =>
            (impl_powerText (⟨#[121]⟩ : ByteArray) x18).bind fun r2 =>
              cond (decide (r1.size + r2.size ≤ 9223372036854775807))
                (cond (((x16.getD x18.toNat 0) : Int) == 1)
                  (cond (!((r1 ++ r2).toList == (⟨#[]⟩ : ByteArray).toList))
                    (cond (decide (x3.length + ([r1 ++ r2] : List ByteArray).length ≤ room))
                      (impl_FormatPolynomial_l2 (x3 ++ ([r1 ++ r2] : List ByteArray)) x4 x9 x10 x11 x16 x17 (w64 (x18 + 1)))
                      (none))
                    ((impl_FormatInt (x16.getD x18.toNat 0)).bind fun r3 =>
                      cond (decide (r3.size + (r1 ++ r2).size ≤ 9223372036854775807))
                        (cond (decide (x3.length + ([r3 ++ (r1 ++ r2)] : List ByteArray).length ≤ room))
                          (impl_FormatPolynomial_l2 (x3 ++ ([r3 ++ (r1 ++ r2)] : List ByteArray)) x4 x9 x10 x11 x16 x17 (w64 (x18 + 1)))
                          (none))
                        (none)))
                  ((impl_FormatInt (x16.getD x18.toNat 0)).bind fun r4 =>
                    cond (decide (r4.size + (r1 ++ r2).size ≤ 9223372036854775807))
                      (cond (decide (x3.length + ([r4 ++ (r1 ++ r2)] : List ByteArray).length ≤ room))
                        (impl_FormatPolynomial_l2 (x3 ++ ([r4 ++ (r1 ++ r2)] : List ByteArray)) x4 x9 x10 x11 x16 x17 (w64 (x18 + 1)))
                        (none))
                      (none)))
                (none)))
        (none))
      (impl_FormatPolynomial_l0 x3 x9 x10 (w64 (x11 + 1))) :=
  (at_eq Γ X 23 [1, 1, 0, 1, 0, 0, 1, 1, 0, 0, 1, 1, 0] _).trans (by kernel_rfl)
theorem laws_eqIntSS_eq (a0 : (List (List Int))) (a1 : (List (List Int))) : laws_eqIntSS a0 a1 =
    cond (((a0.length : Int) : Int) != (a1.length : Int))
      (some false)
      (laws_eqIntSS_l0 a0 a1 0) :=
  (den_eq Γ X 24 rfl _).trans (by kernel_rfl)
theorem laws_eqIntSS_l0_eq (x0 : (List (List Int))) (x1 : (List (List Int))) (x5 : Int) : laws_eqIntSS_l0 x0 x1 x5 =
    cond (decide (x5 < (x0.length : Int)))
      (cond (inside x5 x0.length)
        (cond (inside x5 x1.length)
          ((laws_eqIntS (x0.getD x5.toNat ([] : List Int)) (x1.getD x5.toNat ([] : List Int))).bind fun r1 =>
            cond (!r1)
              (some false)
              (laws_eqIntSS_l0 x0 x1 (w64 (x5 + 1))))
          (none))
        (none))
      (some true) :=
  (at_eq Γ X 24 [1, 1, 0, 1, 0] _).trans (by kernel_rfl)
theorem laws_FnExactFormatPolynomial_eq (a0 : (List (List Int))) : laws_FnExactFormatPolynomial a0 =
    (laws_szIntSS a0 1048576).bind fun r1 =>
      cond (decide (r1 < 0))
        (some true)
        ((laws_toIntSS a0).bind fun r2 =>
          (spec_FormatPolynomial r2).bind fun r3 =>
            (laws_toIntSS a0).bind fun r4 =>
              (impl_FormatPolynomial r4).bind fun r5 =>
                cond (!(r5.toList == r3.toList))
                  (some false)
                  ((laws_toIntSS a0).bind fun r6 =>
                    (laws_eqIntSS r4 r6).bind fun r7 =>
                      cond (!r7)
                        (some false)
                        (some true))) :=
  (den_eq Γ X 25 rfl _).trans (by kernel_rfl)
theorem spec_ListLines_eq (a0 : (List (List Int))) : spec_ListLines a0 =
    spec_ListLines_l0 ([] : List ByteArray) a0 (a0.length : Int) 0 :=
  (den_eq Γ X 26 rfl _).trans (by kernel_rfl)
theorem spec_ListLines_l0_eq (x3 : (List ByteArray)) (x7 : (List (List Int))) (x8 : Int) (x9 : Int) : spec_ListLines_l0 x3 x7 x8 x9 =
    cond (decide (x9 < x8))
      (cond (inside x9 x7.length)
        ((spec_FormatDivisor (x7.getD x9.toNat ([] : List Int))).bind fun r1 =>
          cond (decide (x3.length + ([r1] : List ByteArray).length ≤ room))
            (spec_ListLines_l0 (x3 ++ ([r1] : List ByteArray)) x7 x8 (w64 (x9 + 1)))
            (none))
        (none))
      (some x3) :=
  (at_eq Γ X 26 [1, 1, 0, 1, 0] _).trans (by kernel_rfl)
theorem impl_ListLines_eq (a0 : (List (List Int))) : impl_ListLines a0 =
    impl_ListLines_l0 ([] : List ByteArray) a0 (a0.length : Int) 0 :=
  (den_eq Γ X 27 rfl _).trans (by kernel_rfl)
theorem impl_ListLines_l0_eq (x3 : (List ByteArray)) (x6 : (List (List Int))) (x7 : Int) (x8 : Int) : impl_ListLines_l0 x3 x6 x7 x8 =
    cond (decide (x8 < x7))
      (cond (inside x8 x6.length)
        ((impl_FormatDivisor (x6.getD x8.toNat ([] : List Int))).bind fun r1 =>
          cond (decide (x3.length + ([r1] : List ByteArray).length ≤ room))
            (impl_ListLines_l0 (x3 ++ ([r1] : List ByteArray)) x6 x7 (w64 (x8 + 1)))
            (none))
        (none))
      (some x3) :=
  (at_eq Γ X 27 [1, 1, 0, 1, 0] _).trans (by kernel_rfl)
theorem laws_eqStringS_eq (a0 : (List ByteArray)) (a1 : (List ByteArray)) : laws_eqStringS a0 a1 =
    cond (((a0.length : Int) : Int) != (a1.length : Int))
      (some false)
      (laws_eqStringS_l0 a0 a1 0) :=
  (den_eq Γ X 28 rfl _).trans (by kernel_rfl)
theorem laws_eqStringS_l0_eq (x0 : (List ByteArray)) (x1 : (List ByteArray)) (x5 : Int) : laws_eqStringS_l0 x0 x1 x5 =
    cond (decide (x5 < (x0.length : Int)))
      (cond (inside x5 x0.length)
        (cond (inside x5 x1.length)
          (cond (!((x0.getD x5.toNat ByteArray.empty).toList == (x1.getD x5.toNat ByteArray.empty).toList))
            (some false)
            (laws_eqStringS_l0 x0 x1 (w64 (x5 + 1))))
          (none))
        (none))
      (some true) :=
  (at_eq Γ X 28 [1, 1, 0, 1, 0] _).trans (by kernel_rfl)
theorem laws_markIntS_eq (a0 : (List Int)) (a1 : Int) : laws_markIntS a0 a1 =
    laws_markIntS_l0 a0 a1 0 :=
  (den_eq Γ X 29 rfl _).trans (by kernel_rfl)
theorem laws_markIntS_l0_eq (x0 : (List Int)) (x1 : Int) (x5 : Int) : laws_markIntS_l0 x0 x1 x5 =
    cond (decide (x5 < (x0.length : Int)))
      (cond (inside x5 x0.length)
        (laws_markIntS_l0 (x0.set x5.toNat x1) (w64 (x1 + 1)) (w64 (x5 + 1)))
        (none))
      (some (x1, x0)) :=
  (at_eq Γ X 29 [1, 0, 1, 0] _).trans (by kernel_rfl)
theorem laws_markIntSS_eq (a0 : (List (List Int))) (a1 : Int) : laws_markIntSS a0 a1 =
    laws_markIntSS_l0 a0 a1 0 :=
  (den_eq Γ X 30 rfl _).trans (by kernel_rfl)
theorem laws_markIntSS_l0_eq (x0 : (List (List Int))) (x1 : Int) (x5 : Int) : laws_markIntSS_l0 x0 x1 x5 =
    cond (decide (x5 < (x0.length : Int)))
      (cond (inside x5 x0.length)
        ((laws_markIntS (x0.getD x5.toNat ([] : List Int)) x1).bind fun r1 =>
          laws_markIntSS_l0 (x0.set x5.toNat r1.2) r1.1 (w64 (x5 + 1)))
        (none))
      (some (x1, x0)) :=
  (at_eq Γ X 30 [1, 0, 1, 0] _).trans (by kernel_rfl)
theorem laws_markText_eq (a0 : Int) : laws_markText a0 =
    cond (decide (a0 ≤ 0))
      (some (⟨#[109, 48]⟩ : ByteArray))
      (laws_markText_l0 a0 (⟨#[]⟩ : ByteArray)) :=
  (den_eq Γ X 31 rfl _).trans (by kernel_rfl)
theorem laws_markText_l0_eq (x0 : Int) (x3 : ByteArray) : laws_markText_l0 x0 x3 =
    cond (decide (x0 > 0))
      (cond (decide ((toStr ([IntKind.wrap .u8 (w64 (48 + (Int.tmod x0 10)))] : List Int)).size + x3.size ≤ 9223372036854775807))
        (laws_markText_l0 (w64 (Int.tdiv x0 10)) ((toStr ([IntKind.wrap .u8 (w64 (48 + (Int.tmod x0 10)))] : List Int)) ++ x3))
        (none))
      (cond (decide ((⟨#[109]⟩ : ByteArray).size + x3.size ≤ 9223372036854775807))
        (some ((⟨#[109]⟩ : ByteArray) ++ x3))
        (none)) :=
  (at_eq Γ X 31 [1, 1, 1, 0, 0] _).trans (by kernel_rfl)
theorem laws_markStringS_eq (a0 : (List ByteArray)) (a1 : Int) : laws_markStringS a0 a1 =
    laws_markStringS_l0 a0 a1 0 :=
  (den_eq Γ X 32 rfl _).trans (by kernel_rfl)
theorem laws_markStringS_l0_eq (x0 : (List ByteArray)) (x1 : Int) (x5 : Int) : laws_markStringS_l0 x0 x1 x5 =
    cond (decide (x5 < (x0.length : Int)))
      ((laws_markText x1).bind fun r1 =>
        cond (inside x5 x0.length)
          (laws_markStringS_l0 (x0.set x5.toNat r1) (w64 (x1 + 1)) (w64 (x5 + 1)))
          (none))
      (some (x1, x0)) :=
  (at_eq Γ X 32 [1, 0, 1, 0] _).trans (by kernel_rfl)
theorem laws_heldStringS_eq (a0 : (List ByteArray)) (a1 : Int) : laws_heldStringS a0 a1 =
    laws_heldStringS_l0 a0 a1 0 :=
  (den_eq Γ X 33 rfl _).trans (by kernel_rfl)
theorem laws_heldStringS_l0_eq (x0 : (List ByteArray)) (x1 : Int) (x5 : Int) : laws_heldStringS_l0 x0 x1 x5 =
    cond (decide (x5 < (x0.length : Int)))
      (cond (inside x5 x0.length)
        ((laws_markText x1).bind fun r1 =>
          cond (!((x0.getD x5.toNat ByteArray.empty).toList == r1.toList))
            (some (-1))
            (laws_heldStringS_l0 x0 (w64 (x1 + 1)) (w64 (x5 + 1))))
        (none))
      (some x1) :=
  (at_eq Γ X 33 [1, 0, 1, 0] _).trans (by kernel_rfl)
theorem laws_FnExactListLines_eq (a0 : (List (List Int))) : laws_FnExactListLines a0 =
    (laws_szIntSS a0 1048576).bind fun r1 =>
      cond (decide (r1 < 0))
        (some true)
        ((laws_toIntSS a0).bind fun r2 =>
          (spec_ListLines r2).bind fun r3 =>
            (laws_toIntSS a0).bind fun r4 =>
              (impl_ListLines r4).bind fun r5 =>
                (laws_eqStringS r5 r3).bind fun r6 =>
                  cond (!r6)
                    (some false)
                    ((laws_toIntSS a0).bind fun r7 =>
                      (laws_eqIntSS r4 r7).bind fun r8 =>
                        cond (!r8)
                          (some false)
                          ((laws_markIntSS r4 1).bind fun r9 =>
                            cond (decide (r9.1 < 0))
                              (some false)
                              ((laws_eqStringS r5 r3).bind fun r10 =>
                                cond (!r10)
                                  (some false)
                                  (laws_FnExactListLines_c17 a0 r3 r5 1))))) :=
  (den_eq Γ X 34 rfl _).trans (by kernel_rfl)
theorem laws_FnExactListLines_c17_eq (x0 : (List (List Int))) (x4 : (List ByteArray)) (x6 : (List ByteArray)) (x8 : Int) : laws_FnExactListLines_c17 x0 x4 x6 x8 =
    (laws_markStringS x6 x8).bind fun r11 =>
      (laws_heldStringS r11.2 1).bind fun r12 =>
        cond (decide (r12 < 0))
          (some false)
          (cond ((r12 : Int) != r11.1)
            (some false)
            ((laws_toIntSS x0).bind fun r13 =>
              (impl_ListLines r13).bind fun r14 =>
                (laws_eqStringS r14 x4).bind fun r15 =>
                  cond (!r15)
                    (some false)
                    ((laws_heldStringS r11.2 1).bind fun r16 =>
                      cond (decide (r16 < 0))
                        (some false)
                        (cond ((r16 : Int) != r11.1)
                          (some false)
                          (some true))))) :=
  (at_eq Γ X 34 [1, 1, 1, 1, 1, 1, 1, 1, 1, 1, 1, 1, 1, 0] _).trans (by kernel_rfl)
end Go.Proofs.YtaapeofhcopajaaDoor.D

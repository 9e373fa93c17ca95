/-
  Each function and each loop by its equation: what the evaluator tells of it, for all arguments.
-/
import Derived.Test.YtaapeofhcopajaaDoorCtx
import Derived.KernelRfl
namespace Go.Proofs.YtaapeofhcopajaaDoor.D
open Go Go.Den
set_option linter.unusedVariables false
set_option maxRecDepth 100000
theorem laws_toIntS_eq (a0 : (List Int)) : laws_toIntS a0 =
    cond (decide (0 ≤ (a0.length : Int)) && decide ((a0.length : Int) ≤ (room : Int)))
      (laws_toIntS_l0 a0 (List.replicate (a0.length : Int).toNat 0) 0)
      (none) :=
  (den_eq Γ X 0 rfl _).trans (by kernel_rfl)
theorem laws_toIntS_l0_eq (x0 : (List Int)) (x3 : (List Int)) (x4 : Int) : laws_toIntS_l0 x0 x3 x4 =
    cond (decide (x4 < (x0.length : Int)))
      (cond (inside x4 x0.length)
        (cond (inside x4 x3.length)
          (laws_toIntS_l0 x0 (x3.set x4.toNat (x0.getD x4.toNat 0)) (w64 (x4 + 1)))
          (none))
        (none))
      (some x3) :=
  (at_eq Γ X 0 [1, 1, 0, 1, 0] _).trans (by kernel_rfl)
theorem spec_FormatInt_eq (a0 : Int) : spec_FormatInt a0 =
    cond (decide (a0 < 0))
      (cond (((w64 (Int.tdiv a0 10)) : Int) == 0)
        (cond (decide ((⟨#[45]⟩ : ByteArray).size + (toStr ([IntKind.wrap .u8 (w64 (48 - a0))] : List Int)).size ≤ 9223372036854775807))
          (some ((⟨#[45]⟩ : ByteArray) ++ (toStr ([IntKind.wrap .u8 (w64 (48 - a0))] : List Int))))
          (none))
        ((spec_FormatInt (w64 (Int.tdiv a0 10))).bind fun r1 =>
          cond (decide (r1.size + (toStr ([IntKind.wrap .u8 (w64 (48 - (Int.tmod a0 10)))] : List Int)).size ≤ 9223372036854775807))
            (some (r1 ++ (toStr ([IntKind.wrap .u8 (w64 (48 - (Int.tmod a0 10)))] : List Int))))
            (none)))
      (spec_FormatInt_l0 a0 (⟨#[]⟩ : ByteArray)) :=
  (den_eq Γ X 1 rfl _).trans (by kernel_rfl)
theorem spec_FormatInt_l0_eq (x0 : Int) (x3 : ByteArray) : spec_FormatInt_l0 x0 x3 =
    cond (decide (x0 > 9))
      (cond (decide ((toStr ([IntKind.wrap .u8 (w64 (48 + (Int.tmod x0 10)))] : List Int)).size + x3.size ≤ 9223372036854775807))
        (spec_FormatInt_l0 (w64 (Int.tdiv x0 10)) ((toStr ([IntKind.wrap .u8 (w64 (48 + (Int.tmod x0 10)))] : List Int)) ++ x3))
        (none))
      (cond (decide ((toStr ([IntKind.wrap .u8 (w64 (48 + x0))] : List Int)).size + x3.size ≤ 9223372036854775807))
        (some ((toStr ([IntKind.wrap .u8 (w64 (48 + x0))] : List Int)) ++ x3))
        (none)) :=
  (at_eq Γ X 1 [1, 1, 1, 0, 0] _).trans (by kernel_rfl)
theorem spec_Join_eq (a0 : (List ByteArray)) (a1 : ByteArray) : spec_Join a0 a1 =
    spec_Join_l0 a1 (⟨#[]⟩ : ByteArray) a0 (a0.length : Int) 0 :=
  (den_eq Γ X 2 rfl _).trans (by kernel_rfl)
theorem spec_Join_l0_eq (x1 : ByteArray) (x5 : ByteArray) (x8 : (List ByteArray)) (x9 : Int) (x10 : Int) : spec_Join_l0 x1 x5 x8 x9 x10 =
    cond (decide (x10 < x9))
      (cond (inside x10 x8.length)
        (cond (decide (x10 > 0))
          (cond (decide (x5.size + x1.size ≤ 9223372036854775807))
            (cond (decide ((x5 ++ x1).size + (x8.getD x10.toNat ByteArray.empty).size ≤ 9223372036854775807))
              (spec_Join_l0 x1 ((x5 ++ x1) ++ (x8.getD x10.toNat ByteArray.empty)) x8 x9 (w64 (x10 + 1)))
              (none))
            (none))
          (cond (decide (x5.size + (x8.getD x10.toNat ByteArray.empty).size ≤ 9223372036854775807))
            (spec_Join_l0 x1 (x5 ++ (x8.getD x10.toNat ByteArray.empty)) x8 x9 (w64 (x10 + 1)))
            (none)))
        (none))
      (some x5) :=
  (at_eq Γ X 2 [1, 1, 0, 1, 0] _).trans (by kernel_rfl)
theorem spec_FormatDivisor_eq (a0 : (List Int)) : spec_FormatDivisor a0 =
    spec_FormatDivisor_l0 ([] : List ByteArray) a0 (a0.length : Int) 0 :=
  (den_eq Γ X 3 rfl _).trans (by kernel_rfl)
theorem spec_FormatDivisor_l0_eq (x3 : (List ByteArray)) (x7 : (List Int)) (x8 : Int) (x9 : Int) : spec_FormatDivisor_l0 x3 x7 x8 x9 =
    cond (decide (x9 < x8))
      (cond (inside x9 x7.length)
        ((spec_FormatInt (x7.getD x9.toNat 0)).bind fun r1 =>
          cond (decide (x3.length + ([r1] : List ByteArray).length ≤ room))
            (spec_FormatDivisor_l0 (x3 ++ ([r1] : List ByteArray)) x7 x8 (w64 (x9 + 1)))
            (none))
        (none))
      (cond (((x3.length : Int) : Int) == 0)
        (some (⟨#[110, 111, 110, 101]⟩ : ByteArray))
        ((spec_Join x3 (⟨#[32]⟩ : ByteArray)).bind fun r2 =>
          some r2)) :=
  (at_eq Γ X 3 [1, 1, 0, 1, 0] _).trans (by kernel_rfl)
theorem strconv_Itoa_eq (a0 : Int) : strconv_Itoa a0 = Lb.itoa a0 := den_ext Γ X 4 rfl _
theorem impl_FormatInt_eq (a0 : Int) : impl_FormatInt a0 =
    (strconv_Itoa a0).bind fun r1 =>
      some r1 :=
  (den_eq Γ X 5 rfl _).trans (by kernel_rfl)
theorem strings_Join_eq (a0 : (List ByteArray)) (a1 : ByteArray) : strings_Join a0 a1 = Lb.join a0 a1 := den_ext Γ X 6 rfl _
theorem impl_Join_eq (a0 : (List ByteArray)) (a1 : ByteArray) : impl_Join a0 a1 =
    (strings_Join a0 a1).bind fun r1 =>
      some r1 :=
  (den_eq Γ X 7 rfl _).trans (by kernel_rfl)
theorem impl_FormatDivisor_eq (a0 : (List Int)) : impl_FormatDivisor a0 =
    cond (((a0.length : Int) : Int) == 0)
      (some (⟨#[110, 111, 110, 101]⟩ : ByteArray))
      (impl_FormatDivisor_l0 ([] : List ByteArray) a0 (a0.length : Int) 0) :=
  (den_eq Γ X 8 rfl _).trans (by kernel_rfl)
theorem impl_FormatDivisor_l0_eq (x3 : (List ByteArray)) (x9 : (List Int)) (x10 : Int) (x11 : Int) : impl_FormatDivisor_l0 x3 x9 x10 x11 =
    cond (decide (x11 < x10))
      (cond (inside x11 x9.length)
        ((impl_FormatInt (x9.getD x11.toNat 0)).bind fun r1 =>
          cond (decide (x3.length + ([r1] : List ByteArray).length ≤ room))
            (impl_FormatDivisor_l0 (x3 ++ ([r1] : List ByteArray)) x9 x10 (w64 (x11 + 1)))
            (none))
        (none))
      ((impl_Join x3 (⟨#[32]⟩ : ByteArray)).bind fun r2 =>
        some r2) :=
  (at_eq Γ X 8 [1, 1, 1, 0, 1, 0] _).trans (by kernel_rfl)
theorem laws_eqIntS_eq (a0 : (List Int)) (a1 : (List Int)) : laws_eqIntS a0 a1 =
    cond (((a0.length : Int) : Int) != (a1.length : Int))
      (some false)
      (laws_eqIntS_l0 a0 a1 0) :=
  (den_eq Γ X 9 rfl _).trans (by kernel_rfl)
theorem laws_eqIntS_l0_eq (x0 : (List Int)) (x1 : (List Int)) (x5 : Int) : laws_eqIntS_l0 x0 x1 x5 =
    cond (decide (x5 < (x0.length : Int)))
      (cond (inside x5 x0.length)
        (cond (inside x5 x1.length)
          (cond (((x0.getD x5.toNat 0) : Int) != (x1.getD x5.toNat 0))
            (some false)
            (laws_eqIntS_l0 x0 x1 (w64 (x5 + 1))))
          (none))
        (none))
      (some true) :=
  (at_eq Γ X 9 [1, 1, 0, 1, 0] _).trans (by kernel_rfl)
theorem laws_FnExactFormatDivisor_eq (a0 : (List Int)) : laws_FnExactFormatDivisor a0 =
    cond (decide ((a0.length : Int) > 1048576))
      (some true)
      ((laws_toIntS a0).bind fun r1 =>
        (spec_FormatDivisor r1).bind fun r2 =>
          (laws_toIntS a0).bind fun r3 =>
            (impl_FormatDivisor r3).bind fun r4 =>
              cond (!(r4.toList == r2.toList))
                (some false)
                ((laws_toIntS a0).bind fun r5 =>
                  (laws_eqIntS r3 r5).bind fun r6 =>
                    cond (!r6)
                      (some false)
                      (some true))) :=
  (den_eq Γ X 10 rfl _).trans (by kernel_rfl)
theorem laws_szIntS_eq (a0 : (List Int)) (a1 : Int) : laws_szIntS a0 a1 =
    cond (decide (w64 (a1 - (a0.length : Int)) < 0))
      (some (-1))
      (some (w64 (a1 - (a0.length : Int)))) :=
  (den_eq Γ X 11 rfl _).trans (by kernel_rfl)
theorem laws_szMorphism_eq (a0 : ((List Int) × (List Int))) (a1 : Int) : laws_szMorphism a0 a1 =
    (laws_szIntS a0.1 a1).bind fun r1 =>
      cond (decide (r1 < 0))
        (some (-1))
        ((laws_szIntS a0.2 r1).bind fun r2 =>
          cond (decide (r2 < 0))
            (some (-1))
            (some r2)) :=
  (den_eq Γ X 12 rfl _).trans (by kernel_rfl)
theorem laws_toMorphism_eq (a0 : ((List Int) × (List Int))) : laws_toMorphism a0 =
    (laws_toIntS a0.1).bind fun r1 =>
      (laws_toIntS a0.2).bind fun r2 =>
        some (r1, r2) :=
  (den_eq Γ X 13 rfl _).trans (by kernel_rfl)
theorem spec_FormatMorphism_eq (a0 : ((List Int) × (List Int))) : spec_FormatMorphism a0 =
    (spec_FormatDivisor a0.1).bind fun r1 =>
      cond (decide (r1.size + (⟨#[32, 124, 32]⟩ : ByteArray).size ≤ 9223372036854775807))
        ((spec_FormatDivisor a0.2).bind fun r2 =>
          cond (decide ((r1 ++ (⟨#[32, 124, 32]⟩ : ByteArray)).size + r2.size ≤ 9223372036854775807))
            (some ((r1 ++ (⟨#[32, 124, 32]⟩ : ByteArray)) ++ r2))
            (none))
        (none) :=
  (den_eq Γ X 14 rfl _).trans (by kernel_rfl)
theorem impl_FormatMorphism_eq (a0 : ((List Int) × (List Int))) : impl_FormatMorphism a0 =
    (impl_FormatDivisor a0.1).bind fun r1 =>
      cond (decide (r1.size + (⟨#[32, 124, 32]⟩ : ByteArray).size ≤ 9223372036854775807))
        ((impl_FormatDivisor a0.2).bind fun r2 =>
          cond (decide ((r1 ++ (⟨#[32, 124, 32]⟩ : ByteArray)).size + r2.size ≤ 9223372036854775807))
            (some ((r1 ++ (⟨#[32, 124, 32]⟩ : ByteArray)) ++ r2))
            (none))
        (none) :=
  (den_eq Γ X 15 rfl _).trans (by kernel_rfl)
theorem laws_eqMorphism_eq (a0 : ((List Int) × (List Int))) (a1 : ((List Int) × (List Int))) : laws_eqMorphism a0 a1 =
    (laws_eqIntS a0.1 a1.1).bind fun r1 =>
      cond (!r1)
        (some false)
        ((laws_eqIntS a0.2 a1.2).bind fun r2 =>
          cond (!r2)
            (some false)
            (some true)) :=
  (den_eq Γ X 16 rfl _).trans (by kernel_rfl)
theorem laws_FnExactFormatMorphism_eq (a0 : ((List Int) × (List Int))) : laws_FnExactFormatMorphism a0 =
    (laws_szMorphism a0 1048576).bind fun r1 =>
      cond (decide (r1 < 0))
        (some true)
        ((laws_toMorphism a0).bind fun r2 =>
          (spec_FormatMorphism r2).bind fun r3 =>
            (laws_toMorphism a0).bind fun r4 =>
              (impl_FormatMorphism r4).bind fun r5 =>
                cond (!(r5.toList == r3.toList))
                  (some false)
                  ((laws_toMorphism a0).bind fun r6 =>
                    (laws_eqMorphism r4 r6).bind fun r7 =>
                      cond (!r7)
                        (some false)
                        (some true))) :=
  (den_eq Γ X 17 rfl _).trans (by kernel_rfl)
theorem laws_szIntSS_eq (a0 : (List (List Int))) (a1 : Int) : laws_szIntSS a0 a1 =
    cond (decide (w64 (a1 - (a0.length : Int)) < 0))
      (some (-1))
      (laws_szIntSS_l0 a0 (w64 (a1 - (a0.length : Int))) 0) :=
  (den_eq Γ X 18 rfl _).trans (by kernel_rfl)
theorem laws_szIntSS_l0_eq (x0 : (List (List Int))) (x1 : Int) (x5 : Int) : laws_szIntSS_l0 x0 x1 x5 =
    cond (decide (x5 < (x0.length : Int)))
      (cond (inside x5 x0.length)
        ((laws_szIntS (x0.getD x5.toNat ([] : List Int)) x1).bind fun r1 =>
          cond (decide (r1 < 0))
            (some (-1))
            (laws_szIntSS_l0 x0 r1 (w64 (x5 + 1))))
        (none))
      (some x1) :=
  (at_eq Γ X 18 [1, 1, 1, 0, 1, 0] _).trans (by kernel_rfl)
theorem laws_toIntSS_eq (a0 : (List (List Int))) : laws_toIntSS a0 =
    cond (decide (0 ≤ (a0.length : Int)) && decide ((a0.length : Int) ≤ (room : Int)))
      (laws_toIntSS_l0 a0 (List.replicate (a0.length : Int).toNat ([] : List Int)) 0)
      (none) :=
  (den_eq Γ X 19 rfl _).trans (by kernel_rfl)
theorem laws_toIntSS_l0_eq (x0 : (List (List Int))) (x3 : (List (List Int))) (x4 : Int) : laws_toIntSS_l0 x0 x3 x4 =
    cond (decide (x4 < (x0.length : Int)))
      (cond (inside x4 x0.length)
        ((laws_toIntS (x0.getD x4.toNat ([] : List Int))).bind fun r1 =>
          cond (inside x4 x3.length)
            (laws_toIntSS_l0 x0 (x3.set x4.toNat r1) (w64 (x4 + 1)))
            (none))
        (none))
      (some x3) :=
  (at_eq Γ X 19 [1, 1, 0, 1, 0] _).trans (by kernel_rfl)
theorem spec_l18Power_eq (a0 : ByteArray) (a1 : Int) : spec_l18Power a0 a1 =
    cond ((a1 : Int) == 0)
      (some (⟨#[]⟩ : ByteArray))
      (cond ((a1 : Int) == 1)
        (some a0)
        ((spec_FormatInt a1).bind fun r1 =>
          cond (decide (a0.size + r1.size ≤ 9223372036854775807))
            (some (a0 ++ r1))
            (none))) :=
  (den_eq Γ X 20 rfl _).trans (by kernel_rfl)
theorem spec_FormatPolynomial_eq (a0 : (List (List Int))) : spec_FormatPolynomial a0 =
    spec_FormatPolynomial_l0 ([] : List ByteArray) a0 (a0.length : Int) 0 :=
  (den_eq Γ X 21 rfl _).trans (by kernel_rfl)
theorem spec_FormatPolynomial_l0_eq (x3 : (List ByteArray)) (x10 : (List (List Int))) (x11 : Int) (x12 : Int) : spec_FormatPolynomial_l0 x3 x10 x11 x12 =
    cond (decide (x12 < x11))
      (cond (inside x12 x10.length)
        (spec_FormatPolynomial_l2 x3 x12 x10 x11 x12 (x10.getD x12.toNat ([] : List Int)) ((x10.getD x12.toNat ([] : List Int)).length : Int) 0)
        (none))
      (cond (((x3.length : Int) : Int) == 0)
        (some (⟨#[48]⟩ : ByteArray))
        ((spec_Join x3 (⟨#[32, 43, 32]⟩ : ByteArray)).bind fun r5 =>
          some r5)) :=
  (at_eq Γ X 21 [1, 1, 0, 1, 0] _).trans (by kernel_rfl)
theorem spec_FormatPolynomial_l2_eq (x3 : (List ByteArray)) (x4 : Int) (x10 : (List (List Int))) (x11 : Int) (x12 : Int) (x17 : (List Int)) (x18 : Int) (x19 : Int) : spec_FormatPolynomial_l2 x3 x4 x10 x11 x12 x17 x18 x19 =
    cond (decide (x19 < x18))
      (cond (inside x19 x17.length)
        ((spec_l18Power (⟨#[120]⟩ : ByteArray) x4).bind fun r1 =>
          (spec_l18Power (⟨#[121]⟩ : ByteArray) x19).bind fun r2 =>
            cond (decide (r1.size + r2.size ≤ 9223372036854775807))
              (cond (((x17.getD x19.toNat 0) : Int) != 0)
                (cond (((x17.getD x19.toNat 0) : Int) != 1)
                  ((spec_FormatInt (x17.getD x19.toNat 0)).bind fun r3 =>
                    cond (decide (r3.size + (r1 ++ r2).size ≤ 9223372036854775807))
                      (cond (((x17.getD x19.toNat 0) : Int) != 0)
                        (cond (decide (x3.length + ([r3 ++ (r1 ++ r2)] : List ByteArray).length ≤ room))
                          (spec_FormatPolynomial_l2 (x3 ++ ([r3 ++ (r1 ++ r2)] : List ByteArray)) x4 x10 x11 x12 x17 x18 (w64 (x19 + 1)))
                          (none))
                        (spec_FormatPolynomial_l2 x3 x4 x10 x11 x12 x17 x18 (w64 (x19 + 1))))
                      (none))
                  (cond ((r1 ++ r2).toList == (⟨#[]⟩ : ByteArray).toList)
                    ((spec_FormatInt (x17.getD x19.toNat 0)).bind fun r4 =>
                      cond (decide (r4.size + (r1 ++ r2).size ≤ 9223372036854775807))
                        (cond (((x17.getD x19.toNat 0) : Int) != 0)
                          (cond (decide (x3.length + ([r4 ++ (r1 ++ r2)] : List ByteArray).length ≤ room))
                            (spec_FormatPolynomial_l2 (x3 ++ ([r4 ++ (r1 ++ r2)] : List ByteArray)) x4 x10 x11 x12 x17 x18 (w64 (x19 + 1)))
                            (none))
                          (spec_FormatPolynomial_l2 x3 x4 x10 x11 x12 x17 x18 (w64 (x19 + 1))))
                        (none))
                    (cond (((x17.getD x19.toNat 0) : Int) != 0)
                      (cond (decide (x3.length + ([r1 ++ r2] : List ByteArray).length ≤ room))
                        (spec_FormatPolynomial_l2 (x3 ++ ([r1 ++ r2] : List ByteArray)) x4 x10 x11 x12 x17 x18 (w64 (x19 + 1)))
                        (none))
                      (spec_FormatPolynomial_l2 x3 x4 x10 x11 x12 x17 x18 (w64 (x19 + 1))))))
                (cond (((x17.getD x19.toNat 0) : Int) != 0)
                  (cond (decide (x3.length + ([r1 ++ r2] : List ByteArray).length ≤ room))
                    (spec_FormatPolynomial_l2 (x3 ++ ([r1 ++ r2] : List ByteArray)) x4 x10 x11 x12 x17 x18 (w64 (x19 + 1)))
                    (none))
                  (spec_FormatPolynomial_l2 x3 x4 x10 x11 x12 x17 x18 (w64 (x19 + 1)))))
              (none))
        (none))
      (spec_FormatPolynomial_l0 x3 x10 x11 (w64 (x12 + 1))) :=
  (at_eq Γ X 21 [1, 1, 0, 1, 0, 0, 1, 1, 0, 0, 1, 1, 0] _).trans (by kernel_rfl)
theorem impl_powerText_eq (a0 : ByteArray) (a1 : Int) : impl_powerText a0 a1 =
    cond ((a1 : Int) == 0)
      (some (⟨#[]⟩ : ByteArray))
      (cond ((a1 : Int) == 1)
        (some a0)
        ((impl_FormatInt a1).bind fun r1 =>
          cond (decide (a0.size + r1.size ≤ 9223372036854775807))
            (some (a0 ++ r1))
            (none))) :=
  (den_eq Γ X 22 rfl _).trans (by kernel_rfl)
theorem impl_FormatPolynomial_eq (a0 : (List (List Int))) : impl_FormatPolynomial a0 =
    impl_FormatPolynomial_l0 ([] : List ByteArray) a0 (a0.length : Int) 0 :=
  (den_eq Γ X 23 rfl _).trans (by kernel_rfl)
theorem impl_FormatPolynomial_l0_eq (x3 : (List ByteArray)) (x9 : (List (List Int))) (x10 : Int) (x11 : Int) : impl_FormatPolynomial_l0 x3 x9 x10 x11 =
    cond (decide (x11 < x10))
      (cond (inside x11 x9.length)
        (impl_FormatPolynomial_l2 x3 x11 x9 x10 x11 (x9.getD x11.toNat ([] : List Int)) ((x9.getD x11.toNat ([] : List Int)).length : Int) 0)
        (none))
      (cond (((x3.length : Int) : Int) == 0)
        (some (⟨#[48]⟩ : ByteArray))
        ((impl_Join x3 (⟨#[32, 43, 32]⟩ : ByteArray)).bind fun r5 =>
          some r5)) :=
  (at_eq Γ X 23 [1, 1, 0, 1, 0] _).trans (by kernel_rfl)
theorem impl_FormatPolynomial_l2_eq (x3 : (List ByteArray)) (x4 : Int) (x9 : (List (List Int))) (x10 : Int) (x11 : Int) (x16 : (List Int)) (x17 : Int) (x18 : Int) : impl_FormatPolynomial_l2 x3 x4 x9 x10 x11 x16 x17 x18 =
    cond (decide (x18 < x17))
      (cond (inside x18 x16.length)
        (cond (((x16.getD x18.toNat 0) : Int) == 0)
          (impl_FormatPolynomial_l2 x3 x4 x9 x10 x11 x16 x17 (w64 (x18 + 1)))
          ((impl_powerText (⟨#[120]⟩ : ByteArray) x4).bind fun r1 =>
            (impl_powerText (⟨#[121]⟩ : ByteArray) x18).bind fun r2 =>
              cond (decide (r1.size + r2.size ≤ 9223372036854775807))
                (cond (((x16.getD x18.toNat 0) : Int) == 1)
                  (cond (!((r1 ++ r2).toList == (⟨#[]⟩ : ByteArray).toList))
                    (cond (decide (x3.length + ([r1 ++ r2] : List ByteArray).length ≤ room))
                      (impl_FormatPolynomial_l2 (x3 ++ ([r1 ++ r2] : List ByteArray)) x4 x9 x10 x11 x16 x17 (w64 (x18 + 1)))
                      (none))
                    ((impl_FormatInt (x16.getD x18.toNat 0)).bind fun r3 =>
                      cond (decide (r3.size + (r1 ++ r2).size ≤ 9223372036854775807))
                        (cond (decide (x3.length + ([r3 ++ (r1 ++ r2)] : List ByteArray).length ≤ room))
                          (impl_FormatPolynomial_l2 (x3 ++ ([r3 ++ (r1 ++ r2)] : List ByteArray)) x4 x9 x10 x11 x16 x17 (w64 (x18 + 1)))
                          (none))
                        (none)))
                  ((impl_FormatInt (x16.getD x18.toNat 0)).bind fun r4 =>
                    cond (decide (r4.size + (r1 ++ r2).size ≤ 9223372036854775807))
                      (cond (decide (x3.length + ([r4 ++ (r1 ++ r2)] : List ByteArray).length ≤ room))
                        (impl_FormatPolynomial_l2 (x3 ++ ([r4 ++ (r1 ++ r2)] : List ByteArray)) x4 x9 x10 x11 x16 x17 (w64 (x18 + 1)))
                        (none))
                      (none)))
                (none)))
        (none))
      (impl_FormatPolynomial_l0 x3 x9 x10 (w64 (x11 + 1))) :=
  (at_eq Γ X 23 [1, 1, 0, 1, 0, 0, 1, 1, 0, 0, 1, 1, 0] _).trans (by kernel_rfl)
theorem laws_eqIntSS_eq (a0 : (List (List Int))) (a1 : (List (List Int))) : laws_eqIntSS a0 a1 =
    cond (((a0.length : Int) : Int) != (a1.length : Int))
      (some false)
      (laws_eqIntSS_l0 a0 a1 0) :=
  (den_eq Γ X 24 rfl _).trans (by kernel_rfl)
theorem laws_eqIntSS_l0_eq (x0 : (List (List Int))) (x1 : (List (List Int))) (x5 : Int) : laws_eqIntSS_l0 x0 x1 x5 =
    cond (decide (x5 < (x0.length : Int)))
      (cond (inside x5 x0.length)
        (cond (inside x5 x1.length)
          ((laws_eqIntS (x0.getD x5.toNat ([] : List Int)) (x1.getD x5.toNat ([] : List Int))).bind fun r1 =>
            cond (!r1)
              (some false)
              (laws_eqIntSS_l0 x0 x1 (w64 (x5 + 1))))
          (none))
        (none))
      (some true) :=
  (at_eq Γ X 24 [1, 1, 0, 1, 0] _).trans (by kernel_rfl)
theorem laws_FnExactFormatPolynomial_eq (a0 : (List (List Int))) : laws_FnExactFormatPolynomial a0 =
    (laws_szIntSS a0 1048576).bind fun r1 =>
      cond (decide (r1 < 0))
        (some true)
        ((laws_toIntSS a0).bind fun r2 =>
          (spec_FormatPolynomial r2).bind fun r3 =>
            (laws_toIntSS a0).bind fun r4 =>
              (impl_FormatPolynomial r4).bind fun r5 =>
                cond (!(r5.toList == r3.toList))
                  (some false)
                  ((laws_toIntSS a0).bind fun r6 =>
                    (laws_eqIntSS r4 r6).bind fun r7 =>
                      cond (!r7)
                        (some false)
                        (some true))) :=
  (den_eq Γ X 25 rfl _).trans (by kernel_rfl)
theorem spec_ListLines_eq (a0 : (List (List Int))) : spec_ListLines a0 =
    spec_ListLines_l0 ([] : List ByteArray) a0 (a0.length : Int) 0 :=
  (den_eq Γ X 26 rfl _).trans (by kernel_rfl)
theorem spec_ListLines_l0_eq (x3 : (List ByteArray)) (x7 : (List (List Int))) (x8 : Int) (x9 : Int) : spec_ListLines_l0 x3 x7 x8 x9 =
    cond (decide (x9 < x8))
      (cond (inside x9 x7.length)
        ((spec_FormatDivisor (x7.getD x9.toNat ([] : List Int))).bind fun r1 =>
          cond (decide (x3.length + ([r1] : List ByteArray).length ≤ room))
            (spec_ListLines_l0 (x3 ++ ([r1] : List ByteArray)) x7 x8 (w64 (x9 + 1)))
            (none))
        (none))
      (some x3) :=
  (at_eq Γ X 26 [1, 1, 0, 1, 0] _).trans (by kernel_rfl)
theorem impl_ListLines_eq (a0 : (List (List Int))) : impl_ListLines a0 =
    impl_ListLines_l0 ([] : List ByteArray) a0 (a0.length : Int) 0 :=
  (den_eq Γ X 27 rfl _).trans (by kernel_rfl)
theorem impl_ListLines_l0_eq (x3 : (List ByteArray)) (x6 : (List (List Int))) (x7 : Int) (x8 : Int) : impl_ListLines_l0 x3 x6 x7 x8 =
    cond (decide (x8 < x7))
      (cond (inside x8 x6.length)
        ((impl_FormatDivisor (x6.getD x8.toNat ([] : List Int))).bind fun r1 =>
          cond (decide (x3.length + ([r1] : List ByteArray).length ≤ room))
            (impl_ListLines_l0 (x3 ++ ([r1] : List ByteArray)) x6 x7 (w64 (x8 + 1)))
            (none))
        (none))
      (some x3) :=
  (at_eq Γ X 27 [1, 1, 0, 1, 0] _).trans (by kernel_rfl)
theorem laws_eqStringS_eq (a0 : (List ByteArray)) (a1 : (List ByteArray)) : laws_eqStringS a0 a1 =
    cond (((a0.length : Int) : Int) != (a1.length : Int))
      (some false)
      (laws_eqStringS_l0 a0 a1 0) :=
  (den_eq Γ X 28 rfl _).trans (by kernel_rfl)
theorem laws_eqStringS_l0_eq (x0 : (List ByteArray)) (x1 : (List ByteArray)) (x5 : Int) : laws_eqStringS_l0 x0 x1 x5 =
    cond (decide (x5 < (x0.length : Int)))
      (cond (inside x5 x0.length)
        (cond (inside x5 x1.length)
          (cond (!((x0.getD x5.toNat ByteArray.empty).toList == (x1.getD x5.toNat ByteArray.empty).toList))
            (some false)
            (laws_eqStringS_l0 x0 x1 (w64 (x5 + 1))))
          (none))
        (none))
      (some true) :=
  (at_eq Γ X 28 [1, 1, 0, 1, 0] _).trans (by kernel_rfl)
theorem laws_markIntS_eq (a0 : (List Int)) (a1 : Int) : laws_markIntS a0 a1 =
    laws_markIntS_l0 a0 a1 0 :=
  (den_eq Γ X 29 rfl _).trans (by kernel_rfl)
theorem laws_markIntS_l0_eq (x0 : (List Int)) (x1 : Int) (x5 : Int) : laws_markIntS_l0 x0 x1 x5 =
    cond (decide (x5 < (x0.length : Int)))
      (cond (inside x5 x0.length)
        (laws_markIntS_l0 (x0.set x5.toNat x1) (w64 (x1 + 1)) (w64 (x5 + 1)))
        (none))
      (some (x1, x0)) :=
  (at_eq Γ X 29 [1, 0, 1, 0] _).trans (by kernel_rfl)
theorem laws_markIntSS_eq (a0 : (List (List Int))) (a1 : Int) : laws_markIntSS a0 a1 =
    laws_markIntSS_l0 a0 a1 0 :=
  (den_eq Γ X 30 rfl _).trans (by kernel_rfl)
theorem laws_markIntSS_l0_eq (x0 : (List (List Int))) (x1 : Int) (x5 : Int) : laws_markIntSS_l0 x0 x1 x5 =
    cond (decide (x5 < (x0.length : Int)))
      (cond (inside x5 x0.length)
        ((laws_markIntS (x0.getD x5.toNat ([] : List Int)) x1).bind fun r1 =>
          laws_markIntSS_l0 (x0.set x5.toNat r1.2) r1.1 (w64 (x5 + 1)))
        (none))
      (some (x1, x0)) :=
  (at_eq Γ X 30 [1, 0, 1, 0] _).trans (by kernel_rfl)
theorem laws_markText_eq (a0 : Int) : laws_markText a0 =
    cond (decide (a0 ≤ 0))
      (some (⟨#[109, 48]⟩ : ByteArray))
      (laws_markText_l0 a0 (⟨#[]⟩ : ByteArray)) :=
  (den_eq Γ X 31 rfl _).trans (by kernel_rfl)
theorem laws_markText_l0_eq (x0 : Int) (x3 : ByteArray) : laws_markText_l0 x0 x3 =
    cond (decide (x0 > 0))
      (cond (decide ((toStr ([IntKind.wrap .u8 (w64 (48 + (Int.tmod x0 10)))] : List Int)).size + x3.size ≤ 9223372036854775807))
        (laws_markText_l0 (w64 (Int.tdiv x0 10)) ((toStr ([IntKind.wrap .u8 (w64 (48 + (Int.tmod x0 10)))] : List Int)) ++ x3))
        (none))
      (cond (decide ((⟨#[109]⟩ : ByteArray).size + x3.size ≤ 9223372036854775807))
        (some ((⟨#[109]⟩ : ByteArray) ++ x3))
        (none)) :=
  (at_eq Γ X 31 [1, 1, 1, 0, 0] _).trans (by kernel_rfl)
theorem laws_markStringS_eq (a0 : (List ByteArray)) (a1 : Int) : laws_markStringS a0 a1 =
    laws_markStringS_l0 a0 a1 0 :=
  (den_eq Γ X 32 rfl _).trans (by kernel_rfl)
theorem laws_markStringS_l0_eq (x0 : (List ByteArray)) (x1 : Int) (x5 : Int) : laws_markStringS_l0 x0 x1 x5 =
    cond (decide (x5 < (x0.length : Int)))
      ((laws_markText x1).bind fun r1 =>
        cond (inside x5 x0.length)
          (laws_markStringS_l0 (x0.set x5.toNat r1) (w64 (x1 + 1)) (w64 (x5 + 1)))
          (none))
      (some (x1, x0)) :=
  (at_eq Γ X 32 [1, 0, 1, 0] _).trans (by kernel_rfl)
theorem laws_heldStringS_eq (a0 : (List ByteArray)) (a1 : Int) : laws_heldStringS a0 a1 =
    laws_heldStringS_l0 a0 a1 0 :=
  (den_eq Γ X 33 rfl _).trans (by kernel_rfl)
theorem laws_heldStringS_l0_eq (x0 : (List ByteArray)) (x1 : Int) (x5 : Int) : laws_heldStringS_l0 x0 x1 x5 =
    cond (decide (x5 < (x0.length : Int)))
      (cond (inside x5 x0.length)
        ((laws_markText x1).bind fun r1 =>
          cond (!((x0.getD x5.toNat ByteArray.empty).toList == r1.toList))
            (some (-1))
            (laws_heldStringS_l0 x0 (w64 (x1 + 1)) (w64 (x5 + 1))))
        (none))
      (some x1) :=
  (at_eq Γ X 33 [1, 0, 1, 0] _).trans (by kernel_rfl)
theorem laws_FnExactListLines_eq (a0 : (List (List Int))) : laws_FnExactListLines a0 =
    (laws_szIntSS a0 1048576).bind fun r1 =>
      cond (decide (r1 < 0))
        (some true)
        ((laws_toIntSS a0).bind fun r2 =>
          (spec_ListLines r2).bind fun r3 =>
            (laws_toIntSS a0).bind fun r4 =>
              (impl_ListLines r4).bind fun r5 =>
                (laws_eqStringS r5 r3).bind fun r6 =>
                  cond (!r6)
                    (some false)
                    ((laws_toIntSS a0).bind fun r7 =>
                      (laws_eqIntSS r4 r7).bind fun r8 =>
                        cond (!r8)
                          (some false)
                          ((laws_markIntSS r4 1).bind fun r9 =>
                            cond (decide (r9.1 < 0))
                              (some false)
                              ((laws_eqStringS r5 r3).bind fun r10 =>
                                cond (!r10)
                                  (some false)
                                  (laws_FnExactListLines_c17 a0 r3 r5 1))))) :=
  (den_eq Γ X 34 rfl _).trans (by kernel_rfl)
theorem laws_FnExactListLines_c17_eq (x0 : (List (List Int))) (x4 : (List ByteArray)) (x6 : (List ByteArray)) (x8 : Int) : laws_FnExactListLines_c17 x0 x4 x6 x8 =
    (laws_markStringS x6 x8).bind fun r11 =>
      (laws_heldStringS r11.2 1).bind fun r12 =>
        cond (decide (r12 < 0))
          (some false)
          (cond ((r12 : Int) != r11.1)
            (some false)
            ((laws_toIntSS x0).bind fun r13 =>
              (impl_ListLines r13).bind fun r14 =>
                (laws_eqStringS r14 x4).bind fun r15 =>
                  cond (!r15)
                    (some false)
                    ((laws_heldStringS r11.2 1).bind fun r16 =>
                      cond (decide (r16 < 0))
                        (some false)
                        (cond ((r16 : Int) != r11.1)
                          (some false)
                          (some true))))) :=
  (at_eq Γ X 34 [1, 1, 1, 1, 1, 1, 1, 1, 1, 1, 1, 1, 1, 0] _).trans (by kernel_rfl)
theorem spec_SplitAny_eq (a0 : ByteArray) (a1 : ByteArray) : spec_SplitAny a0 a1 =
    spec_SplitAny_l0 a0 a1 ([] : List ByteArray) 0 0 :=
  (den_eq Γ X 35 rfl _).trans (by kernel_rfl)
theorem spec_SplitAny_l0_eq (x0 : ByteArray) (x1 : ByteArray) (x5 : (List ByteArray)) (x6 : Int) (x7 : Int) : spec_SplitAny_l0 x0 x1 x5 x6 x7 =
    cond (decide (x7 < (x0.size : Int)))
      (spec_SplitAny_l2 x0 x1 x5 x6 x7 0)
      (cond (decide (0 ≤ x6) && decide (x6 ≤ (x0.size : Int)) && decide ((x0.size : Int) ≤ (x0.size : Int)))
        (cond (decide (x5.length + ([x0.extract x6.toNat ((x0.size : Int).toNat)] : List ByteArray).length ≤ room))
          (some (x5 ++ ([x0.extract x6.toNat ((x0.size : Int).toNat)] : List ByteArray)))
          (none))
        (none)) :=
  (at_eq Γ X 35 [1, 1, 1, 0, 1, 0] _).trans (by kernel_rfl)
theorem spec_SplitAny_l2_eq (x0 : ByteArray) (x1 : ByteArray) (x5 : (List ByteArray)) (x6 : Int) (x7 : Int) (x8 : Int) : spec_SplitAny_l2 x0 x1 x5 x6 x7 x8 =
    cond (decide (x8 < (x1.size : Int)))
      (cond (inside x7 x0.size)
        (cond (inside x8 x1.size)
          (cond (((bAt x0 x7.toNat) : Int) == (bAt x1 x8.toNat))
            (cond (decide (0 ≤ x6) && decide (x6 ≤ x7) && decide (x7 ≤ (x0.size : Int)))
              (cond (decide (x5.length + ([x0.extract x6.toNat x7.toNat] : List ByteArray).length ≤ room))
                (spec_SplitAny_l0 x0 x1 (x5 ++ ([x0.extract x6.toNat x7.toNat] : List ByteArray)) (w64 (x7 + 1)) (w64 (x7 + 1)))
                (none))
              (none))
            (spec_SplitAny_l2 x0 x1 x5 x6 x7 (w64 (x8 + 1))))
          (none))
        (none))
      (spec_SplitAny_l0 x0 x1 x5 x6 (w64 (x7 + 1))) :=
  (at_eq Γ X 35 [1, 1, 1, 0, 1, 0, 0, 1, 0, 0, 1, 0] _).trans (by kernel_rfl)
theorem spec_IsDigits_eq (a0 : ByteArray) : spec_IsDigits a0 =
    spec_IsDigits_l0 a0 0 :=
  (den_eq Γ X 36 rfl _).trans (by kernel_rfl)
theorem spec_IsDigits_l0_eq (x0 : ByteArray) (x3 : Int) : spec_IsDigits_l0 x0 x3 =
    cond (decide (x3 < (x0.size : Int)))
      (cond (inside x3 x0.size)
        (cond (decide (bAt x0 x3.toNat < 48))
          (some false)
          (cond (inside x3 x0.size)
            (cond (decide (bAt x0 x3.toNat > 57))
              (some false)
              (spec_IsDigits_l0 x0 (w64 (x3 + 1))))
            (none)))
        (none))
      (some (decide ((x0.size : Int) > 0))) :=
  (at_eq Γ X 36 [1, 0, 1, 0] _).trans (by kernel_rfl)
theorem spec_ParseInt_eq (a0 : ByteArray) : spec_ParseInt a0 =
    cond (decide ((a0.size : Int) > 0))
      (cond (inside 0 a0.size)
        (cond (((bAt a0 0) : Int) == 45)
          (cond (decide (0 ≤ 1) && decide (1 ≤ (a0.size : Int)) && decide ((a0.size : Int) ≤ (a0.size : Int)))
            ((spec_IsDigits (a0.extract 1 ((a0.size : Int).toNat))).bind fun r1 =>
              cond (!r1)
                (some (0, false))
                (cond (decide (((a0.extract 1 ((a0.size : Int).toNat)).size : Int) > 19))
                  (some (0, false))
                  (spec_ParseInt_l0 a0 (((bAt a0 0) : Int) == 45) (a0.extract 1 ((a0.size : Int).toNat)) 0 0)))
            (none))
          ((spec_IsDigits a0).bind fun r4 =>
            cond (!r4)
              (some (0, false))
              (cond (decide ((a0.size : Int) > 19))
                (some (0, false))
                (spec_ParseInt_l0 a0 (((bAt a0 0) : Int) == 45) a0 0 0))))
        (none))
      ((spec_IsDigits a0).bind fun r5 =>
        cond (!r5)
          (some (0, false))
          (cond (decide ((a0.size : Int) > 19))
            (some (0, false))
            (spec_ParseInt_l0 a0 false a0 0 0))) :=
  (den_eq Γ X 37 rfl _).trans (by kernel_rfl)
theorem spec_ParseInt_l0_eq (x0 : ByteArray) (x4 : Bool) (x5 : ByteArray) (x6 : Int) (x7 : Int) : spec_ParseInt_l0 x0 x4 x5 x6 x7 =
    cond (decide (x7 < (x5.size : Int)))
      (cond (inside x7 x5.size)
        (cond (decide (x6 < w64 (Int.tdiv (w64 ((-9223372036854775808) + (w64 ((w64 (bAt x5 x7.toNat)) - 48)))) 10)))
          (some (0, false))
          (spec_ParseInt_l0 x0 x4 x5 (w64 ((w64 (x6 * 10)) - (w64 ((w64 (bAt x5 x7.toNat)) - 48)))) (w64 (x7 + 1))))
        (none))
      (cond (!x4)
        (cond ((x6 : Int) == (-9223372036854775808))
          (some (0, false))
          ((spec_FormatInt (w64 (0 - x6))).bind fun r2 =>
            cond (!(r2.toList == x0.toList))
              (some (0, false))
              (some (w64 (0 - x6), true))))
        ((spec_FormatInt x6).bind fun r3 =>
          cond (!(r3.toList == x0.toList))
            (some (0, false))
            (some (x6, true)))) :=
  (at_eq Γ X 37 [1, 1, 1, 1, 1, 1, 0, 1, 0] _).trans (by kernel_rfl)
theorem spec_l18Numbers_eq (a0 : (List ByteArray)) : spec_l18Numbers a0 =
    spec_l18Numbers_l0 ([] : List Int) a0 (a0.length : Int) 0 :=
  (den_eq Γ X 38 rfl _).trans (by kernel_rfl)
theorem spec_l18Numbers_l0_eq (x4 : (List Int)) (x10 : (List ByteArray)) (x11 : Int) (x12 : Int) : spec_l18Numbers_l0 x4 x10 x11 x12 =
    cond (decide (x12 < x11))
      (cond (inside x12 x10.length)
        ((spec_ParseInt (x10.getD x12.toNat ByteArray.empty)).bind fun r1 =>
          cond (!r1.2)
            (some (([] : List Int), false))
            (cond (decide (x4.length + ([r1.1] : List Int).length ≤ room))
              (spec_l18Numbers_l0 (x4 ++ ([r1.1] : List Int)) x10 x11 (w64 (x12 + 1)))
              (none)))
        (none))
      (some (x4, true)) :=
  (at_eq Γ X 38 [1, 1, 0, 1, 0] _).trans (by kernel_rfl)
theorem spec_ParseDivisor_eq (a0 : ByteArray) : spec_ParseDivisor a0 =
    cond (a0.toList == (⟨#[110, 111, 110, 101]⟩ : ByteArray).toList)
      (some (([] : List Int), true))
      ((spec_SplitAny a0 (⟨#[32]⟩ : ByteArray)).bind fun r1 =>
        (spec_l18Numbers r1).bind fun r2 =>
          cond (!r2.2)
            (some (([] : List Int), false))
            (cond (((r2.1.length : Int) : Int) == 0)
              (some (([] : List Int), false))
              ((spec_FormatDivisor r2.1).bind fun r3 =>
                cond (!(r3.toList == a0.toList))
                  (some (([] : List Int), false))
                  (some (r2.1, true))))) :=
  (den_eq Γ X 39 rfl _).trans (by kernel_rfl)
theorem strings_IndexByte_eq (a0 : ByteArray) (a1 : Int) : strings_IndexByte a0 a1 = Lb.indexByte a0 a1 := den_ext Γ X 40 rfl _
theorem impl_SplitAny_eq (a0 : ByteArray) (a1 : ByteArray) : impl_SplitAny a0 a1 =
    impl_SplitAny_l0 a0 a1 ([] : List ByteArray) 0 0 :=
  (den_eq Γ X 41 rfl _).trans (by kernel_rfl)
theorem impl_SplitAny_l0_eq (x0 : ByteArray) (x1 : ByteArray) (x5 : (List ByteArray)) (x6 : Int) (x7 : Int) : impl_SplitAny_l0 x0 x1 x5 x6 x7 =
    cond (decide (x7 < (x0.size : Int)))
      (cond (inside x7 x0.size)
        ((strings_IndexByte x1 (bAt x0 x7.toNat)).bind fun r1 =>
          cond (decide (r1 ≥ 0))
            (cond (decide (0 ≤ x6) && decide (x6 ≤ x7) && decide (x7 ≤ (x0.size : Int)))
              (cond (decide (x5.length + ([x0.extract x6.toNat x7.toNat] : List ByteArray).length ≤ room))
                (impl_SplitAny_l0 x0 x1 (x5 ++ ([x0.extract x6.toNat x7.toNat] : List ByteArray)) (w64 (x7 + 1)) (w64 (x7 + 1)))
                (none))
              (none))
            (impl_SplitAny_l0 x0 x1 x5 x6 (w64 (x7 + 1))))
        (none))
      (cond (decide (0 ≤ x6) && decide (x6 ≤ (x0.size : Int)) && decide ((x0.size : Int) ≤ (x0.size : Int)))
        (cond (decide (x5.length + ([x0.extract x6.toNat ((x0.size : Int).toNat)] : List ByteArray).length ≤ room))
          (some (x5 ++ ([x0.extract x6.toNat ((x0.size : Int).toNat)] : List ByteArray)))
          (none))
        (none)) :=
  (at_eq Γ X 41 [1, 1, 1, 0, 1, 0] _).trans (by kernel_rfl)
theorem impl_ParseInt_eq (a0 : ByteArray) : impl_ParseInt a0 = Lb.pint a0 := den_ext Γ X 42 rfl _
theorem impl_ParseDivisor_eq (a0 : ByteArray) : impl_ParseDivisor a0 =
    cond (a0.toList == (⟨#[110, 111, 110, 101]⟩ : ByteArray).toList)
      (some (([] : List Int), true))
      ((impl_SplitAny a0 (⟨#[32]⟩ : ByteArray)).bind fun r1 =>
        impl_ParseDivisor_l0 ([] : List Int) r1 (r1.length : Int) 0) :=
  (den_eq Γ X 43 rfl _).trans (by kernel_rfl)
theorem impl_ParseDivisor_l0_eq (x4 : (List Int)) (x12 : (List ByteArray)) (x13 : Int) (x14 : Int) : impl_ParseDivisor_l0 x4 x12 x13 x14 =
    cond (decide (x14 < x13))
      (cond (inside x14 x12.length)
        ((impl_ParseInt (x12.getD x14.toNat ByteArray.empty)).bind fun r2 =>
          cond (!r2.2)
            (some (([] : List Int), false))
            (cond (decide (x4.length + ([r2.1] : List Int).length ≤ room))
              (impl_ParseDivisor_l0 (x4 ++ ([r2.1] : List Int)) x12 x13 (w64 (x14 + 1)))
              (none)))
        (none))
      (some (x4, true)) :=
  (at_eq Γ X 43 [1, 1, 1, 0, 1, 0] _).trans (by kernel_rfl)
theorem laws_heldIntS_eq (a0 : (List Int)) (a1 : Int) : laws_heldIntS a0 a1 =
    laws_heldIntS_l0 a0 a1 0 :=
  (den_eq Γ X 44 rfl _).trans (by kernel_rfl)
theorem laws_heldIntS_l0_eq (x0 : (List Int)) (x1 : Int) (x5 : Int) : laws_heldIntS_l0 x0 x1 x5 =
    cond (decide (x5 < (x0.length : Int)))
      (cond (inside x5 x0.length)
        (cond (((x0.getD x5.toNat 0) : Int) != x1)
          (some (-1))
          (laws_heldIntS_l0 x0 (w64 (x1 + 1)) (w64 (x5 + 1))))
        (none))
      (some x1) :=
  (at_eq Γ X 44 [1, 0, 1, 0] _).trans (by kernel_rfl)
theorem laws_FnExactParseDivisor_eq (a0 : ByteArray) : laws_FnExactParseDivisor a0 =
    cond (decide ((a0.size : Int) > 1048576))
      (some true)
      ((spec_ParseDivisor a0).bind fun r1 =>
        (impl_ParseDivisor a0).bind fun r2 =>
          (laws_eqIntS r2.1 r1.1).bind fun r3 =>
            cond (!r3)
              (some false)
              (cond (!((r2.2 : Bool) == r1.2))
                (some false)
                ((laws_markIntS r2.1 1).bind fun r4 =>
                  (laws_heldIntS r4.2 1).bind fun r5 =>
                    cond (decide (r5 < 0))
                      (some false)
                      (cond ((r5 : Int) != r4.1)
                        (some false)
                        (laws_FnExactParseDivisor_c15 a0 r1.1 r1.2 r4.2 r4.1))))) :=
  (den_eq Γ X 45 rfl _).trans (by kernel_rfl)
theorem laws_FnExactParseDivisor_c15_eq (x0 : ByteArray) (x3 : (List Int)) (x4 : Bool) (x5 : (List Int)) (x7 : Int) : laws_FnExactParseDivisor_c15 x0 x3 x4 x5 x7 =
    (impl_ParseDivisor x0).bind fun r6 =>
      (laws_eqIntS r6.1 x3).bind fun r7 =>
        cond (!r7)
          (some false)
          (cond (!((r6.2 : Bool) == x4))
            (some false)
            ((laws_heldIntS x5 1).bind fun r8 =>
              cond (decide (r8 < 0))
                (some false)
                (cond ((r8 : Int) != x7)
                  (some false)
                  (some true)))) :=
  (at_eq Γ X 45 [1, 1, 1, 1, 1, 1, 1, 1, 1, 1, 1, 0] _).trans (by kernel_rfl)
theorem spec_ParseMorphism_eq (a0 : ByteArray) : spec_ParseMorphism a0 =
    (spec_SplitAny a0 (⟨#[124]⟩ : ByteArray)).bind fun r1 =>
      cond (((r1.length : Int) : Int) != 2)
        (some ((([] : List Int), ([] : List Int)), false))
        (cond (inside 0 r1.length)
          (cond ((((r1.getD 0 ByteArray.empty).size : Int) : Int) == 0)
            (some ((([] : List Int), ([] : List Int)), false))
            (cond (inside 1 r1.length)
              (cond ((((r1.getD 1 ByteArray.empty).size : Int) : Int) == 0)
                (some ((([] : List Int), ([] : List Int)), false))
                (cond (inside 0 r1.length)
                  (cond (inside 0 r1.length)
                    (cond (decide (0 ≤ 0) && decide (0 ≤ w64 (((r1.getD 0 ByteArray.empty).size : Int) - 1)) && decide (w64 (((r1.getD 0 ByteArray.empty).size : Int) - 1) ≤ ((r1.getD 0 ByteArray.empty).size : Int)))
                      ((spec_ParseDivisor ((r1.getD 0 ByteArray.empty).extract 0 ((w64 (((r1.getD 0 ByteArray.empty).size : Int) - 1)).toNat))).bind fun r2 =>
                        cond (inside 1 r1.length)
                          (cond (decide (0 ≤ 1) && decide (1 ≤ ((r1.getD 1 ByteArray.empty).size : Int)) && decide (((r1.getD 1 ByteArray.empty).size : Int) ≤ ((r1.getD 1 ByteArray.empty).size : Int)))
                            ((spec_ParseDivisor ((r1.getD 1 ByteArray.empty).extract 1 (((r1.getD 1 ByteArray.empty).size : Int).toNat))).bind fun r3 =>
                              spec_ParseMorphism_c6 a0 (([] : List Int), ([] : List Int)) r2.2 r3.1 r3.2 (r2.1, r2.2))
                            (none))
                          (none))
                      (none))
                    (none))
                  (none)))
              (none)))
          (none)) :=
  (den_eq Γ X 46 rfl _).trans (by kernel_rfl)
theorem spec_ParseMorphism_c6_eq (x0 : ByteArray) (x2 : ((List Int) × (List Int))) (x6 : Bool) (x7 : (List Int)) (x8 : Bool) (x40 : ((List Int) × Bool)) : spec_ParseMorphism_c6 x0 x2 x6 x7 x8 x40 =
    cond (!x6)
      (some ((([] : List Int), ([] : List Int)), false))
      (cond (!x8)
        (some ((([] : List Int), ([] : List Int)), false))
        ((spec_FormatMorphism (x40.1, x7)).bind fun r4 =>
          cond (!(r4.toList == x0.toList))
            (some ((([] : List Int), ([] : List Int)), false))
            (some ((x40.1, x7), true)))) :=
  (at_eq Γ X 46 [1, 1, 1, 1, 1, 0] _).trans (by kernel_rfl)
theorem strings_Cut_eq (a0 : ByteArray) (a1 : ByteArray) : strings_Cut a0 a1 = Lb.cut a0 a1 := den_ext Γ X 47 rfl _
theorem impl_ParseMorphism_eq (a0 : ByteArray) : impl_ParseMorphism a0 =
    (strings_Cut a0 (⟨#[32, 124, 32]⟩ : ByteArray)).bind fun r1 =>
      (impl_ParseDivisor r1.1).bind fun r2 =>
        (impl_ParseDivisor r1.2.1).bind fun r3 =>
          cond (!r2.2)
            (impl_ParseMorphism_c6 (([] : List Int), ([] : List Int)))
            (cond (!r3.2)
              (impl_ParseMorphism_c6 (([] : List Int), ([] : List Int)))
              ((impl_FormatMorphism (r2.1, r3.1)).bind fun r4 =>
                cond (!(r4.toList == a0.toList))
                  (impl_ParseMorphism_c6 (([] : List Int), ([] : List Int)))
                  (impl_ParseMorphism_c7 (([] : List Int), ([] : List Int)) (r2.1, r3.1)))) :=
  (den_eq Γ X 48 rfl _).trans (by kernel_rfl)
theorem impl_ParseMorphism_c6_eq (x2 : ((List Int) × (List Int))) : impl_ParseMorphism_c6 x2 =
    some ((([] : List Int), ([] : List Int)), false) :=
  (at_eq Γ X 48 [1, 1, 1, 1, 1, 0, 1, 0, 0] _).trans (by kernel_rfl)
theorem impl_ParseMorphism_c7_eq (x2 : ((List Int) × (List Int))) (x11 : ((List Int) × (List Int))) : impl_ParseMorphism_c7 x2 x11 =
    some (x11, true) :=
  (at_eq Γ X 48 [1, 1, 1, 1, 1, 1, 0] _).trans (by kernel_rfl)
theorem laws_markMorphism_eq (a0 : ((List Int) × (List Int))) (a1 : Int) : laws_markMorphism a0 a1 =
    (laws_markIntS a0.1 a1).bind fun r1 =>
      (laws_markIntS a0.2 r1.1).bind fun r2 =>
        some (r2.1, r1.2, r2.2) :=
  (den_eq Γ X 49 rfl _).trans (by kernel_rfl)
theorem laws_heldMorphism_eq (a0 : ((List Int) × (List Int))) (a1 : Int) : laws_heldMorphism a0 a1 =
    (laws_heldIntS a0.1 a1).bind fun r1 =>
      cond (decide (r1 < 0))
        (some (-1))
        ((laws_heldIntS a0.2 r1).bind fun r2 =>
          cond (decide (r2 < 0))
            (some (-1))
            (some r2)) :=
  (den_eq Γ X 50 rfl _).trans (by kernel_rfl)
theorem laws_FnExactParseMorphism_eq (a0 : ByteArray) : laws_FnExactParseMorphism a0 =
    cond (decide ((a0.size : Int) > 1048576))
      (some true)
      ((spec_ParseMorphism a0).bind fun r1 =>
        (impl_ParseMorphism a0).bind fun r2 =>
          (laws_eqMorphism r2.1 r1.1).bind fun r3 =>
            cond (!r3)
              (some false)
              (cond (!((r2.2 : Bool) == r1.2))
                (some false)
                ((laws_markMorphism r2.1 1).bind fun r4 =>
                  (laws_heldMorphism r4.2 1).bind fun r5 =>
                    cond (decide (r5 < 0))
                      (some false)
                      (laws_FnExactParseMorphism_c13 a0 r1.1 r1.2 r4.2 r4.1 r5)))) :=
  (den_eq Γ X 51 rfl _).trans (by kernel_rfl)
theorem laws_FnExactParseMorphism_c13_eq (x0 : ByteArray) (x3 : ((List Int) × (List Int))) (x4 : Bool) (x5 : ((List Int) × (List Int))) (x7 : Int) (x8 : Int) : laws_FnExactParseMorphism_c13 x0 x3 x4 x5 x7 x8 =
    cond ((x8 : Int) != x7)
      (some false)
      ((impl_ParseMorphism x0).bind fun r6 =>
        (laws_eqMorphism r6.1 x3).bind fun r7 =>
          cond (!r7)
            (some false)
            (cond (!((r6.2 : Bool) == x4))
              (some false)
              ((laws_heldMorphism x5 1).bind fun r8 =>
                cond (decide (r8 < 0))
                  (some false)
                  (cond ((r8 : Int) != x7)
                    (some false)
                    (some true))))) :=
  (at_eq Γ X 51 [1, 1, 1, 1, 1, 1, 1, 1, 1, 1, 0, 0] _).trans (by kernel_rfl)
end Go.Proofs.YtaapeofhcopajaaDoor.D

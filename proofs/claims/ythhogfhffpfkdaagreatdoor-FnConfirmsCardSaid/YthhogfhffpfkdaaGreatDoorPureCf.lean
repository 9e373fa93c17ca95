/-
  FnConfirms: the five sessions, carried out step by step.
-/
import Derived.Test.YthhogfhffpfkdaaGreatDoorKa
import Derived.Test.YthhogfhffpfkdaaGreatDoorPureGz
import Derived.KernelRfl
namespace Go.Proofs.YthhogfhffpfkdaaGreatDoor.D
open Go Go.Den
set_option linter.unusedVariables false
set_option maxRecDepth 100000
noncomputable def cfR (v : Int) : Option Bool :=
 (impl_FormatInt (v)).bind fun r2 =>
 cond (decide ((⟨#[103, 114, 97, 112, 104, 32, 51, 58, 32, 48, 45, 49, 32, 48, 45, 49, 32, 48, 45, 50, 32, 49, 45, 50, 10, 99, 104, 105, 112, 115, 32, 49, 32, 48, 32, 45, 49, 10, 119, 105, 110, 10, 99, 104, 105, 112, 115, 32, 53, 32, 48, 32, 45, 53, 10, 119, 105, 110, 10, 99, 104, 105, 112, 115, 32, 48, 32]⟩ : ByteArray).size + r2.size ≤ 9223372036854775807))
 (cond (decide (((⟨#[103, 114, 97, 112, 104, 32, 51, 58, 32, 48, 45, 49, 32, 48, 45, 49, 32, 48, 45, 50, 32, 49, 45, 50, 10, 99, 104, 105, 112, 115, 32, 49, 32, 48, 32, 45, 49, 10, 119, 105, 110, 10, 99, 104, 105, 112, 115, 32, 53, 32, 48, 32, 45, 53, 10, 119, 105, 110, 10, 99, 104, 105, 112, 115, 32, 48, 32]⟩ : ByteArray) ++ r2).size + (⟨#[32, 48, 10, 114, 105, 101, 109, 97, 110, 110, 10, 99, 104, 105, 112, 115, 32, 49, 32, 49, 32, 48, 10, 114, 97, 110, 107, 10, 97, 108, 108, 10, 105, 100, 101, 110, 116, 105, 116, 121, 10, 116, 114, 101, 101, 115, 10, 114, 101, 99, 117, 114, 114, 101, 110, 116, 10, 103, 111, 110, 97, 108, 105, 116, 121, 10, 103, 97, 112, 115, 10, 116, 117, 116, 116, 101, 10, 119, 97, 108, 107, 32, 50]⟩ : ByteArray).size ≤ 9223372036854775807))
 ((impl_RunSession (((⟨#[103, 114, 97, 112, 104, 32, 51, 58, 32, 48, 45, 49, 32, 48, 45, 49, 32, 48, 45, 50, 32, 49, 45, 50, 10, 99, 104, 105, 112, 115, 32, 49, 32, 48, 32, 45, 49, 10, 119, 105, 110, 10, 99, 104, 105, 112, 115, 32, 53, 32, 48, 32, 45, 53, 10, 119, 105, 110, 10, 99, 104, 105, 112, 115, 32, 48, 32]⟩ : ByteArray) ++ r2) ++ (⟨#[32, 48, 10, 114, 105, 101, 109, 97, 110, 110, 10, 99, 104, 105, 112, 115, 32, 49, 32, 49, 32, 48, 10, 114, 97, 110, 107, 10, 97, 108, 108, 10, 105, 100, 101, 110, 116, 105, 116, 121, 10, 116, 114, 101, 101, 115, 10, 114, 101, 99, 117, 114, 114, 101, 110, 116, 10, 103, 111, 110, 97, 108, 105, 116, 121, 10, 103, 97, 112, 115, 10, 116, 117, 116, 116, 101, 10, 119, 97, 108, 107, 32, 50]⟩ : ByteArray))).bind fun r3 =>
 (impl_SplitLines r3.1).bind fun r4 =>
 cond (((r4.length : Int) : Int) == 17)
 (cond (inside 0 r4.length)
 (cond ((r4.getD 0 ByteArray.empty).toList == (⟨#[103, 101, 110, 117, 115, 32, 50, 32, 116, 114, 101, 101, 115, 32, 53, 32, 103, 114, 111, 117, 112, 32, 53]⟩ : ByteArray).toList)
 (cond (inside 1 r4.length)
 (cond ((r4.getD 1 ByteArray.empty).toList == (⟨#[111, 107]⟩ : ByteArray).toList)
 (cond (inside 2 r4.length)
 (cond ((r4.getD 2 ByteArray.empty).toList == (⟨#[108, 111, 115, 116, 58, 32, 48, 32, 48, 32, 48, 32, 49]⟩ : ByteArray).toList)
 (cond (inside 4 r4.length)
 (cond ((r4.getD 4 ByteArray.empty).toList == (⟨#[119, 111, 110, 32, 98, 121, 32, 51, 32, 50, 32, 48]⟩ : ByteArray).toList)
 (cond (inside 6 r4.length)
 ((impl_FormatInt (w64 ((v) - 2))).bind fun r5 =>
 cond (decide (r5.size + (⟨#[32, 45, 32, 45, 49, 32, 61, 32]⟩ : ByteArray).size ≤ 9223372036854775807))
 (cond (decide ((r5 ++ (⟨#[32, 45, 32, 45, 49, 32, 61, 32]⟩ : ByteArray)).size + r2.size ≤ 9223372036854775807))
 (cond (decide (((r5 ++ (⟨#[32, 45, 32, 45, 49, 32, 61, 32]⟩ : ByteArray)) ++ r2).size + (⟨#[32, 43, 32, 49, 32, 45, 32, 50]⟩ : ByteArray).size ≤ 9223372036854775807))
 (cond ((r4.getD 6 ByteArray.empty).toList == (((r5 ++ (⟨#[32, 45, 32, 45, 49, 32, 61, 32]⟩ : ByteArray)) ++ r2) ++ (⟨#[32, 43, 32, 49, 32, 45, 32, 50]⟩ : ByteArray)).toList)
 (cond (inside 8 r4.length)
 (cond ((r4.getD 8 ByteArray.empty).toList == (⟨#[114, 97, 110, 107, 32, 49, 32, 98, 117, 116, 32, 110, 111, 116, 32, 48, 32, 49, 32, 49]⟩ : ByteArray).toList)
 (cond (inside 9 r4.length)
 (cond ((r4.getD 9 ByteArray.empty).toList == (⟨#[48, 32, 48, 32, 50, 59, 49, 32, 49, 32, 48]⟩ : ByteArray).toList)
 (cond (inside 10 r4.length)
 (cond ((r4.getD 10 ByteArray.empty).toList == (⟨#[48, 32, 50, 32, 49]⟩ : ByteArray).toList)
 (cond (inside 11 r4.length)
 (cond ((r4.getD 11 ByteArray.empty).toList == (⟨#[48, 32, 50, 59, 48, 32, 51, 59, 49, 32, 50, 59, 49, 32, 51, 59, 50, 32, 51]⟩ : ByteArray).toList)
 (cond (inside 12 r4.length)
 (cond ((r4.getD 12 ByteArray.empty).toList == (⟨#[48, 32, 48, 32, 49, 59, 48, 32, 49, 32, 48, 59, 48, 32, 49, 32, 49, 59, 48, 32, 50, 32, 48, 59, 48, 32, 50, 32, 49]⟩ : ByteArray).toList)
 (cond (inside 13 r4.length)
 (cond ((r4.getD 13 ByteArray.empty).toList == (⟨#[50]⟩ : ByteArray).toList)
 (cond (inside 14 r4.length)
 (cond ((r4.getD 14 ByteArray.empty).toList == (⟨#[49, 32, 50]⟩ : ByteArray).toList)
 (cond (inside 15 r4.length)
 (cond ((r4.getD 15 ByteArray.empty).toList == (⟨#[121, 32, 43, 32, 121, 50, 32, 43, 32, 120, 32, 43, 32, 120, 121, 32, 43, 32, 120, 50]⟩ : ByteArray).toList)
 (cond (inside 16 r4.length)
 (some ((r4.getD 16 ByteArray.empty).toList == (⟨#[50]⟩ : ByteArray).toList))
 (none))
 (some false))
 (none))
 (some false))
 (none))
 (some false))
 (none))
 (some false))
 (none))
 (some false))
 (none))
 (some false))
 (none))
 (some false))
 (none))
 (some false))
 (none))
 (some false))
 (none))
 (none))
 (none))
 (none))
 (some false))
 (none))
 (some false))
 (none))
 (some false))
 (none))
 (some false))
 (none))
 (some false))
 (none))
 (none)
noncomputable def cfK (v : Int) : Option Bool :=
 (fk (v) fun v23 => K.k33 v23).bind fun r2 => cond (decide ((⟨#[103, 114, 97, 112, 104, 32, 51, 58, 32, 48, 45, 49, 32, 48, 45, 49, 32, 48, 45, 50, 32, 49, 45, 50, 10, 99, 104, 105, 112, 115, 32, 49, 32, 48, 32, 45, 49, 10, 119, 105, 110, 10, 99, 104, 105, 112, 115, 32, 53, 32, 48, 32, 45, 53, 10, 119, 105, 110, 10, 99, 104, 105, 112, 115, 32, 48, 32]⟩ : ByteArray).size + r2.size ≤ 9223372036854775807))
 (cond (decide (((⟨#[103, 114, 97, 112, 104, 32, 51, 58, 32, 48, 45, 49, 32, 48, 45, 49, 32, 48, 45, 50, 32, 49, 45, 50, 10, 99, 104, 105, 112, 115, 32, 49, 32, 48, 32, 45, 49, 10, 119, 105, 110, 10, 99, 104, 105, 112, 115, 32, 53, 32, 48, 32, 45, 53, 10, 119, 105, 110, 10, 99, 104, 105, 112, 115, 32, 48, 32]⟩ : ByteArray) ++ r2).size + (⟨#[32, 48, 10, 114, 105, 101, 109, 97, 110, 110, 10, 99, 104, 105, 112, 115, 32, 49, 32, 49, 32, 48, 10, 114, 97, 110, 107, 10, 97, 108, 108, 10, 105, 100, 101, 110, 116, 105, 116, 121, 10, 116, 114, 101, 101, 115, 10, 114, 101, 99, 117, 114, 114, 101, 110, 116, 10, 103, 111, 110, 97, 108, 105, 116, 121, 10, 103, 97, 112, 115, 10, 116, 117, 116, 116, 101, 10, 119, 97, 108, 107, 32, 50]⟩ : ByteArray).size ≤ 9223372036854775807))
 ((fk (((⟨#[103, 114, 97, 112, 104, 32, 51, 58, 32, 48, 45, 49, 32, 48, 45, 49, 32, 48, 45, 50, 32, 49, 45, 50, 10, 99, 104, 105, 112, 115, 32, 49, 32, 48, 32, 45, 49, 10, 119, 105, 110, 10, 99, 104, 105, 112, 115, 32, 53, 32, 48, 32, 45, 53, 10, 119, 105, 110, 10, 99, 104, 105, 112, 115, 32, 48, 32]⟩ : ByteArray) ++ r2) ++ (⟨#[32, 48, 10, 114, 105, 101, 109, 97, 110, 110, 10, 99, 104, 105, 112, 115, 32, 49, 32, 49, 32, 48, 10, 114, 97, 110, 107, 10, 97, 108, 108, 10, 105, 100, 101, 110, 116, 105, 116, 121, 10, 116, 114, 101, 101, 115, 10, 114, 101, 99, 117, 114, 114, 101, 110, 116, 10, 103, 111, 110, 97, 108, 105, 116, 121, 10, 103, 97, 112, 115, 10, 116, 117, 116, 116, 101, 10, 119, 97, 108, 107, 32, 50]⟩ : ByteArray)) fun v24 => K.k192 v24).bind fun r3 => (K.k191 r3.1).bind fun r4 => cond (((r4.length : Int) : Int) == 17)
 (cond (inside 0 r4.length)
 (cond ((r4.getD 0 ByteArray.empty).toList == (⟨#[103, 101, 110, 117, 115, 32, 50, 32, 116, 114, 101, 101, 115, 32, 53, 32, 103, 114, 111, 117, 112, 32, 53]⟩ : ByteArray).toList)
 (cond (inside 1 r4.length)
 (cond ((r4.getD 1 ByteArray.empty).toList == (⟨#[111, 107]⟩ : ByteArray).toList)
 (cond (inside 2 r4.length)
 (cond ((r4.getD 2 ByteArray.empty).toList == (⟨#[108, 111, 115, 116, 58, 32, 48, 32, 48, 32, 48, 32, 49]⟩ : ByteArray).toList)
 (cond (inside 4 r4.length)
 (cond ((r4.getD 4 ByteArray.empty).toList == (⟨#[119, 111, 110, 32, 98, 121, 32, 51, 32, 50, 32, 48]⟩ : ByteArray).toList)
 (cond (inside 6 r4.length)
 ((fk (w64 ((v) - 2)) fun v25 => K.k33 v25).bind fun r5 => cond (decide (r5.size + (⟨#[32, 45, 32, 45, 49, 32, 61, 32]⟩ : ByteArray).size ≤ 9223372036854775807))
 (cond (decide ((r5 ++ (⟨#[32, 45, 32, 45, 49, 32, 61, 32]⟩ : ByteArray)).size + r2.size ≤ 9223372036854775807))
 (cond (decide (((r5 ++ (⟨#[32, 45, 32, 45, 49, 32, 61, 32]⟩ : ByteArray)) ++ r2).size + (⟨#[32, 43, 32, 49, 32, 45, 32, 50]⟩ : ByteArray).size ≤ 9223372036854775807))
 (cond ((r4.getD 6 ByteArray.empty).toList == (((r5 ++ (⟨#[32, 45, 32, 45, 49, 32, 61, 32]⟩ : ByteArray)) ++ r2) ++ (⟨#[32, 43, 32, 49, 32, 45, 32, 50]⟩ : ByteArray)).toList)
 (cond (inside 8 r4.length)
 (cond ((r4.getD 8 ByteArray.empty).toList == (⟨#[114, 97, 110, 107, 32, 49, 32, 98, 117, 116, 32, 110, 111, 116, 32, 48, 32, 49, 32, 49]⟩ : ByteArray).toList)
 (cond (inside 9 r4.length)
 (cond ((r4.getD 9 ByteArray.empty).toList == (⟨#[48, 32, 48, 32, 50, 59, 49, 32, 49, 32, 48]⟩ : ByteArray).toList)
 (cond (inside 10 r4.length)
 (cond ((r4.getD 10 ByteArray.empty).toList == (⟨#[48, 32, 50, 32, 49]⟩ : ByteArray).toList)
 (cond (inside 11 r4.length)
 (cond ((r4.getD 11 ByteArray.empty).toList == (⟨#[48, 32, 50, 59, 48, 32, 51, 59, 49, 32, 50, 59, 49, 32, 51, 59, 50, 32, 51]⟩ : ByteArray).toList)
 (cond (inside 12 r4.length)
 (cond ((r4.getD 12 ByteArray.empty).toList == (⟨#[48, 32, 48, 32, 49, 59, 48, 32, 49, 32, 48, 59, 48, 32, 49, 32, 49, 59, 48, 32, 50, 32, 48, 59, 48, 32, 50, 32, 49]⟩ : ByteArray).toList)
 (cond (inside 13 r4.length)
 (cond ((r4.getD 13 ByteArray.empty).toList == (⟨#[50]⟩ : ByteArray).toList)
 (cond (inside 14 r4.length)
 (cond ((r4.getD 14 ByteArray.empty).toList == (⟨#[49, 32, 50]⟩ : ByteArray).toList)
 (cond (inside 15 r4.length)
 (cond ((r4.getD 15 ByteArray.empty).toList == (⟨#[121, 32, 43, 32, 121, 50, 32, 43, 32, 120, 32, 43, 32, 120, 121, 32, 43, 32, 120, 50]⟩ : ByteArray).toList)
 (cond (inside 16 r4.length)
 (fk ((r4.getD 16 ByteArray.empty).toList == (⟨#[50]⟩ : ByteArray).toList) some)
 (none))
 (some false))
 (none))
 (some false))
 (none))
 (some false))
 (none))
 (some false))
 (none))
 (some false))
 (none))
 (some false))
 (none))
 (some false))
 (none))
 (some false))
 (none))
 (some false))
 (none))
 (none))
 (none))
 (none))
 (some false))
 (none))
 (some false))
 (none))
 (some false))
 (none))
 (some false))
 (none))
 (some false))
 (none))
 (none)
theorem cfK_s {v} : Le (cfK v) (cfR v) := by
  unfold cfK cfR
  exact (LB (LF K.q33) fun _ => (LC (LC (LB (LF K.q192) fun _ => (LB K.q191 fun _ => (LC (LC (LC (LC (LC (LC (LC (LC (LC (LC (LB (LF K.q33) fun _ => (LC (LC (LC (LC (LC (LC (LC (LC (LC (LC (LC (LC (LC (LC (LC (LC (LC (LC (LC (LC (LC (LF LR) LR) LR) LR) LR) LR) LR) LR) LR) LR) LR) LR) LR) LR) LR) LR) LR) LR) LR) LR) LR) LR)) LR) LR) LR) LR) LR) LR) LR) LR) LR) LR))) LR) LR))
theorem cf3 : cfR 3 = some true := cfK_s true (by kernel_rfl)
theorem cf4 : cfR 4 = some true := cfK_s true (by kernel_rfl)
theorem cf5 : cfR 5 = some true := cfK_s true (by kernel_rfl)
theorem cf6 : cfR 6 = some true := cfK_s true (by kernel_rfl)
theorem cf7 : cfR 7 = some true := cfK_s true (by kernel_rfl)
theorem law_Confirms {l : List Int} : laws_FnConfirms l = some true := by
  rw [laws_FnConfirms_eq]
  by_cases hl : l.length ≤ 1048576
  case neg => rw [decide_eq_true (show (l.length : Int) > 1048576 by omega)]; rfl
  rw [decide_eq_false (show ¬ (l.length : Int) > 1048576 by omega), cond_false]
  obtain ⟨x, h1, h2, h3⟩ := num_p hl (n := 1) (by omega)
  rw [show spec_MakeNum l 1 = some x from h1, Option.bind_some]
  have hm : 0 ≤ Int.tmod x 5 ∧ Int.tmod x 5 < 5 := ⟨Int.tmod_nonneg _ h2, Int.tmod_lt_of_pos _ (by omega)⟩
  have e : w64 (3 + Int.tmod x 5) = 3 + Int.tmod x 5 := w64_id (by omega) (by omega)
  show cfR (w64 (3 + Int.tmod x 5)) = some true
  rw [e]
  generalize Int.tmod x 5 = y at hm
  have hy : y = 0 ∨ y = 1 ∨ y = 2 ∨ y = 3 ∨ y = 4 := by omega
  rcases hy with rfl | rfl | rfl | rfl | rfl
  · exact cf3
  · exact cf4
  · exact cf5
  · exact cf6
  · exact cf7
end Go.Proofs.YthhogfhffpfkdaaGreatDoor.D

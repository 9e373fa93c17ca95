/-
  FnExactGonalDivisor: the law answers yes to all its arguments, and leaves them as they were: proved for every input.
-/
import Derived.Test.YtdkokleocohepaaRows
import Derived.Test.YtdkokleocohepaaFacts
import Derived.Test.YtdkokleocohepaaPureX
import Derived.ProofKit
import Derived.SizedLaws
namespace Go.Proofs.Ytdkokleocohepaa
open Go Go.ChangeShapes Go.WideShapes Go.ChangeAt Go.RowKit Go.Den
set_option linter.unusedVariables false
set_option maxRecDepth 100000
theorem GonalDivisorOwn : ownKnob Try.prog.godebug = none := by kernel_rfl
theorem GonalDivisorLaid : laidOutB Try.prog = true := by kernel_rfl
theorem GonalDivisorRels : Rels Go.Proofs.Try.prog Go.Proofs.Try.f5.params.toList [(.cons (.int .i64) (.sl (.cons (.int .i64) (.int .i64))))] := by
  rw [Go.Proofs.Try.params5]
  exact ⟨⟨_, Go.Proofs.Try.underlying24, by kernel_rfl, _, _, rfl, rfl, by kernel_rfl, Go.Proofs.Try.underlying3, .inl ⟨_, rfl, rfl, by kernel_rfl, ⟨55, Go.Proofs.Try.underlying22, by kernel_rfl, by decide, ⟨_, Go.Proofs.Try.underlying55, by kernel_rfl, _, _, rfl, rfl, by kernel_rfl, Go.Proofs.Try.underlying3, .inl ⟨_, rfl, rfl, by kernel_rfl, Go.Proofs.Try.underlying3⟩⟩⟩⟩⟩, trivial⟩
theorem GonalDivisorRead : ∀ t ∈ Go.Proofs.Try.f5.params.toList, Go.Proofs.Try.prog.readableRec t = true ∧ t < Go.Proofs.Try.prog.types.size := by
  rw [Go.Proofs.Try.params5]
  intro t ht
  simp only [List.mem_cons, List.not_mem_nil, or_false] at ht
  rcases ht with rfl <;> exact ⟨by kernel_rfl, of_decide_eq_true (by kernel_rfl)⟩
theorem GonalDivisorArgs (zs : List Arg) (h : zs.map Arg.t = [(.cons (.int .i64) (.sl (.cons (.int .i64) (.int .i64))))]) (hr : ∀ z ∈ zs, Rng z.t z.x) : ∃ (a : (prodTy (D.Γ.insL 55)).den) (r : (prodTy (D.Γ.outsL 55)).den), unProd (D.Γ.insL 55) a = zs.map Arg.d ∧ unProd (D.Γ.outsL 55) r = [⟨.bool, true⟩] ∧ den D.Γ D.X 55 a = some r := by
  match zs, h, hr with
  | [⟨t0, x0, g0⟩], h, hr =>
    simp only [List.map_cons, List.map_nil, List.cons.injEq, and_true] at h
    obtain rfl := h
    have h0 := hr ⟨_, x0, g0⟩ (by simp)
    exact ⟨x0, true, rfl, rfl, D.law_GonalDivisor (Nat.le_trans h0.2.1 (by decide))⟩
theorem GonalDivisorLifted (os : Os) (started : os.Started) (H : Type) (enc : TypeId × Value → H) :
    ReturnsInHanded {} Try.checked os 5 .any (Rows.fnExactGonalDivisorSpec.pre6 enc Try.prog Try.f5 Rows.fnExactGonalDivisorRow.domain false) (Rows.fnExactGonalDivisorSpec.post enc Try.prog Try.f5 false true false false) := by
  refine returnsInHanded_of_change_sized (C := Try.checked) GonalDivisorOwn started (by kernel_rfl) Try.func5
    (ChangeSpec.witness6 (enc := enc) (C := Try.checked) false ⟨#[], #[.agg #[.int .i64 0, .slice none 0 0]], []⟩ 8 (by kernel_rfl) (by kernel_rfl) (by kernel_rfl) (by kernel_rfl)) ?_
  intro W base args ds gs before hval hW _ _ _
  refine law_contract D.good GonalDivisorLaid (n := 55) rfl rfl (tys := [(.cons (.int .i64) (.sl (.cons (.int .i64) (.int .i64))))]) rfl GonalDivisorRels GonalDivisorRead (B := 4) rfl Go.Proofs.Try.underlying4 GonalDivisorArgs (s := Rows.fnExactGonalDivisorSpec) rfl (fun ds hd => ?_) false hval hW noTold_ok
  rw [Go.Proofs.Try.params5] at hd
  match ds, hd with
  | [_], _ => rfl
theorem GonalDivisorHolds : Rows.FnExactGonalDivisorSaid :=
  OpenClaim.holds_of_wide 5 Try.f5 rfl rfl rfl rfl rfl rfl rfl ⟨rfl, rfl, rfl, rfl, rfl⟩ rfl rfl rfl rfl rfl (by kernel_rfl) Try.func5 (by kernel_rfl)
    (of_decide_eq_true (by kernel_rfl)) (by unfold Func.isWrapper; first | (rw [if_pos (by decide +kernel)]; kernel_rfl) | (rw [if_neg (by decide +kernel)]; exact ⟨rfl, rfl⟩))
    (fun os started H enc _ => GonalDivisorLifted os started H enc)
end Go.Proofs.Ytdkokleocohepaa

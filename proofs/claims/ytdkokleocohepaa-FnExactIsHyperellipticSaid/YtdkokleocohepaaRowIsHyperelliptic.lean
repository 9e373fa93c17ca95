/-
  FnExactIsHyperelliptic: the law answers yes to all its arguments, and leaves them as they were: proved for every input.
-/
import Derived.Test.YtdkokleocohepaaRows
import Derived.Test.YtdkokleocohepaaFacts
import Derived.Test.YtdkokleocohepaaPureX
import Derived.ProofKit
import Derived.SizedLaws
namespace Go.Proofs.Ytdkokleocohepaa
open Go Go.ChangeShapes Go.WideShapes Go.ChangeAt Go.RowKit Go.Den
set_option linter.unusedVariables false
set_option maxRecDepth 100000
theorem IsHyperellipticOwn : ownKnob Try.prog.godebug = none := by kernel_rfl
theorem IsHyperellipticLaid : laidOutB Try.prog = true := by kernel_rfl
theorem IsHyperellipticRels : Rels Go.Proofs.Try.prog Go.Proofs.Try.f4.params.toList [(.cons (.int .i64) (.sl (.cons (.int .i64) (.int .i64))))] := by
  rw [Go.Proofs.Try.params4]
  exact ⟨⟨_, Go.Proofs.Try.underlying24, by kernel_rfl, _, _, rfl, rfl, by kernel_rfl, Go.Proofs.Try.underlying3, .inl ⟨_, rfl, rfl, by kernel_rfl, ⟨55, Go.Proofs.Try.underlying22, by kernel_rfl, by decide, ⟨_, Go.Proofs.Try.underlying55, by kernel_rfl, _, _, rfl, rfl, by kernel_rfl, Go.Proofs.Try.underlying3, .inl ⟨_, rfl, rfl, by kernel_rfl, Go.Proofs.Try.underlying3⟩⟩⟩⟩⟩, trivial⟩
theorem IsHyperellipticRead : ∀ t ∈ Go.Proofs.Try.f4.params.toList, Go.Proofs.Try.prog.readableRec t = true ∧ t < Go.Proofs.Try.prog.types.size := by
  rw [Go.Proofs.Try.params4]
  intro t ht
  simp only [List.mem_cons, List.not_mem_nil, or_false] at ht
  rcases ht with rfl <;> exact ⟨by kernel_rfl, of_decide_eq_true (by kernel_rfl)⟩
theorem IsHyperellipticArgs (zs : List Arg) (h : zs.map Arg.t = [(.cons (.int .i64) (.sl (.cons (.int .i64) (.int .i64))))]) (hr : ∀ z ∈ zs, Rng z.t z.x) : ∃ (a : (prodTy (D.Γ.insL 56)).den) (r : (prodTy (D.Γ.outsL 56)).den), unProd (D.Γ.insL 56) a = zs.map Arg.d ∧ unProd (D.Γ.outsL 56) r = [⟨.bool, true⟩] ∧ den D.Γ D.X 56 a = some r := by
  match zs, h, hr with
  | [⟨t0, x0, g0⟩], h, hr =>
    simp only [List.map_cons, List.map_nil, List.cons.injEq, and_true] at h
    obtain rfl := h
    have h0 := hr ⟨_, x0, g0⟩ (by simp)
    exact ⟨x0, true, rfl, rfl, D.law_IsHyperelliptic (Nat.le_trans h0.2.1 (by decide))⟩
theorem IsHyperellipticLifted (os : Os) (started : os.Started) (H : Type) (enc : TypeId × Value → H) :
    ReturnsInHanded {} Try.checked os 4 .any (Rows.fnExactIsHyperellipticSpec.pre6 enc Try.prog Try.f4 Rows.fnExactIsHyperellipticRow.domain false) (Rows.fnExactIsHyperellipticSpec.post enc Try.prog Try.f4 false true false false) := by
  refine returnsInHanded_of_change_sized (C := Try.checked) IsHyperellipticOwn started (by kernel_rfl) Try.func4
    (ChangeSpec.witness6 (enc := enc) (C := Try.checked) false ⟨#[], #[.agg #[.int .i64 0, .slice none 0 0]], []⟩ 8 (by kernel_rfl) (by kernel_rfl) (by kernel_rfl) (by kernel_rfl)) ?_
  intro W base args ds gs before hval hW _ _ _
  refine law_contract D.good IsHyperellipticLaid (n := 56) rfl rfl (tys := [(.cons (.int .i64) (.sl (.cons (.int .i64) (.int .i64))))]) rfl IsHyperellipticRels IsHyperellipticRead (B := 4) rfl Go.Proofs.Try.underlying4 IsHyperellipticArgs (s := Rows.fnExactIsHyperellipticSpec) rfl (fun ds hd => ?_) false hval hW noTold_ok
  rw [Go.Proofs.Try.params4] at hd
  match ds, hd with
  | [_], _ => rfl
theorem IsHyperellipticHolds : Rows.FnExactIsHyperellipticSaid :=
  OpenClaim.holds_of_wide 4 Try.f4 rfl rfl rfl rfl rfl rfl rfl ⟨rfl, rfl, rfl, rfl, rfl⟩ rfl rfl rfl rfl rfl (by kernel_rfl) Try.func4 (by kernel_rfl)
    (of_decide_eq_true (by kernel_rfl)) (by unfold Func.isWrapper; first | (rw [if_pos (by decide +kernel)]; kernel_rfl) | (rw [if_neg (by decide +kernel)]; exact ⟨rfl, rfl⟩))
    (fun os started H enc _ => IsHyperellipticLifted os started H enc)
end Go.Proofs.Ytdkokleocohepaa

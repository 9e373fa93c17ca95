/-
  FnIdentity: the law answers yes to all its arguments, and leaves them as they were: proved for every input.
-/
import Derived.Test.YtgncajnfphlgeaaRows
import Derived.Test.YtgncajnfphlgeaaFacts
import Derived.Test.YtgncajnfphlgeaaPureFi
import Derived.ProofKit
import Derived.SizedLaws
namespace Go.Proofs.Ytgncajnfphlgeaa
open Go Go.ChangeShapes Go.WideShapes Go.ChangeAt Go.RowKit Go.Den
set_option linter.unusedVariables false
set_option maxRecDepth 100000
theorem IdentityOwn : ownKnob Try.prog.godebug = none := by kernel_rfl
theorem IdentityLaid : laidOutB Try.prog = true := by kernel_rfl
theorem IdentityRels : Rels Go.Proofs.Try.prog Go.Proofs.Try.f4.params.toList [(.sl (.int .u8))] := by
  rw [Go.Proofs.Try.params4]
  exact ⟨⟨5, Go.Proofs.Try.underlying33, by kernel_rfl, by decide, Go.Proofs.Try.underlying5⟩, trivial⟩
theorem IdentityRead : ∀ t ∈ Go.Proofs.Try.f4.params.toList, Go.Proofs.Try.prog.readableRec t = true ∧ t < Go.Proofs.Try.prog.types.size := by
  rw [Go.Proofs.Try.params4]
  intro t ht
  simp only [List.mem_cons, List.not_mem_nil, or_false] at ht
  rcases ht with rfl <;> exact ⟨by kernel_rfl, of_decide_eq_true (by kernel_rfl)⟩
theorem IdentityArgs (zs : List Arg) (h : zs.map Arg.t = [(.sl (.int .u8))]) (hr : ∀ z ∈ zs, Rng z.t z.x) : ∃ (a : (prodTy (D.Γ.insL 55)).den) (r : (prodTy (D.Γ.outsL 55)).den), unProd (D.Γ.insL 55) a = zs.map Arg.d ∧ unProd (D.Γ.outsL 55) r = [⟨.bool, true⟩] ∧ den D.Γ D.X 55 a = some r := by
  match zs, h, hr with
  | [⟨t0, x0, g0⟩], h, hr =>
    simp only [List.map_cons, List.map_nil, List.cons.injEq, and_true] at h
    obtain rfl := h
    have h0 := hr ⟨_, x0, g0⟩ (by simp)
    exact ⟨x0, true, rfl, rfl, D.law_Identity⟩
theorem IdentityLifted (os : Os) (started : os.Started) (H : Type) (enc : TypeId × Value → H) :
    ReturnsInHanded {} Try.checked os 4 .any (Rows.fnIdentitySpec.pre6 enc Try.prog Try.f4 Rows.fnIdentityRow.domain false) (Rows.fnIdentitySpec.post enc Try.prog Try.f4 false true false false) := by
  refine returnsInHanded_of_change_sized (C := Try.checked) IdentityOwn started (by kernel_rfl) Try.func4
    (ChangeSpec.witness6 (enc := enc) (C := Try.checked) false ⟨#[], #[.slice none 0 0], []⟩ 8 (by kernel_rfl) (by kernel_rfl) (by kernel_rfl) (by kernel_rfl)) ?_
  intro W base args ds gs before hval hW _ _ _
  refine law_contract D.good IdentityLaid (n := 55) rfl rfl (tys := [(.sl (.int .u8))]) rfl IdentityRels IdentityRead (B := 4) rfl Go.Proofs.Try.underlying4 IdentityArgs (s := Rows.fnIdentitySpec) rfl (fun ds hd => ?_) false hval hW noTold_ok
  rw [Go.Proofs.Try.params4] at hd
  match ds, hd with
  | [_], _ => rfl
theorem IdentityHolds : Rows.FnIdentitySaid :=
  OpenClaim.holds_of_wide 4 Try.f4 rfl rfl rfl rfl rfl rfl rfl ⟨rfl, rfl, rfl, rfl, rfl⟩ rfl rfl rfl rfl rfl (by kernel_rfl) Try.func4 (by kernel_rfl)
    (of_decide_eq_true (by kernel_rfl)) (by unfold Func.isWrapper; first | (rw [if_pos (by decide +kernel)]; kernel_rfl) | (rw [if_neg (by decide +kernel)]; exact ⟨rfl, rfl⟩))
    (fun os started H enc _ => IdentityLifted os started H enc)
end Go.Proofs.Ytgncajnfphlgeaa

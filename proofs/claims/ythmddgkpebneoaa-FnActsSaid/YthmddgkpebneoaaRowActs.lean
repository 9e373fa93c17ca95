/-
  FnActs: the law answers yes to all its arguments, and leaves them as they were: proved for every input.
-/
import Derived.Test.YthmddgkpebneoaaRows
import Derived.Test.YthmddgkpebneoaaFacts
import Derived.Test.YthmddgkpebneoaaPureAe
import Derived.ProofKit
import Derived.SizedLaws
namespace Go.Proofs.Ythmddgkpebneoaa
open Go Go.ChangeShapes Go.WideShapes Go.ChangeAt Go.RowKit Go.Den
set_option linter.unusedVariables false
set_option maxRecDepth 100000
theorem ActsOwn : ownKnob Try.prog.godebug = none := by kernel_rfl
theorem ActsLaid : laidOutB Try.prog = true := by kernel_rfl
theorem ActsRels : Rels Go.Proofs.Try.prog Go.Proofs.Try.f6.params.toList [(.sl (.int .u8))] := by
  rw [Go.Proofs.Try.params6]
  exact ⟨⟨5, Go.Proofs.Try.underlying41, by kernel_rfl, by decide, Go.Proofs.Try.underlying5⟩, trivial⟩
theorem ActsRead : ∀ t ∈ Go.Proofs.Try.f6.params.toList, Go.Proofs.Try.prog.readableRec t = true ∧ t < Go.Proofs.Try.prog.types.size := by
  rw [Go.Proofs.Try.params6]
  intro t ht
  simp only [List.mem_cons, List.not_mem_nil, or_false] at ht
  rcases ht with rfl <;> exact ⟨by kernel_rfl, of_decide_eq_true (by kernel_rfl)⟩
theorem ActsArgs (zs : List Arg) (h : zs.map Arg.t = [(.sl (.int .u8))]) (hr : ∀ z ∈ zs, Rng z.t z.x) : ∃ (a : (prodTy (D.Γ.insL 105)).den) (r : (prodTy (D.Γ.outsL 105)).den), unProd (D.Γ.insL 105) a = zs.map Arg.d ∧ unProd (D.Γ.outsL 105) r = [⟨.bool, true⟩] ∧ den D.Γ D.X 105 a = some r := by
  match zs, h, hr with
  | [⟨t0, x0, g0⟩], h, hr =>
    simp only [List.map_cons, List.map_nil, List.cons.injEq, and_true] at h
    obtain rfl := h
    have h0 := hr ⟨_, x0, g0⟩ (by simp)
    exact ⟨x0, true, rfl, rfl, D.law_Acts⟩
theorem ActsLifted (os : Os) (started : os.Started) (H : Type) (enc : TypeId × Value → H) :
    ReturnsInHanded {} Try.checked os 6 .any (Rows.fnActsSpec.pre6 enc Try.prog Try.f6 Rows.fnActsRow.domain false) (Rows.fnActsSpec.post enc Try.prog Try.f6 false true false false) := by
  refine returnsInHanded_of_change_sized (C := Try.checked) ActsOwn started (by kernel_rfl) Try.func6
    (ChangeSpec.witness6 (enc := enc) (C := Try.checked) false ⟨#[], #[.slice none 0 0], []⟩ 8 (by kernel_rfl) (by kernel_rfl) (by kernel_rfl) (by kernel_rfl)) ?_
  intro W base args ds gs before hval hW _ _ _
  refine law_contract D.good ActsLaid (n := 105) rfl rfl (tys := [(.sl (.int .u8))]) rfl ActsRels ActsRead (B := 4) rfl Go.Proofs.Try.underlying4 ActsArgs (s := Rows.fnActsSpec) rfl (fun ds hd => ?_) false hval hW noTold_ok
  rw [Go.Proofs.Try.params6] at hd
  match ds, hd with
  | [_], _ => rfl
theorem ActsHolds : Rows.FnActsSaid :=
  OpenClaim.holds_of_wide 6 Try.f6 rfl rfl rfl rfl rfl rfl rfl ⟨rfl, rfl, rfl, rfl, rfl⟩ rfl rfl rfl rfl rfl (by kernel_rfl) Try.func6 (by kernel_rfl)
    (of_decide_eq_true (by kernel_rfl)) (by unfold Func.isWrapper; first | (rw [if_pos (by decide +kernel)]; kernel_rfl) | (rw [if_neg (by decide +kernel)]; exact ⟨rfl, rfl⟩))
    (fun os started H enc _ => ActsLifted os started H enc)
end Go.Proofs.Ythmddgkpebneoaa

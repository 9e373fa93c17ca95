/-
  FnRotors: the law answers yes to all its arguments, and leaves them as they were: proved for every input.
-/
import Derived.Test.YthmddgkpebneoaaRows
import Derived.Test.YthmddgkpebneoaaFacts
import Derived.Test.YthmddgkpebneoaaPureRo
import Derived.ProofKit
import Derived.SizedLaws
namespace Go.Proofs.Ythmddgkpebneoaa
open Go Go.ChangeShapes Go.WideShapes Go.ChangeAt Go.RowKit Go.Den
set_option linter.unusedVariables false
set_option maxRecDepth 100000
theorem RotorsOwn : ownKnob Try.prog.godebug = none := by kernel_rfl
theorem RotorsLaid : laidOutB Try.prog = true := by kernel_rfl
theorem RotorsRels : Rels Go.Proofs.Try.prog Go.Proofs.Try.f5.params.toList [(.sl (.int .u8))] := by
  rw [Go.Proofs.Try.params5]
  exact ⟨⟨5, Go.Proofs.Try.underlying41, by kernel_rfl, by decide, Go.Proofs.Try.underlying5⟩, trivial⟩
theorem RotorsRead : ∀ t ∈ Go.Proofs.Try.f5.params.toList, Go.Proofs.Try.prog.readableRec t = true ∧ t < Go.Proofs.Try.prog.types.size := by
  rw [Go.Proofs.Try.params5]
  intro t ht
  simp only [List.mem_cons, List.not_mem_nil, or_false] at ht
  rcases ht with rfl <;> exact ⟨by kernel_rfl, of_decide_eq_true (by kernel_rfl)⟩
theorem RotorsArgs (zs : List Arg) (h : zs.map Arg.t = [(.sl (.int .u8))]) (hr : ∀ z ∈ zs, Rng z.t z.x) : ∃ (a : (prodTy (D.Γ.insL 87)).den) (r : (prodTy (D.Γ.outsL 87)).den), unProd (D.Γ.insL 87) a = zs.map Arg.d ∧ unProd (D.Γ.outsL 87) r = [⟨.bool, true⟩] ∧ den D.Γ D.X 87 a = some r := by
  match zs, h, hr with
  | [⟨t0, x0, g0⟩], h, hr =>
    simp only [List.map_cons, List.map_nil, List.cons.injEq, and_true] at h
    obtain rfl := h
    have h0 := hr ⟨_, x0, g0⟩ (by simp)
    exact ⟨x0, true, rfl, rfl, D.law_Rotors⟩
theorem RotorsLifted (os : Os) (started : os.Started) (H : Type) (enc : TypeId × Value → H) :
    ReturnsInHanded {} Try.checked os 5 .any (Rows.fnRotorsSpec.pre6 enc Try.prog Try.f5 Rows.fnRotorsRow.domain false) (Rows.fnRotorsSpec.post enc Try.prog Try.f5 false true false false) := by
  refine returnsInHanded_of_change_sized (C := Try.checked) RotorsOwn started (by kernel_rfl) Try.func5
    (ChangeSpec.witness6 (enc := enc) (C := Try.checked) false ⟨#[], #[.slice none 0 0], []⟩ 8 (by kernel_rfl) (by kernel_rfl) (by kernel_rfl) (by kernel_rfl)) ?_
  intro W base args ds gs before hval hW _ _ _
  refine law_contract D.good RotorsLaid (n := 87) rfl rfl (tys := [(.sl (.int .u8))]) rfl RotorsRels RotorsRead (B := 4) rfl Go.Proofs.Try.underlying4 RotorsArgs (s := Rows.fnRotorsSpec) rfl (fun ds hd => ?_) false hval hW noTold_ok
  rw [Go.Proofs.Try.params5] at hd
  match ds, hd with
  | [_], _ => rfl
theorem RotorsHolds : Rows.FnRotorsSaid :=
  OpenClaim.holds_of_wide 5 Try.f5 rfl rfl rfl rfl rfl rfl rfl ⟨rfl, rfl, rfl, rfl, rfl⟩ rfl rfl rfl rfl rfl (by kernel_rfl) Try.func5 (by kernel_rfl)
    (of_decide_eq_true (by kernel_rfl)) (by unfold Func.isWrapper; first | (rw [if_pos (by decide +kernel)]; kernel_rfl) | (rw [if_neg (by decide +kernel)]; exact ⟨rfl, rfl⟩))
    (fun os started H enc _ => RotorsLifted os started H enc)
end Go.Proofs.Ythmddgkpebneoaa

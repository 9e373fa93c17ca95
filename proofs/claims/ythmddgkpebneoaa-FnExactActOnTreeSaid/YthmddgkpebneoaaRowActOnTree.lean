/-
  FnExactActOnTree: the law answers yes to all its arguments, and leaves them as they were: proved for every input.
-/
import Derived.Test.YthmddgkpebneoaaRows
import Derived.Test.YthmddgkpebneoaaFacts
import Derived.Test.YthmddgkpebneoaaPureBa
import Derived.ProofKit
import Derived.SizedLaws
namespace Go.Proofs.Ythmddgkpebneoaa
open Go Go.ChangeShapes Go.WideShapes Go.ChangeAt Go.RowKit Go.Den
set_option linter.unusedVariables false
set_option maxRecDepth 100000
theorem ActOnTreeOwn : ownKnob Try.prog.godebug = none := by kernel_rfl
theorem ActOnTreeLaid : laidOutB Try.prog = true := by kernel_rfl
theorem ActOnTreeRels : Rels Go.Proofs.Try.prog Go.Proofs.Try.f4.params.toList [(.cons (.int .i64) (.sl (.cons (.int .i64) (.int .i64)))), (.sl (.int .i64)), (.int .i64), (.sl (.int .i64))] := by
  rw [Go.Proofs.Try.params4]
  exact ⟨⟨_, Go.Proofs.Try.underlying24, by kernel_rfl, _, _, rfl, rfl, by kernel_rfl, Go.Proofs.Try.underlying3, .inl ⟨_, rfl, rfl, by kernel_rfl, ⟨85, Go.Proofs.Try.underlying22, by kernel_rfl, by decide, ⟨_, Go.Proofs.Try.underlying85, by kernel_rfl, _, _, rfl, rfl, by kernel_rfl, Go.Proofs.Try.underlying3, .inl ⟨_, rfl, rfl, by kernel_rfl, Go.Proofs.Try.underlying3⟩⟩⟩⟩⟩, ⟨3, Go.Proofs.Try.underlying25, by kernel_rfl, by decide, Go.Proofs.Try.underlying3⟩, Go.Proofs.Try.underlying3, ⟨3, Go.Proofs.Try.underlying25, by kernel_rfl, by decide, Go.Proofs.Try.underlying3⟩, trivial⟩
theorem ActOnTreeRead : ∀ t ∈ Go.Proofs.Try.f4.params.toList, Go.Proofs.Try.prog.readableRec t = true ∧ t < Go.Proofs.Try.prog.types.size := by
  rw [Go.Proofs.Try.params4]
  intro t ht
  simp only [List.mem_cons, List.not_mem_nil, or_false] at ht
  rcases ht with rfl | rfl | rfl | rfl <;> exact ⟨by kernel_rfl, of_decide_eq_true (by kernel_rfl)⟩
theorem ActOnTreeArgs (zs : List Arg) (h : zs.map Arg.t = [(.cons (.int .i64) (.sl (.cons (.int .i64) (.int .i64)))), (.sl (.int .i64)), (.int .i64), (.sl (.int .i64))]) (hr : ∀ z ∈ zs, Rng z.t z.x) : ∃ (a : (prodTy (D.Γ.insL 63)).den) (r : (prodTy (D.Γ.outsL 63)).den), unProd (D.Γ.insL 63) a = zs.map Arg.d ∧ unProd (D.Γ.outsL 63) r = [⟨.bool, true⟩] ∧ den D.Γ D.X 63 a = some r := by
  match zs, h, hr with
  | [⟨t0, x0, g0⟩, ⟨t1, x1, g1⟩, ⟨t2, x2, g2⟩, ⟨t3, x3, g3⟩], h, hr =>
    simp only [List.map_cons, List.map_nil, List.cons.injEq, and_true] at h
    obtain ⟨rfl, rfl, rfl, rfl⟩ := h
    have h0 := hr ⟨_, x0, g0⟩ (by simp)
    have h1 := hr ⟨_, x1, g1⟩ (by simp)
    have h2 := hr ⟨_, x2, g2⟩ (by simp)
    have h3 := hr ⟨_, x3, g3⟩ (by simp)
    exact ⟨(x0, x1, x2, x3), true, rfl, rfl, D.law_ActOnTree (Nat.le_trans h0.2.1 (by decide))⟩
theorem ActOnTreeLifted (os : Os) (started : os.Started) (H : Type) (enc : TypeId × Value → H) :
    ReturnsInHanded {} Try.checked os 4 .any (Rows.fnExactActOnTreeSpec.pre6 enc Try.prog Try.f4 Rows.fnExactActOnTreeRow.domain false) (Rows.fnExactActOnTreeSpec.post enc Try.prog Try.f4 false true false false) := by
  refine returnsInHanded_of_change_sized (C := Try.checked) ActOnTreeOwn started (by kernel_rfl) Try.func4
    (ChangeSpec.witness6 (enc := enc) (C := Try.checked) false ⟨#[], #[.agg #[.int .i64 0, .slice none 0 0], .slice none 0 0, .int .i64 0, .slice none 0 0], []⟩ 8 (by kernel_rfl) (by kernel_rfl) (by kernel_rfl) (by kernel_rfl)) ?_
  intro W base args ds gs before hval hW _ _ _
  refine law_contract D.good ActOnTreeLaid (n := 63) rfl rfl (tys := [(.cons (.int .i64) (.sl (.cons (.int .i64) (.int .i64)))), (.sl (.int .i64)), (.int .i64), (.sl (.int .i64))]) rfl ActOnTreeRels ActOnTreeRead (B := 4) rfl Go.Proofs.Try.underlying4 ActOnTreeArgs (s := Rows.fnExactActOnTreeSpec) rfl (fun ds hd => ?_) false hval hW noTold_ok
  rw [Go.Proofs.Try.params4] at hd
  match ds, hd with
  | [_, _, _, _], _ => rfl
theorem ActOnTreeHolds : Rows.FnExactActOnTreeSaid :=
  OpenClaim.holds_of_wide 4 Try.f4 rfl rfl rfl rfl rfl rfl rfl ⟨rfl, rfl, rfl, rfl, rfl⟩ rfl rfl rfl rfl rfl (by kernel_rfl) Try.func4 (by kernel_rfl)
    (of_decide_eq_true (by kernel_rfl)) (by unfold Func.isWrapper; first | (rw [if_pos (by decide +kernel)]; kernel_rfl) | (rw [if_neg (by decide +kernel)]; exact ⟨rfl, rfl⟩))
    (fun os started H enc _ => ActOnTreeLifted os started H enc)
end Go.Proofs.Ythmddgkpebneoaa

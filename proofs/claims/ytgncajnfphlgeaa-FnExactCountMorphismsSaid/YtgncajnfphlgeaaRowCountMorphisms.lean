/-
  FnExactCountMorphisms: the law answers yes to all its arguments, and leaves them as they were: proved for every input.
-/
import Derived.Test.YtgncajnfphlgeaaRows
import Derived.Test.YtgncajnfphlgeaaFacts
import Derived.Test.YtgncajnfphlgeaaPureCm
import Derived.ProofKit
import Derived.SizedLaws
namespace Go.Proofs.Ytgncajnfphlgeaa
open Go Go.ChangeShapes Go.WideShapes Go.ChangeAt Go.RowKit Go.Den
set_option linter.unusedVariables false
set_option maxRecDepth 100000
theorem CountMorphismsOwn : ownKnob Try.prog.godebug = none := by kernel_rfl
theorem CountMorphismsLaid : laidOutB Try.prog = true := by kernel_rfl
theorem CountMorphismsRels : Rels Go.Proofs.Try.prog Go.Proofs.Try.f3.params.toList [(.cons (.int .i64) (.sl (.cons (.int .i64) (.int .i64)))), (.cons (.int .i64) (.sl (.cons (.int .i64) (.int .i64))))] := by
  rw [Go.Proofs.Try.params3]
  exact ⟨⟨_, Go.Proofs.Try.underlying24, by kernel_rfl, _, _, rfl, rfl, by kernel_rfl, Go.Proofs.Try.underlying3, .inl ⟨_, rfl, rfl, by kernel_rfl, ⟨65, Go.Proofs.Try.underlying22, by kernel_rfl, by decide, ⟨_, Go.Proofs.Try.underlying65, by kernel_rfl, _, _, rfl, rfl, by kernel_rfl, Go.Proofs.Try.underlying3, .inl ⟨_, rfl, rfl, by kernel_rfl, Go.Proofs.Try.underlying3⟩⟩⟩⟩⟩, ⟨_, Go.Proofs.Try.underlying24, by kernel_rfl, _, _, rfl, rfl, by kernel_rfl, Go.Proofs.Try.underlying3, .inl ⟨_, rfl, rfl, by kernel_rfl, ⟨65, Go.Proofs.Try.underlying22, by kernel_rfl, by decide, ⟨_, Go.Proofs.Try.underlying65, by kernel_rfl, _, _, rfl, rfl, by kernel_rfl, Go.Proofs.Try.underlying3, .inl ⟨_, rfl, rfl, by kernel_rfl, Go.Proofs.Try.underlying3⟩⟩⟩⟩⟩, trivial⟩
theorem CountMorphismsRead : ∀ t ∈ Go.Proofs.Try.f3.params.toList, Go.Proofs.Try.prog.readableRec t = true ∧ t < Go.Proofs.Try.prog.types.size := by
  rw [Go.Proofs.Try.params3]
  intro t ht
  simp only [List.mem_cons, List.not_mem_nil, or_false] at ht
  rcases ht with rfl | rfl <;> exact ⟨by kernel_rfl, of_decide_eq_true (by kernel_rfl)⟩
theorem CountMorphismsArgs (zs : List Arg) (h : zs.map Arg.t = [(.cons (.int .i64) (.sl (.cons (.int .i64) (.int .i64)))), (.cons (.int .i64) (.sl (.cons (.int .i64) (.int .i64))))]) (hr : ∀ z ∈ zs, Rng z.t z.x) : ∃ (a : (prodTy (D.Γ.insL 35)).den) (r : (prodTy (D.Γ.outsL 35)).den), unProd (D.Γ.insL 35) a = zs.map Arg.d ∧ unProd (D.Γ.outsL 35) r = [⟨.bool, true⟩] ∧ den D.Γ D.X 35 a = some r := by
  match zs, h, hr with
  | [⟨t0, x0, g0⟩, ⟨t1, x1, g1⟩], h, hr =>
    simp only [List.map_cons, List.map_nil, List.cons.injEq, and_true] at h
    obtain ⟨rfl, rfl⟩ := h
    have h0 := hr ⟨_, x0, g0⟩ (by simp)
    have h1 := hr ⟨_, x1, g1⟩ (by simp)
    exact ⟨(x0, x1), true, rfl, rfl, D.law_CountMorphisms (Nat.le_trans h0.2.1 (by decide)) (Nat.le_trans h1.2.1 (by decide))⟩
theorem CountMorphismsLifted (os : Os) (started : os.Started) (H : Type) (enc : TypeId × Value → H) :
    ReturnsInHanded {} Try.checked os 3 .any (Rows.fnExactCountMorphismsSpec.pre6 enc Try.prog Try.f3 Rows.fnExactCountMorphismsRow.domain false) (Rows.fnExactCountMorphismsSpec.post enc Try.prog Try.f3 false true false false) := by
  refine returnsInHanded_of_change_sized (C := Try.checked) CountMorphismsOwn started (by kernel_rfl) Try.func3
    (ChangeSpec.witness6 (enc := enc) (C := Try.checked) false ⟨#[], #[.agg #[.int .i64 0, .slice none 0 0], .agg #[.int .i64 0, .slice none 0 0]], []⟩ 8 (by kernel_rfl) (by kernel_rfl) (by kernel_rfl) (by kernel_rfl)) ?_
  intro W base args ds gs before hval hW _ _ _
  refine law_contract D.good CountMorphismsLaid (n := 35) rfl rfl (tys := [(.cons (.int .i64) (.sl (.cons (.int .i64) (.int .i64)))), (.cons (.int .i64) (.sl (.cons (.int .i64) (.int .i64))))]) rfl CountMorphismsRels CountMorphismsRead (B := 4) rfl Go.Proofs.Try.underlying4 CountMorphismsArgs (s := Rows.fnExactCountMorphismsSpec) rfl (fun ds hd => ?_) false hval hW noTold_ok
  rw [Go.Proofs.Try.params3] at hd
  match ds, hd with
  | [_, _], _ => rfl
theorem CountMorphismsHolds : Rows.FnExactCountMorphismsSaid :=
  OpenClaim.holds_of_wide 3 Try.f3 rfl rfl rfl rfl rfl rfl rfl ⟨rfl, rfl, rfl, rfl, rfl⟩ rfl rfl rfl rfl rfl (by kernel_rfl) Try.func3 (by kernel_rfl)
    (of_decide_eq_true (by kernel_rfl)) (by unfold Func.isWrapper; first | (rw [if_pos (by decide +kernel)]; kernel_rfl) | (rw [if_neg (by decide +kernel)]; exact ⟨rfl, rfl⟩))
    (fun os started H enc _ => CountMorphismsLifted os started H enc)
end Go.Proofs.Ytgncajnfphlgeaa

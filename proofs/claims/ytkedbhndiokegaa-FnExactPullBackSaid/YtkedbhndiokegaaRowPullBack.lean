/-
  FnExactPullBack: the law answers yes to all its arguments, and leaves them as they were: proved for every input.
-/
import Derived.Test.YtkedbhndiokegaaRows
import Derived.Test.YtkedbhndiokegaaFacts
import Derived.Test.YtkedbhndiokegaaPureI
import Derived.ProofKit
import Derived.SizedLaws
namespace Go.Proofs.Ytkedbhndiokegaa
open Go Go.ChangeShapes Go.WideShapes Go.ChangeAt Go.RowKit Go.Den
set_option linter.unusedVariables false
set_option maxRecDepth 100000
theorem PullBackOwn : ownKnob Try.prog.godebug = none := by kernel_rfl
theorem PullBackLaid : laidOutB Try.prog = true := by kernel_rfl
theorem PullBackRels : Rels Go.Proofs.Try.prog Go.Proofs.Try.f11.params.toList [(.cons (.int .i64) (.sl (.cons (.int .i64) (.int .i64)))), (.cons (.int .i64) (.sl (.cons (.int .i64) (.int .i64)))), (.cons (.sl (.int .i64)) (.sl (.int .i64))), (.sl (.int .i64))] := by
  rw [Go.Proofs.Try.params11]
  exact ⟨⟨_, Go.Proofs.Try.underlying24, by kernel_rfl, _, _, rfl, rfl, by kernel_rfl, Go.Proofs.Try.underlying3, .inl ⟨_, rfl, rfl, by kernel_rfl, ⟨90, Go.Proofs.Try.underlying22, by kernel_rfl, by decide, ⟨_, Go.Proofs.Try.underlying90, by kernel_rfl, _, _, rfl, rfl, by kernel_rfl, Go.Proofs.Try.underlying3, .inl ⟨_, rfl, rfl, by kernel_rfl, Go.Proofs.Try.underlying3⟩⟩⟩⟩⟩, ⟨_, Go.Proofs.Try.underlying24, by kernel_rfl, _, _, rfl, rfl, by kernel_rfl, Go.Proofs.Try.underlying3, .inl ⟨_, rfl, rfl, by kernel_rfl, ⟨90, Go.Proofs.Try.underlying22, by kernel_rfl, by decide, ⟨_, Go.Proofs.Try.underlying90, by kernel_rfl, _, _, rfl, rfl, by kernel_rfl, Go.Proofs.Try.underlying3, .inl ⟨_, rfl, rfl, by kernel_rfl, Go.Proofs.Try.underlying3⟩⟩⟩⟩⟩, ⟨_, Go.Proofs.Try.underlying40, by kernel_rfl, _, _, rfl, rfl, by kernel_rfl, ⟨3, Go.Proofs.Try.underlying26, by kernel_rfl, by decide, Go.Proofs.Try.underlying3⟩, .inl ⟨_, rfl, rfl, by kernel_rfl, ⟨3, Go.Proofs.Try.underlying26, by kernel_rfl, by decide, Go.Proofs.Try.underlying3⟩⟩⟩, ⟨3, Go.Proofs.Try.underlying26, by kernel_rfl, by decide, Go.Proofs.Try.underlying3⟩, trivial⟩
theorem PullBackRead : ∀ t ∈ Go.Proofs.Try.f11.params.toList, Go.Proofs.Try.prog.readableRec t = true ∧ t < Go.Proofs.Try.prog.types.size := by
  rw [Go.Proofs.Try.params11]
  intro t ht
  simp only [List.mem_cons, List.not_mem_nil, or_false] at ht
  rcases ht with rfl | rfl | rfl | rfl <;> exact ⟨by kernel_rfl, of_decide_eq_true (by kernel_rfl)⟩
theorem PullBackArgs (zs : List Arg) (h : zs.map Arg.t = [(.cons (.int .i64) (.sl (.cons (.int .i64) (.int .i64)))), (.cons (.int .i64) (.sl (.cons (.int .i64) (.int .i64)))), (.cons (.sl (.int .i64)) (.sl (.int .i64))), (.sl (.int .i64))]) (hr : ∀ z ∈ zs, Rng z.t z.x) : ∃ (a : (prodTy (D.Γ.insL 63)).den) (r : (prodTy (D.Γ.outsL 63)).den), unProd (D.Γ.insL 63) a = zs.map Arg.d ∧ unProd (D.Γ.outsL 63) r = [⟨.bool, true⟩] ∧ den D.Γ D.X 63 a = some r := by
  match zs, h, hr with
  | [⟨t0, x0, g0⟩, ⟨t1, x1, g1⟩, ⟨t2, x2, g2⟩, ⟨t3, x3, g3⟩], h, hr =>
    simp only [List.map_cons, List.map_nil, List.cons.injEq, and_true] at h
    obtain ⟨rfl, rfl, rfl, rfl⟩ := h
    have h0 := hr ⟨_, x0, g0⟩ (by simp)
    have h1 := hr ⟨_, x1, g1⟩ (by simp)
    have h2 := hr ⟨_, x2, g2⟩ (by simp)
    have h3 := hr ⟨_, x3, g3⟩ (by simp)
    exact ⟨(x0, x1, x2, x3), true, rfl, rfl, D.law_PullBack (h0.2.1) (h1.2.1) (h2.1.1) (h2.2.1)⟩
theorem PullBackLifted (os : Os) (started : os.Started) (H : Type) (enc : TypeId × Value → H) :
    ReturnsInHanded {} Try.checked os 11 .any (Rows.fnExactPullBackSpec.pre6 enc Try.prog Try.f11 Rows.fnExactPullBackRow.domain false) (Rows.fnExactPullBackSpec.post enc Try.prog Try.f11 false true false false) := by
  refine returnsInHanded_of_change_sized (C := Try.checked) PullBackOwn started (by kernel_rfl) Try.func11
    (ChangeSpec.witness6 (enc := enc) (C := Try.checked) false ⟨#[], #[.agg #[.int .i64 0, .slice none 0 0], .agg #[.int .i64 0, .slice none 0 0], .agg #[.slice none 0 0, .slice none 0 0], .slice none 0 0], []⟩ 8 (by kernel_rfl) (by kernel_rfl) (by kernel_rfl) (by kernel_rfl)) ?_
  intro W base args ds gs before hval hW _ _ _
  refine law_contract D.good PullBackLaid (n := 63) rfl rfl (tys := [(.cons (.int .i64) (.sl (.cons (.int .i64) (.int .i64)))), (.cons (.int .i64) (.sl (.cons (.int .i64) (.int .i64)))), (.cons (.sl (.int .i64)) (.sl (.int .i64))), (.sl (.int .i64))]) rfl PullBackRels PullBackRead (B := 4) rfl Go.Proofs.Try.underlying4 PullBackArgs (s := Rows.fnExactPullBackSpec) rfl (fun ds hd => ?_) false hval hW
  rw [Go.Proofs.Try.params11] at hd
  match ds, hd with
  | [_, _, _, _], _ => rfl
theorem PullBackHolds : Rows.FnExactPullBackSaid :=
  OpenClaim.holds_of_wide 11 Try.f11 rfl rfl rfl rfl rfl rfl rfl ⟨rfl, rfl, rfl, rfl, rfl⟩ rfl rfl rfl rfl rfl (by kernel_rfl) Try.func11 (by kernel_rfl)
    (of_decide_eq_true (by kernel_rfl)) (by unfold Func.isWrapper; first | (rw [if_pos (by decide +kernel)]; kernel_rfl) | (rw [if_neg (by decide +kernel)]; exact ⟨rfl, rfl⟩))
    (fun os started H enc _ => PullBackLifted os started H enc)
end Go.Proofs.Ytkedbhndiokegaa

/-
  FnExactNewConsole: the law answers yes to all its arguments, and leaves them as they were: proved for every input.
-/
import Derived.Test.YtaapeofhcopajaaRows
import Derived.Test.YtaapeofhcopajaaFacts
import Derived.Test.YtaapeofhcopajaaPureNC
import Derived.ProofKit
import Derived.SizedLaws
namespace Go.Proofs.Ytaapeofhcopajaa
open Go Go.ChangeShapes Go.WideShapes Go.ChangeAt Go.RowKit Go.Den
set_option linter.unusedVariables false
set_option maxRecDepth 100000
theorem NewConsoleOwn : ownKnob Try.prog.godebug = none := by kernel_rfl
theorem NewConsoleLaid : laidOutB Try.prog = true := by kernel_rfl
theorem NewConsoleRels : Rels Go.Proofs.Try.prog Go.Proofs.Try.f3.params.toList [] := by
  rw [Go.Proofs.Try.params3]
  exact trivial
theorem NewConsoleRead : ∀ t ∈ Go.Proofs.Try.f3.params.toList, Go.Proofs.Try.prog.readableRec t = true ∧ t < Go.Proofs.Try.prog.types.size := by
  rw [Go.Proofs.Try.params3]
  intro t ht
  cases ht
theorem NewConsoleArgs (zs : List Arg) (h : zs.map Arg.t = []) (hr : ∀ z ∈ zs, Rng z.t z.x) : ∃ (a : (prodTy (D.Γ.insL 15)).den) (r : (prodTy (D.Γ.outsL 15)).den), unProd (D.Γ.insL 15) a = zs.map Arg.d ∧ unProd (D.Γ.outsL 15) r = [⟨.bool, true⟩] ∧ den D.Γ D.X 15 a = some r := by
  match zs, h with
  | [], _ => exact ⟨(), true, rfl, rfl, D.law_NewConsole⟩
theorem NewConsoleLifted (os : Os) (started : os.Started) (H : Type) (enc : TypeId × Value → H) :
    ReturnsInHanded {} Try.checked os 3 .any (Rows.fnExactNewConsoleSpec.pre6 enc Try.prog Try.f3 Rows.fnExactNewConsoleRow.domain false) (Rows.fnExactNewConsoleSpec.post enc Try.prog Try.f3 false true false false) := by
  refine returnsInHanded_of_change_sized (C := Try.checked) NewConsoleOwn started (by kernel_rfl) Try.func3
    (ChangeSpec.witness6 (enc := enc) (C := Try.checked) false ⟨#[], #[], []⟩ 8 (by kernel_rfl) (by kernel_rfl) (by kernel_rfl) (by kernel_rfl)) ?_
  intro W base args ds gs before hval hW _ _ _
  refine law_contract D.good NewConsoleLaid (n := 15) rfl rfl (tys := []) rfl NewConsoleRels NewConsoleRead (B := 4) rfl Go.Proofs.Try.underlying4 NewConsoleArgs (s := Rows.fnExactNewConsoleSpec) rfl (fun ds hd => ?_) false hval hW
  rw [Go.Proofs.Try.params3] at hd
  match ds, hd with
  | [], _ => rfl
theorem NewConsoleHolds : Rows.FnExactNewConsoleSaid :=
  OpenClaim.holds_of_wide 3 Try.f3 rfl rfl rfl rfl rfl rfl rfl ⟨rfl, rfl, rfl, rfl, rfl⟩ rfl rfl rfl rfl rfl (by kernel_rfl) Try.func3 (by kernel_rfl)
    (of_decide_eq_true (by kernel_rfl)) (by unfold Func.isWrapper; first | (rw [if_pos (by decide +kernel)]; kernel_rfl) | (rw [if_neg (by decide +kernel)]; exact ⟨rfl, rfl⟩))
    (fun os started H enc _ => NewConsoleLifted os started H enc)
end Go.Proofs.Ytaapeofhcopajaa

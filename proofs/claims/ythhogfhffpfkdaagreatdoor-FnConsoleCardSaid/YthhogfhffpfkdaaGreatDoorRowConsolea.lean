/-
  FnConsole: the law answers yes to all its arguments, and leaves them as they were: proved for every input.
-/
import Derived.Test.YthhogfhffpfkdaaGreatDoorCards
import Derived.Test.YthhogfhffpfkdaaGreatDoorTie
import Derived.SevenTiedAt
import Derived.Handed
import Derived.Deep.DeepHandedRow
import Derived.LaidHandle
import Derived.Test.YthhogfhffpfkdaaGreatDoorRows
import Derived.Test.YthhogfhffpfkdaaGreatDoorFacts
import Derived.Test.YthhogfhffpfkdaaGreatDoorPureCp
import Derived.ProofKit
import Derived.SizedLaws
namespace Go.Proofs.YthhogfhffpfkdaaGreatDoor
open Go Go.ChangeShapes Go.WideShapes Go.ChangeAt Go.RowKit Go.Den
set_option linter.unusedVariables false
set_option maxRecDepth 100000
theorem ConsoleOwn : ownKnob Tryz.prog.godebug = none := by kernel_rfl
theorem ConsoleLaid : laidOutB Tryz.prog = true := by kernel_rfl
theorem ConsoleRels : Rels Go.Proofs.Tryz.prog Go.Proofs.Tryz.f4.params.toList [(.sl (.int .u8))] := by
  rw [Go.Proofs.Tryz.params4]
  exact ⟨⟨5, Go.Proofs.Tryz.underlying22, by kernel_rfl, by decide, Go.Proofs.Tryz.underlying5⟩, trivial⟩
theorem ConsoleRead : ∀ t ∈ Go.Proofs.Tryz.f4.params.toList, Go.Proofs.Tryz.prog.readableRec t = true ∧ t < Go.Proofs.Tryz.prog.types.size := by
  rw [Go.Proofs.Tryz.params4]
  intro t ht
  simp only [List.mem_cons, List.not_mem_nil, or_false] at ht
  rcases ht with rfl <;> exact ⟨by kernel_rfl, of_decide_eq_true (by kernel_rfl)⟩
theorem ConsoleArgs (zs : List Arg) (h : zs.map Arg.t = [(.sl (.int .u8))]) (hr : ∀ z ∈ zs, Rng z.t z.x) : ∃ (a : (prodTy (D.Γ.insL 137)).den) (r : (prodTy (D.Γ.outsL 137)).den), unProd (D.Γ.insL 137) a = zs.map Arg.d ∧ unProd (D.Γ.outsL 137) r = [⟨.bool, true⟩] ∧ den D.Γ D.X 137 a = some r := by
  match zs, h, hr with
  | [⟨t0, x0, g0⟩], h, hr =>
    simp only [List.map_cons, List.map_nil, List.cons.injEq, and_true] at h
    obtain rfl := h
    have h0 := hr ⟨_, x0, g0⟩ (by simp)
    exact ⟨x0, true, rfl, rfl, D.law_Console⟩
theorem ConsoleLifted (os : Os) (started : os.Started) (H : Type) (enc : TypeId × Value → H) :
    ReturnsInHanded {} Tryz.checked os 4 .any (fun w args => (Rows.fnConsoleSpec.pre enc Tryz.prog Tryz.f4 [] false w args ∧ laidMetH Tryz.prog Rows.fnConsoleRow.laid w) ∧ sizedMet enc Tryz.prog Tryz.f4 (OpenSpec.ofChange Rows.fnConsoleSpec) false w args) (Rows.fnConsoleSpec.post enc Tryz.prog Tryz.f4 false true false false) := by
  refine returnsInHanded_of_row (C := Tryz.checked) (s := OpenSpec.ofChange Rows.fnConsoleSpec) (F := fun _ _ _ => 0) (conds := []) (apart := false) (laid := Rows.fnConsoleRow.laid) ConsoleOwn started (by kernel_rfl) Tryz.func4
    (ChangeSpec.witness_at (enc := enc) (C := Tryz.checked) (os := os) (X := fun w _ => laidMetH Tryz.prog Rows.fnConsoleRow.laid w) false (laidWorld os) #[.slice none 0 0] 8 rfl (by kernel_rfl) (by kernel_rfl) (by kernel_rfl) (by kernel_rfl) (by kernel_rfl) (laid_met5 os _)) ?_
  intro W base args ds gs before hval hW _ _ _ hL hsh _
  refine law_contract D.good ConsoleLaid (n := 137) rfl rfl (tys := [(.sl (.int .u8))]) rfl ConsoleRels ConsoleRead (B := 4) rfl Tryz.underlying4 ConsoleArgs (s := Rows.fnConsoleSpec) rfl (fun ds hd => ?_) false hval hW (told_of_laid5 hL hsh)
  rw [Tryz.params4] at hd
  match ds, hd with
  | [_], _ => rfl
end Go.Proofs.YthhogfhffpfkdaaGreatDoor

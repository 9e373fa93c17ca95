/-
  FnWins: the law answers yes to all its arguments, and leaves them as they were: proved for every input.
-/
import Derived.Test.YthmddgkpebneoaaDoorCards
import Derived.Test.YthmddgkpebneoaaDoorTie
import Derived.SevenTiedAt
import Derived.Handed
import Derived.Deep.DeepHandedRow
import Derived.LaidHandle
import Derived.Test.YthmddgkpebneoaaDoorRows
import Derived.Test.YthmddgkpebneoaaDoorFacts
import Derived.Test.YthmddgkpebneoaaDoorPureWn
import Derived.ProofKit
import Derived.SizedLaws
namespace Go.Proofs.YthmddgkpebneoaaDoor
open Go Go.ChangeShapes Go.WideShapes Go.ChangeAt Go.RowKit Go.Den
set_option linter.unusedVariables false
set_option maxRecDepth 100000
theorem WinsOwn : ownKnob Tryd.prog.godebug = none := by kernel_rfl
theorem WinsLaid : laidOutB Tryd.prog = true := by kernel_rfl
theorem WinsRels : Rels Go.Proofs.Tryd.prog Go.Proofs.Tryd.f6.params.toList [(.sl (.int .u8))] := by
  rw [Go.Proofs.Tryd.params6]
  exact ⟨⟨5, Go.Proofs.Tryd.underlying40, by kernel_rfl, by decide, Go.Proofs.Tryd.underlying5⟩, trivial⟩
theorem WinsRead : ∀ t ∈ Go.Proofs.Tryd.f6.params.toList, Go.Proofs.Tryd.prog.readableRec t = true ∧ t < Go.Proofs.Tryd.prog.types.size := by
  rw [Go.Proofs.Tryd.params6]
  intro t ht
  simp only [List.mem_cons, List.not_mem_nil, or_false] at ht
  rcases ht with rfl <;> exact ⟨by kernel_rfl, of_decide_eq_true (by kernel_rfl)⟩
theorem WinsArgs (zs : List Arg) (h : zs.map Arg.t = [(.sl (.int .u8))]) (hr : ∀ z ∈ zs, Rng z.t z.x) : ∃ (a : (prodTy (D.Γ.insL 94)).den) (r : (prodTy (D.Γ.outsL 94)).den), unProd (D.Γ.insL 94) a = zs.map Arg.d ∧ unProd (D.Γ.outsL 94) r = [⟨.bool, true⟩] ∧ den D.Γ D.X 94 a = some r := by
  match zs, h, hr with
  | [⟨t0, x0, g0⟩], h, hr =>
    simp only [List.map_cons, List.map_nil, List.cons.injEq, and_true] at h
    obtain rfl := h
    have h0 := hr ⟨_, x0, g0⟩ (by simp)
    exact ⟨x0, true, rfl, rfl, D.law_Wins⟩
theorem WinsLifted (os : Os) (started : os.Started) (H : Type) (enc : TypeId × Value → H) :
    ReturnsInHanded {} Tryd.checked os 6 .any (fun w args => (Rows.fnWinsSpec.pre enc Tryd.prog Tryd.f6 [] false w args ∧ laidMetH Tryd.prog Rows.fnWinsRow.laid w) ∧ sizedMet enc Tryd.prog Tryd.f6 (OpenSpec.ofChange Rows.fnWinsSpec) false w args) (Rows.fnWinsSpec.post enc Tryd.prog Tryd.f6 false true false false) := by
  refine returnsInHanded_of_change_and (C := Tryd.checked) (X := fun w _ => laidMetH Tryd.prog Rows.fnWinsRow.laid w) (fun _ _ _ hh h => h.of_heap hh) WinsOwn started (by kernel_rfl) Tryd.func6
    (ChangeSpec.witness_at (enc := enc) (C := Tryd.checked) (os := os) (X := fun w _ => laidMetH Tryd.prog Rows.fnWinsRow.laid w) false (laidWorld os) #[.slice none 0 0] 8 rfl (by kernel_rfl) (by kernel_rfl) (by kernel_rfl) (by kernel_rfl) (by kernel_rfl) (laid_met3 os _)) ?_
  intro W base args ds gs before hval hW _ _ hL _
  refine law_contract D.good WinsLaid (n := 94) rfl rfl (tys := [(.sl (.int .u8))]) rfl WinsRels WinsRead (B := 4) rfl Tryd.underlying4 WinsArgs (s := Rows.fnWinsSpec) rfl (fun ds hd => ?_) false hval hW (told_of_laid3 hL)
  rw [Tryd.params6] at hd
  match ds, hd with
  | [_], _ => rfl
theorem WinsRow : Rows.FnWinsSaid :=
  OpenClaim.holds_of_wide 6 Tryd.f6 rfl rfl rfl rfl rfl rfl rfl ⟨rfl, rfl, rfl, rfl, rfl⟩ rfl rfl rfl rfl rfl (by kernel_rfl) Tryd.func6 (by kernel_rfl)
    (of_decide_eq_true (by kernel_rfl)) (by unfold Func.isWrapper; first | (rw [if_pos (by decide +kernel)]; kernel_rfl) | (rw [if_neg (by decide +kernel)]; exact ⟨rfl, rfl⟩))
    (fun os started H enc _ => WinsLifted os started H enc)
theorem WinsHolds : Rows.FnWinsCardSaid :=
  Claim7.holds_tied_plain_at .later [] [.data, .data, .data] true (true, "ccbad537f098a3f8aaff0b57d3299adcee0c9acc72cca3bb94a289647082773a") false
    WinsRow (fun _ h => by cases h) (by kernel_rfl) (fun _ h => by cases h) fnWins_row_tie rfl ⟨rfl, rfl⟩ (by kernel_rfl) rfl
    (fun f fn hf hfn => by
      obtain rfl : f = 6 := Option.some.inj ((show Tryd.prog.funcNamed Rows.fnWinsRow.func = some 6 by kernel_rfl).symm.trans hf) |>.symm
      obtain rfl : fn = Tryd.f6 := (Option.some.inj (Tryd.func6.symm.trans hfn)).symm
      exact ⟨by kernel_rfl, fun j t ht => by
        rw [Tryd.params6] at ht
        have hm := Array.mem_of_getElem? ht
        simp only [List.mem_toArray, List.mem_cons, List.not_mem_nil, or_false] at hm
        rcases hm with rfl <;> exact (show Tryd.prog.wantsStandIn _ = false by kernel_rfl)⟩)
    (by kernel_rfl)
end Go.Proofs.YthmddgkpebneoaaDoor

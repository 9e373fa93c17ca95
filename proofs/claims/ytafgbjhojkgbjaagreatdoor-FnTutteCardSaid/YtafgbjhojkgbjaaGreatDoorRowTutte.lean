/-
  FnTutte: the law answers yes to all its arguments, and leaves them as they were: proved for every input.
-/
import Derived.Test.YtafgbjhojkgbjaaGreatDoorCards
import Derived.Test.YtafgbjhojkgbjaaGreatDoorTie
import Derived.SevenTiedAt
import Derived.Handed
import Derived.Deep.DeepHandedRow
import Derived.LaidHandle
import Derived.Test.YtafgbjhojkgbjaaGreatDoorRows
import Derived.Test.YtafgbjhojkgbjaaGreatDoorFacts
import Derived.Test.YtafgbjhojkgbjaaGreatDoorPureTz
import Derived.ProofKit
import Derived.SizedLaws
namespace Go.Proofs.YtafgbjhojkgbjaaGreatDoor
open Go Go.ChangeShapes Go.WideShapes Go.ChangeAt Go.RowKit Go.Den
set_option linter.unusedVariables false
set_option maxRecDepth 100000
theorem TutteOwn : ownKnob Tryz.prog.godebug = none := by kernel_rfl
theorem TutteLaid : laidOutB Tryz.prog = true := by kernel_rfl
theorem TutteRels : Rels Go.Proofs.Tryz.prog Go.Proofs.Tryz.f3.params.toList [(.sl (.int .u8))] := by
  rw [Go.Proofs.Tryz.params3]
  exact ⟨⟨5, Go.Proofs.Tryz.underlying22, by kernel_rfl, by decide, Go.Proofs.Tryz.underlying5⟩, trivial⟩
theorem TutteRead : ∀ t ∈ Go.Proofs.Tryz.f3.params.toList, Go.Proofs.Tryz.prog.readableRec t = true ∧ t < Go.Proofs.Tryz.prog.types.size := by
  rw [Go.Proofs.Tryz.params3]
  intro t ht
  simp only [List.mem_cons, List.not_mem_nil, or_false] at ht
  rcases ht with rfl <;> exact ⟨by kernel_rfl, of_decide_eq_true (by kernel_rfl)⟩
theorem TutteArgs (zs : List Arg) (h : zs.map Arg.t = [(.sl (.int .u8))]) (hr : ∀ z ∈ zs, Rng z.t z.x) : ∃ (a : (prodTy (D.Γ.insL 64)).den) (r : (prodTy (D.Γ.outsL 64)).den), unProd (D.Γ.insL 64) a = zs.map Arg.d ∧ unProd (D.Γ.outsL 64) r = [⟨.bool, true⟩] ∧ den D.Γ D.X 64 a = some r := by
  match zs, h, hr with
  | [⟨t0, x0, g0⟩], h, hr =>
    simp only [List.map_cons, List.map_nil, List.cons.injEq, and_true] at h
    obtain rfl := h
    have h0 := hr ⟨_, x0, g0⟩ (by simp)
    exact ⟨x0, true, rfl, rfl, D.law_Tutte⟩
theorem TutteLifted (os : Os) (started : os.Started) (H : Type) (enc : TypeId × Value → H) :
    ReturnsInHanded {} Tryz.checked os 3 .any (fun w args => (Rows.fnTutteSpec.pre enc Tryz.prog Tryz.f3 [] false w args ∧ laidMetH Tryz.prog Rows.fnTutteRow.laid w) ∧ sizedMet enc Tryz.prog Tryz.f3 (OpenSpec.ofChange Rows.fnTutteSpec) false w args) (Rows.fnTutteSpec.post enc Tryz.prog Tryz.f3 false true false false) := by
  refine returnsInHanded_of_change_and (C := Tryz.checked) (X := fun w _ => laidMetH Tryz.prog Rows.fnTutteRow.laid w) (fun _ _ _ hh h => h.of_heap hh) TutteOwn started (by kernel_rfl) Tryz.func3
    (ChangeSpec.witness_at (enc := enc) (C := Tryz.checked) (os := os) (X := fun w _ => laidMetH Tryz.prog Rows.fnTutteRow.laid w) false (laidWorld os) #[.slice none 0 0] 8 rfl (by kernel_rfl) (by kernel_rfl) (by kernel_rfl) (by kernel_rfl) (by kernel_rfl) (laid_met3 os _)) ?_
  intro W base args ds gs before hval hW _ _ hL _
  refine law_contract D.good TutteLaid (n := 64) rfl rfl (tys := [(.sl (.int .u8))]) rfl TutteRels TutteRead (B := 4) rfl Tryz.underlying4 TutteArgs (s := Rows.fnTutteSpec) rfl (fun ds hd => ?_) false hval hW (told_of_laid3 hL)
  rw [Tryz.params3] at hd
  match ds, hd with
  | [_], _ => rfl
theorem TutteRow : Rows.FnTutteSaid :=
  OpenClaim.holds_of_wide 3 Tryz.f3 rfl rfl rfl rfl rfl rfl rfl ⟨rfl, rfl, rfl, rfl, rfl⟩ rfl rfl rfl rfl rfl (by kernel_rfl) Tryz.func3 (by kernel_rfl)
    (of_decide_eq_true (by kernel_rfl)) (by unfold Func.isWrapper; first | (rw [if_pos (by decide +kernel)]; kernel_rfl) | (rw [if_neg (by decide +kernel)]; exact ⟨rfl, rfl⟩))
    (fun os started H enc _ => TutteLifted os started H enc)
theorem TutteHolds : Rows.FnTutteCardSaid :=
  Claim7.holds_tied_plain_at .later [] [.data, .data, .data] true (true, "5d8c2fc3720e5c06a2cc936616655eb8b425df29795c4e0250ff82e46301146b") false
    TutteRow (fun _ h => by cases h) (by kernel_rfl) (fun _ h => by cases h) fnTutte_row_tie rfl ⟨rfl, rfl⟩ (by kernel_rfl) rfl
    (fun f fn hf hfn => by
      obtain rfl : f = 3 := Option.some.inj ((show Tryz.prog.funcNamed Rows.fnTutteRow.func = some 3 by kernel_rfl).symm.trans hf) |>.symm
      obtain rfl : fn = Tryz.f3 := (Option.some.inj (Tryz.func3.symm.trans hfn)).symm
      exact ⟨by kernel_rfl, fun j t ht => by
        rw [Tryz.params3] at ht
        have hm := Array.mem_of_getElem? ht
        simp only [List.mem_toArray, List.mem_cons, List.not_mem_nil, or_false] at hm
        rcases hm with rfl <;> exact (show Tryz.prog.wantsStandIn _ = false by kernel_rfl)⟩)
    (by kernel_rfl)
end Go.Proofs.YtafgbjhojkgbjaaGreatDoor

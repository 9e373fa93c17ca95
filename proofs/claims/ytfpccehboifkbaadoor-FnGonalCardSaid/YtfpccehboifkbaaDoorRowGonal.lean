/-
  FnGonal: the law answers yes to all its arguments, and leaves them as they were: proved for every input.
-/
import Derived.Test.YtfpccehboifkbaaDoorCards
import Derived.Test.YtfpccehboifkbaaDoorTie
import Derived.SevenTiedAt
import Derived.Handed
import Derived.Deep.DeepHandedRow
import Derived.LaidHandle
import Derived.Test.YtfpccehboifkbaaDoorRows
import Derived.Test.YtfpccehboifkbaaDoorFacts
import Derived.Test.YtfpccehboifkbaaDoorPureGo
import Derived.ProofKit
import Derived.SizedLaws
namespace Go.Proofs.YtfpccehboifkbaaDoor
open Go Go.ChangeShapes Go.WideShapes Go.ChangeAt Go.RowKit Go.Den
set_option linter.unusedVariables false
set_option maxRecDepth 100000
theorem GonalOwn : ownKnob Tryd.prog.godebug = none := by kernel_rfl
theorem GonalLaid : laidOutB Tryd.prog = true := by kernel_rfl
theorem GonalRels : Rels Go.Proofs.Tryd.prog Go.Proofs.Tryd.f4.params.toList [(.sl (.int .u8))] := by
  rw [Go.Proofs.Tryd.params4]
  exact ⟨⟨5, Go.Proofs.Tryd.underlying22, by kernel_rfl, by decide, Go.Proofs.Tryd.underlying5⟩, trivial⟩
theorem GonalRead : ∀ t ∈ Go.Proofs.Tryd.f4.params.toList, Go.Proofs.Tryd.prog.readableRec t = true ∧ t < Go.Proofs.Tryd.prog.types.size := by
  rw [Go.Proofs.Tryd.params4]
  intro t ht
  simp only [List.mem_cons, List.not_mem_nil, or_false] at ht
  rcases ht with rfl <;> exact ⟨by kernel_rfl, of_decide_eq_true (by kernel_rfl)⟩
theorem GonalArgs (zs : List Arg) (h : zs.map Arg.t = [(.sl (.int .u8))]) (hr : ∀ z ∈ zs, Rng z.t z.x) : ∃ (a : (prodTy (D.Γ.insL 67)).den) (r : (prodTy (D.Γ.outsL 67)).den), unProd (D.Γ.insL 67) a = zs.map Arg.d ∧ unProd (D.Γ.outsL 67) r = [⟨.bool, true⟩] ∧ den D.Γ D.X 67 a = some r := by
  match zs, h, hr with
  | [⟨t0, x0, g0⟩], h, hr =>
    simp only [List.map_cons, List.map_nil, List.cons.injEq, and_true] at h
    obtain rfl := h
    have h0 := hr ⟨_, x0, g0⟩ (by simp)
    exact ⟨x0, true, rfl, rfl, D.law_Gonal⟩
theorem GonalLifted (os : Os) (started : os.Started) (H : Type) (enc : TypeId × Value → H) :
    ReturnsInHanded {} Tryd.checked os 4 .any (fun w args => (Rows.fnGonalSpec.pre enc Tryd.prog Tryd.f4 [] false w args ∧ laidMetH Tryd.prog Rows.fnGonalRow.laid w) ∧ sizedMet enc Tryd.prog Tryd.f4 (OpenSpec.ofChange Rows.fnGonalSpec) false w args) (Rows.fnGonalSpec.post enc Tryd.prog Tryd.f4 false true false false) := by
  refine returnsInHanded_of_change_and (C := Tryd.checked) (X := fun w _ => laidMetH Tryd.prog Rows.fnGonalRow.laid w) (fun _ _ _ hh h => h.of_heap hh) GonalOwn started (by kernel_rfl) Tryd.func4
    (ChangeSpec.witness_at (enc := enc) (C := Tryd.checked) (os := os) (X := fun w _ => laidMetH Tryd.prog Rows.fnGonalRow.laid w) false (laidWorld os) #[.slice none 0 0] 8 rfl (by kernel_rfl) (by kernel_rfl) (by kernel_rfl) (by kernel_rfl) (by kernel_rfl) (laid_met3 os _)) ?_
  intro W base args ds gs before hval hW _ _ hL _
  refine law_contract D.good GonalLaid (n := 67) rfl rfl (tys := [(.sl (.int .u8))]) rfl GonalRels GonalRead (B := 4) rfl Tryd.underlying4 GonalArgs (s := Rows.fnGonalSpec) rfl (fun ds hd => ?_) false hval hW (told_of_laid3 hL)
  rw [Tryd.params4] at hd
  match ds, hd with
  | [_], _ => rfl
theorem GonalRow : Rows.FnGonalSaid :=
  OpenClaim.holds_of_wide 4 Tryd.f4 rfl rfl rfl rfl rfl rfl rfl ⟨rfl, rfl, rfl, rfl, rfl⟩ rfl rfl rfl rfl rfl (by kernel_rfl) Tryd.func4 (by kernel_rfl)
    (of_decide_eq_true (by kernel_rfl)) (by unfold Func.isWrapper; first | (rw [if_pos (by decide +kernel)]; kernel_rfl) | (rw [if_neg (by decide +kernel)]; exact ⟨rfl, rfl⟩))
    (fun os started H enc _ => GonalLifted os started H enc)
theorem GonalHolds : Rows.FnGonalCardSaid :=
  Claim7.holds_tied_plain_at .later [] [.data, .data, .data] true (true, "548c20769c3ff50f1cfda8ff6dd32ef2902e0f03e8281a6501edcefd98538f1b") false
    GonalRow (fun _ h => by cases h) (by kernel_rfl) (fun _ h => by cases h) fnGonal_row_tie rfl ⟨rfl, rfl⟩ (by kernel_rfl) rfl
    (fun f fn hf hfn => by
      obtain rfl : f = 4 := Option.some.inj ((show Tryd.prog.funcNamed Rows.fnGonalRow.func = some 4 by kernel_rfl).symm.trans hf) |>.symm
      obtain rfl : fn = Tryd.f4 := (Option.some.inj (Tryd.func4.symm.trans hfn)).symm
      exact ⟨by kernel_rfl, fun j t ht => by
        rw [Tryd.params4] at ht
        have hm := Array.mem_of_getElem? ht
        simp only [List.mem_toArray, List.mem_cons, List.not_mem_nil, or_false] at hm
        rcases hm with rfl <;> exact (show Tryd.prog.wantsStandIn _ = false by kernel_rfl)⟩)
    (by kernel_rfl)
end Go.Proofs.YtfpccehboifkbaaDoor

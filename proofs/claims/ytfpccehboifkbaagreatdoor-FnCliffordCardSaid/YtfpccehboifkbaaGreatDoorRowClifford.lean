/-
  FnClifford: the law answers yes to all its arguments, and leaves them as they were: proved for every input.
-/
import Derived.Test.YtfpccehboifkbaaGreatDoorCards
import Derived.Test.YtfpccehboifkbaaGreatDoorTie
import Derived.SevenTiedAt
import Derived.Handed
import Derived.Deep.DeepHandedRow
import Derived.LaidHandle
import Derived.Test.YtfpccehboifkbaaGreatDoorRows
import Derived.Test.YtfpccehboifkbaaGreatDoorFacts
import Derived.Test.YtfpccehboifkbaaGreatDoorPureFc
import Derived.ProofKit
import Derived.SizedLaws
namespace Go.Proofs.YtfpccehboifkbaaGreatDoor
open Go Go.ChangeShapes Go.WideShapes Go.ChangeAt Go.RowKit Go.Den
set_option linter.unusedVariables false
set_option maxRecDepth 100000
theorem CliffordOwn : ownKnob Tryz.prog.godebug = none := by kernel_rfl
theorem CliffordLaid : laidOutB Tryz.prog = true := by kernel_rfl
theorem CliffordRels : Rels Go.Proofs.Tryz.prog Go.Proofs.Tryz.f8.params.toList [(.sl (.int .u8))] := by
  rw [Go.Proofs.Tryz.params8]
  exact ⟨⟨5, Go.Proofs.Tryz.underlying42, by kernel_rfl, by decide, Go.Proofs.Tryz.underlying5⟩, trivial⟩
theorem CliffordRead : ∀ t ∈ Go.Proofs.Tryz.f8.params.toList, Go.Proofs.Tryz.prog.readableRec t = true ∧ t < Go.Proofs.Tryz.prog.types.size := by
  rw [Go.Proofs.Tryz.params8]
  intro t ht
  simp only [List.mem_cons, List.not_mem_nil, or_false] at ht
  rcases ht with rfl <;> exact ⟨by kernel_rfl, of_decide_eq_true (by kernel_rfl)⟩
theorem CliffordArgs (zs : List Arg) (h : zs.map Arg.t = [(.sl (.int .u8))]) (hr : ∀ z ∈ zs, Rng z.t z.x) : ∃ (a : (prodTy (D.Γ.insL 90)).den) (r : (prodTy (D.Γ.outsL 90)).den), unProd (D.Γ.insL 90) a = zs.map Arg.d ∧ unProd (D.Γ.outsL 90) r = [⟨.bool, true⟩] ∧ den D.Γ D.X 90 a = some r := by
  match zs, h, hr with
  | [⟨t0, x0, g0⟩], h, hr =>
    simp only [List.map_cons, List.map_nil, List.cons.injEq, and_true] at h
    obtain rfl := h
    have h0 := hr ⟨_, x0, g0⟩ (by simp)
    exact ⟨x0, true, rfl, rfl, D.law_Clifford⟩
theorem CliffordLifted (os : Os) (started : os.Started) (H : Type) (enc : TypeId × Value → H) :
    ReturnsInHanded {} Tryz.checked os 8 .any (fun w args => (Rows.fnCliffordSpec.pre enc Tryz.prog Tryz.f8 [] false w args ∧ laidMetH Tryz.prog Rows.fnCliffordRow.laid w) ∧ sizedMet enc Tryz.prog Tryz.f8 (OpenSpec.ofChange Rows.fnCliffordSpec) false w args) (Rows.fnCliffordSpec.post enc Tryz.prog Tryz.f8 false true false false) := by
  refine returnsInHanded_of_change_and (C := Tryz.checked) (X := fun w _ => laidMetH Tryz.prog Rows.fnCliffordRow.laid w) (fun _ _ _ hh h => h.of_heap hh) CliffordOwn started (by kernel_rfl) Tryz.func8
    (ChangeSpec.witness_at (enc := enc) (C := Tryz.checked) (os := os) (X := fun w _ => laidMetH Tryz.prog Rows.fnCliffordRow.laid w) false (laidWorld os) #[.slice none 0 0] 8 rfl (by kernel_rfl) (by kernel_rfl) (by kernel_rfl) (by kernel_rfl) (by kernel_rfl) (laid_met3 os _)) ?_
  intro W base args ds gs before hval hW _ _ hL _
  refine law_contract D.good CliffordLaid (n := 90) rfl rfl (tys := [(.sl (.int .u8))]) rfl CliffordRels CliffordRead (B := 4) rfl Tryz.underlying4 CliffordArgs (s := Rows.fnCliffordSpec) rfl (fun ds hd => ?_) false hval hW (told_of_laid3 hL)
  rw [Tryz.params8] at hd
  match ds, hd with
  | [_], _ => rfl
theorem CliffordRow : Rows.FnCliffordSaid :=
  OpenClaim.holds_of_wide 8 Tryz.f8 rfl rfl rfl rfl rfl rfl rfl ⟨rfl, rfl, rfl, rfl, rfl⟩ rfl rfl rfl rfl rfl (by kernel_rfl) Tryz.func8 (by kernel_rfl)
    (of_decide_eq_true (by kernel_rfl)) (by unfold Func.isWrapper; first | (rw [if_pos (by decide +kernel)]; kernel_rfl) | (rw [if_neg (by decide +kernel)]; exact ⟨rfl, rfl⟩))
    (fun os started H enc _ => CliffordLifted os started H enc)
theorem CliffordHolds : Rows.FnCliffordCardSaid :=
  Claim7.holds_tied_plain_at .later [] [.data, .data, .data] true (true, "7d583681dadf18eff292ce4a8bd3029ecb51645a4fae16cfe30e914612dcfbd4") true
    CliffordRow (fun _ h => by cases h) (by kernel_rfl) (fun _ h => by cases h) fnClifford_row_tie rfl ⟨rfl, rfl⟩ (by kernel_rfl) rfl
    (fun f fn hf hfn => by
      obtain rfl : f = 8 := Option.some.inj ((show Tryz.prog.funcNamed Rows.fnCliffordRow.func = some 8 by kernel_rfl).symm.trans hf) |>.symm
      obtain rfl : fn = Tryz.f8 := (Option.some.inj (Tryz.func8.symm.trans hfn)).symm
      exact ⟨by kernel_rfl, fun j t ht => by
        rw [Tryz.params8] at ht
        have hm := Array.mem_of_getElem? ht
        simp only [List.mem_toArray, List.mem_cons, List.not_mem_nil, or_false] at hm
        rcases hm with rfl <;> exact (show Tryz.prog.wantsStandIn _ = false by kernel_rfl)⟩)
    (by kernel_rfl)
end Go.Proofs.YtfpccehboifkbaaGreatDoor

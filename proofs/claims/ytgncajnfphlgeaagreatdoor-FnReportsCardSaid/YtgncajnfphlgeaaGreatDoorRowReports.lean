/-
  FnReports: the law answers yes to all its arguments, and leaves them as they were: proved for every input.
-/
import Derived.Test.YtgncajnfphlgeaaGreatDoorCards
import Derived.Test.YtgncajnfphlgeaaGreatDoorTie
import Derived.SevenTiedAt
import Derived.Handed
import Derived.Deep.DeepHandedRow
import Derived.LaidHandle
import Derived.Test.YtgncajnfphlgeaaGreatDoorRows
import Derived.Test.YtgncajnfphlgeaaGreatDoorFacts
import Derived.Test.YtgncajnfphlgeaaGreatDoorPureRp
import Derived.ProofKit
import Derived.SizedLaws
namespace Go.Proofs.YtgncajnfphlgeaaGreatDoor
open Go Go.ChangeShapes Go.WideShapes Go.ChangeAt Go.RowKit Go.Den
set_option linter.unusedVariables false
set_option maxRecDepth 100000
theorem ReportsOwn : ownKnob Tryz.prog.godebug = none := by kernel_rfl
theorem ReportsLaid : laidOutB Tryz.prog = true := by kernel_rfl
theorem ReportsRels : Rels Go.Proofs.Tryz.prog Go.Proofs.Tryz.f4.params.toList [(.sl (.int .u8))] := by
  rw [Go.Proofs.Tryz.params4]
  exact ⟨⟨5, Go.Proofs.Tryz.underlying22, by kernel_rfl, by decide, Go.Proofs.Tryz.underlying5⟩, trivial⟩
theorem ReportsRead : ∀ t ∈ Go.Proofs.Tryz.f4.params.toList, Go.Proofs.Tryz.prog.readableRec t = true ∧ t < Go.Proofs.Tryz.prog.types.size := by
  rw [Go.Proofs.Tryz.params4]
  intro t ht
  simp only [List.mem_cons, List.not_mem_nil, or_false] at ht
  rcases ht with rfl <;> exact ⟨by kernel_rfl, of_decide_eq_true (by kernel_rfl)⟩
theorem ReportsArgs (zs : List Arg) (h : zs.map Arg.t = [(.sl (.int .u8))]) (hr : ∀ z ∈ zs, Rng z.t z.x) : ∃ (a : (prodTy (D.Γ.insL 83)).den) (r : (prodTy (D.Γ.outsL 83)).den), unProd (D.Γ.insL 83) a = zs.map Arg.d ∧ unProd (D.Γ.outsL 83) r = [⟨.bool, true⟩] ∧ den D.Γ D.X 83 a = some r := by
  match zs, h, hr with
  | [⟨t0, x0, g0⟩], h, hr =>
    simp only [List.map_cons, List.map_nil, List.cons.injEq, and_true] at h
    obtain rfl := h
    have h0 := hr ⟨_, x0, g0⟩ (by simp)
    exact ⟨x0, true, rfl, rfl, D.law_Reports⟩
theorem ReportsLifted (os : Os) (started : os.Started) (H : Type) (enc : TypeId × Value → H) :
    ReturnsInHanded {} Tryz.checked os 4 .any (fun w args => (Rows.fnReportsSpec.pre enc Tryz.prog Tryz.f4 [] false w args ∧ laidMetH Tryz.prog Rows.fnReportsRow.laid w) ∧ sizedMet enc Tryz.prog Tryz.f4 (OpenSpec.ofChange Rows.fnReportsSpec) false w args) (Rows.fnReportsSpec.post enc Tryz.prog Tryz.f4 false true false false) := by
  refine returnsInHanded_of_change_and (C := Tryz.checked) (X := fun w _ => laidMetH Tryz.prog Rows.fnReportsRow.laid w) (fun _ _ _ hh h => h.of_heap hh) ReportsOwn started (by kernel_rfl) Tryz.func4
    (ChangeSpec.witness_at (enc := enc) (C := Tryz.checked) (os := os) (X := fun w _ => laidMetH Tryz.prog Rows.fnReportsRow.laid w) false (laidWorld os) #[.slice none 0 0] 8 rfl (by kernel_rfl) (by kernel_rfl) (by kernel_rfl) (by kernel_rfl) (by kernel_rfl) (laid_met3 os _)) ?_
  intro W base args ds gs before hval hW _ _ hL _
  refine law_contract D.good ReportsLaid (n := 83) rfl rfl (tys := [(.sl (.int .u8))]) rfl ReportsRels ReportsRead (B := 4) rfl Tryz.underlying4 ReportsArgs (s := Rows.fnReportsSpec) rfl (fun ds hd => ?_) false hval hW (told_of_laid3 hL)
  rw [Tryz.params4] at hd
  match ds, hd with
  | [_], _ => rfl
theorem ReportsRow : Rows.FnReportsSaid :=
  OpenClaim.holds_of_wide 4 Tryz.f4 rfl rfl rfl rfl rfl rfl rfl ⟨rfl, rfl, rfl, rfl, rfl⟩ rfl rfl rfl rfl rfl (by kernel_rfl) Tryz.func4 (by kernel_rfl)
    (of_decide_eq_true (by kernel_rfl)) (by unfold Func.isWrapper; first | (rw [if_pos (by decide +kernel)]; kernel_rfl) | (rw [if_neg (by decide +kernel)]; exact ⟨rfl, rfl⟩))
    (fun os started H enc _ => ReportsLifted os started H enc)
theorem ReportsHolds : Rows.FnReportsCardSaid :=
  Claim7.holds_tied_plain_at .later [] [.data, .data, .data] true (true, "e0f5dd366495c8a8923d95f30ffc21d5234ea25dcfe5c2d6167b9be8a1939cf7") false
    ReportsRow (fun _ h => by cases h) (by kernel_rfl) (fun _ h => by cases h) fnReports_row_tie rfl ⟨rfl, rfl⟩ (by kernel_rfl) rfl
    (fun f fn hf hfn => by
      obtain rfl : f = 4 := Option.some.inj ((show Tryz.prog.funcNamed Rows.fnReportsRow.func = some 4 by kernel_rfl).symm.trans hf) |>.symm
      obtain rfl : fn = Tryz.f4 := (Option.some.inj (Tryz.func4.symm.trans hfn)).symm
      exact ⟨by kernel_rfl, fun j t ht => by
        rw [Tryz.params4] at ht
        have hm := Array.mem_of_getElem? ht
        simp only [List.mem_toArray, List.mem_cons, List.not_mem_nil, or_false] at hm
        rcases hm with rfl <;> exact (show Tryz.prog.wantsStandIn _ = false by kernel_rfl)⟩)
    (by kernel_rfl)
end Go.Proofs.YtgncajnfphlgeaaGreatDoor

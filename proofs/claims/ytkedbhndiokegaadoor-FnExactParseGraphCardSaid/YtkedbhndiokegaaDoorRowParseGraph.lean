/-
  FnExactParseGraph: the law answers yes to all its arguments, and leaves them as they were: proved for every input.
-/
import Derived.Test.YtkedbhndiokegaaDoorCards
import Derived.Test.YtkedbhndiokegaaDoorTie
import Derived.SevenTiedAt
import Derived.Handed
import Derived.Deep.DeepHandedRow
import Derived.LaidHandle
import Derived.Test.YtkedbhndiokegaaDoorRows
import Derived.Test.YtkedbhndiokegaaDoorFacts
import Derived.Test.YtkedbhndiokegaaDoorPurePG
import Derived.ProofKit
import Derived.SizedLaws
namespace Go.Proofs.YtkedbhndiokegaaDoor
open Go Go.ChangeShapes Go.WideShapes Go.ChangeAt Go.RowKit Go.Den
set_option linter.unusedVariables false
set_option maxRecDepth 100000
theorem ParseGraphOwn : ownKnob Tryd.prog.godebug = none := by kernel_rfl
theorem ParseGraphLaid : laidOutB Tryd.prog = true := by kernel_rfl
theorem ParseGraphRels : Rels Go.Proofs.Tryd.prog Go.Proofs.Tryd.f4.params.toList [.str] := by
  rw [Go.Proofs.Tryd.params4]
  exact ⟨Go.Proofs.Tryd.underlying9, trivial⟩
theorem ParseGraphRead : ∀ t ∈ Go.Proofs.Tryd.f4.params.toList, Go.Proofs.Tryd.prog.readableRec t = true ∧ t < Go.Proofs.Tryd.prog.types.size := by
  rw [Go.Proofs.Tryd.params4]
  intro t ht
  simp only [List.mem_cons, List.not_mem_nil, or_false] at ht
  rcases ht with rfl <;> exact ⟨by kernel_rfl, of_decide_eq_true (by kernel_rfl)⟩
theorem ParseGraphArgs (zs : List Arg) (h : zs.map Arg.t = [.str]) (hr : ∀ z ∈ zs, Rng z.t z.x) : ∃ (a : (prodTy (D.Γ.insL 42)).den) (r : (prodTy (D.Γ.outsL 42)).den), unProd (D.Γ.insL 42) a = zs.map Arg.d ∧ unProd (D.Γ.outsL 42) r = [⟨.bool, true⟩] ∧ den D.Γ D.X 42 a = some r := by
  match zs, h, hr with
  | [⟨t0, x0, g0⟩], h, hr =>
    simp only [List.map_cons, List.map_nil, List.cons.injEq, and_true] at h
    obtain rfl := h
    have h0 := hr ⟨_, x0, g0⟩ (by simp)
    exact ⟨x0, true, rfl, rfl, D.law_ParseGraph (Nat.le_trans h0 (by decide))⟩
theorem ParseGraphLifted (os : Os) (started : os.Started) (H : Type) (enc : TypeId × Value → H) :
    ReturnsInHanded {} Tryd.checked os 4 .any (fun w args => (Rows.fnExactParseGraphSpec.pre enc Tryd.prog Tryd.f4 [] false w args ∧ laidMetH Tryd.prog Rows.fnExactParseGraphRow.laid w) ∧ sizedMet enc Tryd.prog Tryd.f4 (OpenSpec.ofChange Rows.fnExactParseGraphSpec) false w args) (Rows.fnExactParseGraphSpec.post enc Tryd.prog Tryd.f4 false true false false) := by
  refine returnsInHanded_of_row (C := Tryd.checked) (s := OpenSpec.ofChange Rows.fnExactParseGraphSpec) (F := fun _ _ _ => 0) (conds := []) (apart := false) (laid := Rows.fnExactParseGraphRow.laid) ParseGraphOwn started (by kernel_rfl) Tryd.func4
    (ChangeSpec.witness_at (enc := enc) (C := Tryd.checked) (os := os) (X := fun w _ => laidMetH Tryd.prog Rows.fnExactParseGraphRow.laid w) false (laidWorld os) #[.string ByteArray.empty] 8 rfl (by kernel_rfl) (by kernel_rfl) (by kernel_rfl) (by kernel_rfl) (by kernel_rfl) (laid_met5 os _)) ?_
  intro W base args ds gs before hval hW _ _ _ hL hsh _
  refine law_contract D.good ParseGraphLaid (n := 42) rfl rfl (tys := [.str]) rfl ParseGraphRels ParseGraphRead (B := 4) rfl Tryd.underlying4 ParseGraphArgs (s := Rows.fnExactParseGraphSpec) rfl (fun ds hd => ?_) false hval hW (told_of_laid5 hL hsh)
  rw [Tryd.params4] at hd
  match ds, hd with
  | [_], _ => rfl
theorem ParseGraphRow : Rows.FnExactParseGraphSaid :=
  OpenClaim.holds_of_wide 4 Tryd.f4 rfl rfl rfl rfl rfl rfl rfl ⟨rfl, rfl, rfl, rfl, rfl⟩ rfl rfl rfl rfl rfl (by kernel_rfl) Tryd.func4 (by kernel_rfl)
    (of_decide_eq_true (by kernel_rfl)) (by unfold Func.isWrapper; first | (rw [if_pos (by decide +kernel)]; kernel_rfl) | (rw [if_neg (by decide +kernel)]; exact ⟨rfl, rfl⟩))
    (fun os started H enc _ => ParseGraphLifted os started H enc)
theorem ParseGraphHolds : Rows.FnExactParseGraphCardSaid :=
  Claim7.holds_tied_plain_at .later [] [.data, .data, .data, .sentinel, .sentinel] true (true, "104e489b459beaaf7f45c0b21b368d992550f7655534c924b26353aaa8ed8911") true
    ParseGraphRow (fun _ h => by cases h) (by kernel_rfl) (fun _ h => by cases h) fnExactParseGraph_row_tie rfl ⟨rfl, rfl⟩ (by kernel_rfl) rfl
    (fun f fn hf hfn => by
      obtain rfl : f = 4 := Option.some.inj ((show Tryd.prog.funcNamed Rows.fnExactParseGraphRow.func = some 4 by kernel_rfl).symm.trans hf) |>.symm
      obtain rfl : fn = Tryd.f4 := (Option.some.inj (Tryd.func4.symm.trans hfn)).symm
      exact ⟨by kernel_rfl, fun j t ht => by
        rw [Tryd.params4] at ht
        have hm := Array.mem_of_getElem? ht
        simp only [List.mem_toArray, List.mem_cons, List.not_mem_nil, or_false] at hm
        rcases hm with rfl <;> exact (show Tryd.prog.wantsStandIn _ = false by kernel_rfl)⟩)
    (by kernel_rfl)
end Go.Proofs.YtkedbhndiokegaaDoor

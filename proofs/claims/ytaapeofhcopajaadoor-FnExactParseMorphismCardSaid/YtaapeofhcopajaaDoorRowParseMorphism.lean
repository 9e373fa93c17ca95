/-
  FnExactParseMorphism: the law answers yes to all its arguments, and leaves them as they were: proved for every input.
-/
import Derived.Test.YtaapeofhcopajaaDoorCards
import Derived.Test.YtaapeofhcopajaaDoorTie
import Derived.SevenTiedAt
import Derived.Handed
import Derived.Deep.DeepHandedRow
import Derived.LaidHandle
import Derived.Test.YtaapeofhcopajaaDoorRows
import Derived.Test.YtaapeofhcopajaaDoorFacts
import Derived.Test.YtaapeofhcopajaaDoorPurePM
import Derived.ProofKit
import Derived.SizedLaws
namespace Go.Proofs.YtaapeofhcopajaaDoor
open Go Go.ChangeShapes Go.WideShapes Go.ChangeAt Go.RowKit Go.Den
set_option linter.unusedVariables false
set_option maxRecDepth 100000
theorem ParseMorphismOwn : ownKnob Tryd.prog.godebug = none := by kernel_rfl
theorem ParseMorphismLaid : laidOutB Tryd.prog = true := by kernel_rfl
theorem ParseMorphismRels : Rels Go.Proofs.Tryd.prog Go.Proofs.Tryd.f8.params.toList [.str] := by
  rw [Go.Proofs.Tryd.params8]
  exact ⟨Go.Proofs.Tryd.underlying9, trivial⟩
theorem ParseMorphismRead : ∀ t ∈ Go.Proofs.Tryd.f8.params.toList, Go.Proofs.Tryd.prog.readableRec t = true ∧ t < Go.Proofs.Tryd.prog.types.size := by
  rw [Go.Proofs.Tryd.params8]
  intro t ht
  simp only [List.mem_cons, List.not_mem_nil, or_false] at ht
  rcases ht with rfl <;> exact ⟨by kernel_rfl, of_decide_eq_true (by kernel_rfl)⟩
theorem ParseMorphismArgs (zs : List Arg) (h : zs.map Arg.t = [.str]) (hr : ∀ z ∈ zs, Rng z.t z.x) : ∃ (a : (prodTy (D.Γ.insL 51)).den) (r : (prodTy (D.Γ.outsL 51)).den), unProd (D.Γ.insL 51) a = zs.map Arg.d ∧ unProd (D.Γ.outsL 51) r = [⟨.bool, true⟩] ∧ den D.Γ D.X 51 a = some r := by
  match zs, h, hr with
  | [⟨t0, x0, g0⟩], h, hr =>
    simp only [List.map_cons, List.map_nil, List.cons.injEq, and_true] at h
    obtain rfl := h
    have h0 := hr ⟨_, x0, g0⟩ (by simp)
    exact ⟨x0, true, rfl, rfl, D.law_ParseMorphism (Nat.le_trans h0 (by decide))⟩
theorem ParseMorphismLifted (os : Os) (started : os.Started) (H : Type) (enc : TypeId × Value → H) :
    ReturnsInHanded {} Tryd.checked os 8 .any (fun w args => (Rows.fnExactParseMorphismSpec.pre enc Tryd.prog Tryd.f8 [] false w args ∧ laidMetH Tryd.prog Rows.fnExactParseMorphismRow.laid w) ∧ sizedMet enc Tryd.prog Tryd.f8 (OpenSpec.ofChange Rows.fnExactParseMorphismSpec) false w args) (Rows.fnExactParseMorphismSpec.post enc Tryd.prog Tryd.f8 false true false false) := by
  refine returnsInHanded_of_row (C := Tryd.checked) (s := OpenSpec.ofChange Rows.fnExactParseMorphismSpec) (F := fun _ _ _ => 0) (conds := []) (apart := false) (laid := Rows.fnExactParseMorphismRow.laid) ParseMorphismOwn started (by kernel_rfl) Tryd.func8
    (ChangeSpec.witness_at (enc := enc) (C := Tryd.checked) (os := os) (X := fun w _ => laidMetH Tryd.prog Rows.fnExactParseMorphismRow.laid w) false (laidWorld os) #[.string ByteArray.empty] 8 rfl (by kernel_rfl) (by kernel_rfl) (by kernel_rfl) (by kernel_rfl) (by kernel_rfl) (laid_met5 os _)) ?_
  intro W base args ds gs before hval hW _ _ _ hL hsh _
  refine law_contract D.good ParseMorphismLaid (n := 51) rfl rfl (tys := [.str]) rfl ParseMorphismRels ParseMorphismRead (B := 4) rfl Tryd.underlying4 ParseMorphismArgs (s := Rows.fnExactParseMorphismSpec) rfl (fun ds hd => ?_) false hval hW (told_of_laid5 hL hsh)
  rw [Tryd.params8] at hd
  match ds, hd with
  | [_], _ => rfl
theorem ParseMorphismRow : Rows.FnExactParseMorphismSaid :=
  OpenClaim.holds_of_wide 8 Tryd.f8 rfl rfl rfl rfl rfl rfl rfl ⟨rfl, rfl, rfl, rfl, rfl⟩ rfl rfl rfl rfl rfl (by kernel_rfl) Tryd.func8 (by kernel_rfl)
    (of_decide_eq_true (by kernel_rfl)) (by unfold Func.isWrapper; first | (rw [if_pos (by decide +kernel)]; kernel_rfl) | (rw [if_neg (by decide +kernel)]; exact ⟨rfl, rfl⟩))
    (fun os started H enc _ => ParseMorphismLifted os started H enc)
theorem ParseMorphismHolds : Rows.FnExactParseMorphismCardSaid :=
  Claim7.holds_tied_plain_at .later [] [.data, .data, .data, .sentinel, .sentinel] true (true, "3a8dfcc70ff91cbd1bb8e94ae599033bd01e3cb7379a5ac5bafdc3b9f31778e0") true
    ParseMorphismRow (fun _ h => by cases h) (by kernel_rfl) (fun _ h => by cases h) fnExactParseMorphism_row_tie rfl ⟨rfl, rfl⟩ (by kernel_rfl) rfl
    (fun f fn hf hfn => by
      obtain rfl : f = 8 := Option.some.inj ((show Tryd.prog.funcNamed Rows.fnExactParseMorphismRow.func = some 8 by kernel_rfl).symm.trans hf) |>.symm
      obtain rfl : fn = Tryd.f8 := (Option.some.inj (Tryd.func8.symm.trans hfn)).symm
      exact ⟨by kernel_rfl, fun j t ht => by
        rw [Tryd.params8] at ht
        have hm := Array.mem_of_getElem? ht
        simp only [List.mem_toArray, List.mem_cons, List.not_mem_nil, or_false] at hm
        rcases hm with rfl <;> exact (show Tryd.prog.wantsStandIn _ = false by kernel_rfl)⟩)
    (by kernel_rfl)
end Go.Proofs.YtaapeofhcopajaaDoor

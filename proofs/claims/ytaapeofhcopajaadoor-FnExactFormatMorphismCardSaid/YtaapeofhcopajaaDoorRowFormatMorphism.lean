/-
  FnExactFormatMorphism: the law answers yes to all its arguments, and leaves them as they were: proved for every input.
-/
import Derived.Test.YtaapeofhcopajaaDoorCards
import Derived.Test.YtaapeofhcopajaaDoorTie
import Derived.SevenTiedAt
import Derived.Handed
import Derived.LaidHandle
import Derived.Test.YtaapeofhcopajaaDoorRows
import Derived.Test.YtaapeofhcopajaaDoorFacts
import Derived.Test.YtaapeofhcopajaaDoorPureS
import Derived.ProofKit
import Derived.SizedLaws
namespace Go.Proofs.YtaapeofhcopajaaDoor
open Go Go.ChangeShapes Go.WideShapes Go.ChangeAt Go.RowKit Go.Den
set_option linter.unusedVariables false
set_option maxRecDepth 100000
theorem FormatMorphismOwn : ownKnob Tryd.prog.godebug = none := by kernel_rfl
theorem FormatMorphismLaid : laidOutB Tryd.prog = true := by kernel_rfl
theorem FormatMorphismRels : Rels Go.Proofs.Tryd.prog Go.Proofs.Tryd.f4.params.toList [(.cons (.sl (.int .i64)) (.sl (.int .i64)))] := by
  rw [Go.Proofs.Tryd.params4]
  exact ⟨⟨_, Go.Proofs.Tryd.underlying28, by kernel_rfl, _, _, rfl, rfl, by kernel_rfl, ⟨3, Go.Proofs.Tryd.underlying22, by kernel_rfl, by decide, Go.Proofs.Tryd.underlying3⟩, .inl ⟨_, rfl, rfl, by kernel_rfl, ⟨3, Go.Proofs.Tryd.underlying22, by kernel_rfl, by decide, Go.Proofs.Tryd.underlying3⟩⟩⟩, trivial⟩
theorem FormatMorphismRead : ∀ t ∈ Go.Proofs.Tryd.f4.params.toList, Go.Proofs.Tryd.prog.readableRec t = true ∧ t < Go.Proofs.Tryd.prog.types.size := by
  rw [Go.Proofs.Tryd.params4]
  intro t ht
  simp only [List.mem_cons, List.not_mem_nil, or_false] at ht
  rcases ht with rfl <;> exact ⟨by kernel_rfl, of_decide_eq_true (by kernel_rfl)⟩
theorem FormatMorphismArgs (zs : List Arg) (h : zs.map Arg.t = [(.cons (.sl (.int .i64)) (.sl (.int .i64)))]) (hr : ∀ z ∈ zs, Rng z.t z.x) : ∃ (a : (prodTy (D.Γ.insL 17)).den) (r : (prodTy (D.Γ.outsL 17)).den), unProd (D.Γ.insL 17) a = zs.map Arg.d ∧ unProd (D.Γ.outsL 17) r = [⟨.bool, true⟩] ∧ den D.Γ D.X 17 a = some r := by
  match zs, h, hr with
  | [⟨t0, x0, g0⟩], h, hr =>
    simp only [List.map_cons, List.map_nil, List.cons.injEq, and_true] at h
    obtain rfl := h
    have h0 := hr ⟨_, x0, g0⟩ (by simp)
    exact ⟨x0, true, rfl, rfl, D.law_FormatMorphism (Nat.le_trans h0.1.1 (by decide)) (h0.1.2) (Nat.le_trans h0.2.1 (by decide)) (h0.2.2)⟩
theorem FormatMorphismLifted (os : Os) (started : os.Started) (H : Type) (enc : TypeId × Value → H) :
    ReturnsInHanded {} Tryd.checked os 4 .any (fun w args => (Rows.fnExactFormatMorphismSpec.pre enc Tryd.prog Tryd.f4 [] false w args ∧ laidMetH Tryd.prog Rows.fnExactFormatMorphismRow.laid w) ∧ sizedMet enc Tryd.prog Tryd.f4 (OpenSpec.ofChange Rows.fnExactFormatMorphismSpec) false w args) (Rows.fnExactFormatMorphismSpec.post enc Tryd.prog Tryd.f4 false true false false) := by
  refine returnsInHanded_of_change_and (C := Tryd.checked) (X := fun w _ => laidMetH Tryd.prog Rows.fnExactFormatMorphismRow.laid w) (fun _ _ _ hh h => h.of_heap hh) FormatMorphismOwn started (by kernel_rfl) Tryd.func4
    (ChangeSpec.witness_at (enc := enc) (C := Tryd.checked) (os := os) (X := fun w _ => laidMetH Tryd.prog Rows.fnExactFormatMorphismRow.laid w) false (laidWorld os) #[.agg #[.slice none 0 0, .slice none 0 0]] 8 rfl (by kernel_rfl) (by kernel_rfl) (by kernel_rfl) (by kernel_rfl) (by kernel_rfl) (laid_met3 os _)) ?_
  intro W base args ds gs before hval hW _ _ hL _
  refine law_contract D.good FormatMorphismLaid (n := 17) rfl rfl (tys := [(.cons (.sl (.int .i64)) (.sl (.int .i64)))]) rfl FormatMorphismRels FormatMorphismRead (B := 4) rfl Tryd.underlying4 FormatMorphismArgs (s := Rows.fnExactFormatMorphismSpec) rfl (fun ds hd => ?_) false hval hW (told_of_laid3 hL)
  rw [Tryd.params4] at hd
  match ds, hd with
  | [_], _ => rfl
theorem FormatMorphismRow : Rows.FnExactFormatMorphismSaid :=
  OpenClaim.holds_of_wide 4 Tryd.f4 rfl rfl rfl rfl rfl rfl rfl ⟨rfl, rfl, rfl, rfl, rfl⟩ rfl rfl rfl rfl rfl (by kernel_rfl) Tryd.func4 (by kernel_rfl)
    (of_decide_eq_true (by kernel_rfl)) (by unfold Func.isWrapper; first | (rw [if_pos (by decide +kernel)]; kernel_rfl) | (rw [if_neg (by decide +kernel)]; exact ⟨rfl, rfl⟩))
    (fun os started H enc _ => FormatMorphismLifted os started H enc)
theorem FormatMorphismHolds : Rows.FnExactFormatMorphismCardSaid :=
  Claim7.holds_tied_plain_at .later [] [.data, .data, .data] true (true, "3a8dfcc70ff91cbd1bb8e94ae599033bd01e3cb7379a5ac5bafdc3b9f31778e0") true
    FormatMorphismRow (fun _ h => by cases h) (by kernel_rfl) (fun _ h => by cases h) fnExactFormatMorphism_row_tie rfl ⟨rfl, rfl⟩ (by kernel_rfl) rfl
    (fun f fn hf hfn => by
      obtain rfl : f = 4 := Option.some.inj ((show Tryd.prog.funcNamed Rows.fnExactFormatMorphismRow.func = some 4 by kernel_rfl).symm.trans hf) |>.symm
      obtain rfl : fn = Tryd.f4 := (Option.some.inj (Tryd.func4.symm.trans hfn)).symm
      exact ⟨by kernel_rfl, fun j t ht => by
        rw [Tryd.params4] at ht
        have hm := Array.mem_of_getElem? ht
        simp only [List.mem_toArray, List.mem_cons, List.not_mem_nil, or_false] at hm
        rcases hm with rfl <;> exact (show Tryd.prog.wantsStandIn _ = false by kernel_rfl)⟩)
    (by kernel_rfl)
end Go.Proofs.YtaapeofhcopajaaDoor

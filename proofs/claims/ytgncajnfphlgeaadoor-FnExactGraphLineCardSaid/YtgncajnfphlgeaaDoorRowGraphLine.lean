/-
  FnExactGraphLine: the law answers yes to all its arguments, and leaves them as they were: proved for every input.
-/
import Derived.Test.YtgncajnfphlgeaaDoorCards
import Derived.Test.YtgncajnfphlgeaaDoorTie
import Derived.SevenTiedAt
import Derived.Handed
import Derived.Deep.DeepHandedRow
import Derived.LaidHandle
import Derived.Test.YtgncajnfphlgeaaDoorRows
import Derived.Test.YtgncajnfphlgeaaDoorFacts
import Derived.Test.YtgncajnfphlgeaaDoorPureGl
import Derived.ProofKit
import Derived.SizedLaws
namespace Go.Proofs.YtgncajnfphlgeaaDoor
open Go Go.ChangeShapes Go.WideShapes Go.ChangeAt Go.RowKit Go.Den
set_option linter.unusedVariables false
set_option maxRecDepth 100000
theorem GraphLineOwn : ownKnob Tryd.prog.godebug = none := by kernel_rfl
theorem GraphLineLaid : laidOutB Tryd.prog = true := by kernel_rfl
theorem GraphLineRels : Rels Go.Proofs.Tryd.prog Go.Proofs.Tryd.f3.params.toList [(.cons (.int .i64) (.sl (.cons (.int .i64) (.int .i64))))] := by
  rw [Go.Proofs.Tryd.params3]
  exact ⟨⟨_, Go.Proofs.Tryd.underlying24, by kernel_rfl, _, _, rfl, rfl, by kernel_rfl, Go.Proofs.Tryd.underlying3, .inl ⟨_, rfl, rfl, by kernel_rfl, ⟨52, Go.Proofs.Tryd.underlying22, by kernel_rfl, by decide, ⟨_, Go.Proofs.Tryd.underlying52, by kernel_rfl, _, _, rfl, rfl, by kernel_rfl, Go.Proofs.Tryd.underlying3, .inl ⟨_, rfl, rfl, by kernel_rfl, Go.Proofs.Tryd.underlying3⟩⟩⟩⟩⟩, trivial⟩
theorem GraphLineRead : ∀ t ∈ Go.Proofs.Tryd.f3.params.toList, Go.Proofs.Tryd.prog.readableRec t = true ∧ t < Go.Proofs.Tryd.prog.types.size := by
  rw [Go.Proofs.Tryd.params3]
  intro t ht
  simp only [List.mem_cons, List.not_mem_nil, or_false] at ht
  rcases ht with rfl <;> exact ⟨by kernel_rfl, of_decide_eq_true (by kernel_rfl)⟩
theorem GraphLineArgs (zs : List Arg) (h : zs.map Arg.t = [(.cons (.int .i64) (.sl (.cons (.int .i64) (.int .i64))))]) (hr : ∀ z ∈ zs, Rng z.t z.x) : ∃ (a : (prodTy (D.Γ.insL 62)).den) (r : (prodTy (D.Γ.outsL 62)).den), unProd (D.Γ.insL 62) a = zs.map Arg.d ∧ unProd (D.Γ.outsL 62) r = [⟨.bool, true⟩] ∧ den D.Γ D.X 62 a = some r := by
  match zs, h, hr with
  | [⟨t0, x0, g0⟩], h, hr =>
    simp only [List.map_cons, List.map_nil, List.cons.injEq, and_true] at h
    obtain rfl := h
    have h0 := hr ⟨_, x0, g0⟩ (by simp)
    exact ⟨x0, true, rfl, rfl, D.law_GraphLine (Nat.le_trans h0.2.1 (by decide))⟩
theorem GraphLineLifted (os : Os) (started : os.Started) (H : Type) (enc : TypeId × Value → H) :
    ReturnsInHanded {} Tryd.checked os 3 .any (fun w args => (Rows.fnExactGraphLineSpec.pre enc Tryd.prog Tryd.f3 [] false w args ∧ laidMetH Tryd.prog Rows.fnExactGraphLineRow.laid w) ∧ sizedMet enc Tryd.prog Tryd.f3 (OpenSpec.ofChange Rows.fnExactGraphLineSpec) false w args) (Rows.fnExactGraphLineSpec.post enc Tryd.prog Tryd.f3 false true false false) := by
  refine returnsInHanded_of_change_and (C := Tryd.checked) (X := fun w _ => laidMetH Tryd.prog Rows.fnExactGraphLineRow.laid w) (fun _ _ _ hh h => h.of_heap hh) GraphLineOwn started (by kernel_rfl) Tryd.func3
    (ChangeSpec.witness_at (enc := enc) (C := Tryd.checked) (os := os) (X := fun w _ => laidMetH Tryd.prog Rows.fnExactGraphLineRow.laid w) false (laidWorld os) #[.agg #[.int .i64 0, .slice none 0 0]] 8 rfl (by kernel_rfl) (by kernel_rfl) (by kernel_rfl) (by kernel_rfl) (by kernel_rfl) (laid_met3 os _)) ?_
  intro W base args ds gs before hval hW _ _ hL _
  refine law_contract D.good GraphLineLaid (n := 62) rfl rfl (tys := [(.cons (.int .i64) (.sl (.cons (.int .i64) (.int .i64))))]) rfl GraphLineRels GraphLineRead (B := 4) rfl Tryd.underlying4 GraphLineArgs (s := Rows.fnExactGraphLineSpec) rfl (fun ds hd => ?_) false hval hW (told_of_laid3 hL)
  rw [Tryd.params3] at hd
  match ds, hd with
  | [_], _ => rfl
theorem GraphLineRow : Rows.FnExactGraphLineSaid :=
  OpenClaim.holds_of_wide 3 Tryd.f3 rfl rfl rfl rfl rfl rfl rfl ⟨rfl, rfl, rfl, rfl, rfl⟩ rfl rfl rfl rfl rfl (by kernel_rfl) Tryd.func3 (by kernel_rfl)
    (of_decide_eq_true (by kernel_rfl)) (by unfold Func.isWrapper; first | (rw [if_pos (by decide +kernel)]; kernel_rfl) | (rw [if_neg (by decide +kernel)]; exact ⟨rfl, rfl⟩))
    (fun os started H enc _ => GraphLineLifted os started H enc)
theorem GraphLineHolds : Rows.FnExactGraphLineCardSaid :=
  Claim7.holds_tied_plain_at .later [] [.data, .data, .data] true (true, "f936d415c524f1b71839f1900d94913b743fe58bcd21ad3fe3740a73ef8e22d8") false
    GraphLineRow (fun _ h => by cases h) (by kernel_rfl) (fun _ h => by cases h) fnExactGraphLine_row_tie rfl ⟨rfl, rfl⟩ (by kernel_rfl) rfl
    (fun f fn hf hfn => by
      obtain rfl : f = 3 := Option.some.inj ((show Tryd.prog.funcNamed Rows.fnExactGraphLineRow.func = some 3 by kernel_rfl).symm.trans hf) |>.symm
      obtain rfl : fn = Tryd.f3 := (Option.some.inj (Tryd.func3.symm.trans hfn)).symm
      exact ⟨by kernel_rfl, fun j t ht => by
        rw [Tryd.params3] at ht
        have hm := Array.mem_of_getElem? ht
        simp only [List.mem_toArray, List.mem_cons, List.not_mem_nil, or_false] at hm
        rcases hm with rfl <;> exact (show Tryd.prog.wantsStandIn _ = false by kernel_rfl)⟩)
    (by kernel_rfl)
end Go.Proofs.YtgncajnfphlgeaaDoor

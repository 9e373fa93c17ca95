/-
  FnExactPileLine: the law answers yes to all its arguments, and leaves them as they were: proved for every input.
-/
import Derived.Test.YthmddgkpebneoaaDoorCards
import Derived.Test.YthmddgkpebneoaaDoorTie
import Derived.SevenTiedAt
import Derived.Handed
import Derived.Deep.DeepHandedRow
import Derived.LaidHandle
import Derived.Test.YthmddgkpebneoaaDoorRows
import Derived.Test.YthmddgkpebneoaaDoorFacts
import Derived.Test.YthmddgkpebneoaaDoorPurePn
import Derived.ProofKit
import Derived.SizedLaws
namespace Go.Proofs.YthmddgkpebneoaaDoor
open Go Go.ChangeShapes Go.WideShapes Go.ChangeAt Go.RowKit Go.Den
set_option linter.unusedVariables false
set_option maxRecDepth 100000
theorem PileLineOwn : ownKnob Tryd.prog.godebug = none := by kernel_rfl
theorem PileLineLaid : laidOutB Tryd.prog = true := by kernel_rfl
theorem PileLineRels : Rels Go.Proofs.Tryd.prog Go.Proofs.Tryd.f3.params.toList [(.cons (.int .i64) (.sl (.cons (.int .i64) (.int .i64)))), (.sl (.int .i64)), (.int .i64)] := by
  rw [Go.Proofs.Tryd.params3]
  exact ⟨⟨_, Go.Proofs.Tryd.underlying24, by kernel_rfl, _, _, rfl, rfl, by kernel_rfl, Go.Proofs.Tryd.underlying3, .inl ⟨_, rfl, rfl, by kernel_rfl, ⟨81, Go.Proofs.Tryd.underlying22, by kernel_rfl, by decide, ⟨_, Go.Proofs.Tryd.underlying81, by kernel_rfl, _, _, rfl, rfl, by kernel_rfl, Go.Proofs.Tryd.underlying3, .inl ⟨_, rfl, rfl, by kernel_rfl, Go.Proofs.Tryd.underlying3⟩⟩⟩⟩⟩, ⟨3, Go.Proofs.Tryd.underlying25, by kernel_rfl, by decide, Go.Proofs.Tryd.underlying3⟩, Go.Proofs.Tryd.underlying3, trivial⟩
theorem PileLineRead : ∀ t ∈ Go.Proofs.Tryd.f3.params.toList, Go.Proofs.Tryd.prog.readableRec t = true ∧ t < Go.Proofs.Tryd.prog.types.size := by
  rw [Go.Proofs.Tryd.params3]
  intro t ht
  simp only [List.mem_cons, List.not_mem_nil, or_false] at ht
  rcases ht with rfl | rfl | rfl <;> exact ⟨by kernel_rfl, of_decide_eq_true (by kernel_rfl)⟩
theorem PileLineArgs (zs : List Arg) (h : zs.map Arg.t = [(.cons (.int .i64) (.sl (.cons (.int .i64) (.int .i64)))), (.sl (.int .i64)), (.int .i64)]) (hr : ∀ z ∈ zs, Rng z.t z.x) : ∃ (a : (prodTy (D.Γ.insL 93)).den) (r : (prodTy (D.Γ.outsL 93)).den), unProd (D.Γ.insL 93) a = zs.map Arg.d ∧ unProd (D.Γ.outsL 93) r = [⟨.bool, true⟩] ∧ den D.Γ D.X 93 a = some r := by
  match zs, h, hr with
  | [⟨t0, x0, g0⟩, ⟨t1, x1, g1⟩, ⟨t2, x2, g2⟩], h, hr =>
    simp only [List.map_cons, List.map_nil, List.cons.injEq, and_true] at h
    obtain ⟨rfl, rfl, rfl⟩ := h
    have h0 := hr ⟨_, x0, g0⟩ (by simp)
    have h1 := hr ⟨_, x1, g1⟩ (by simp)
    have h2 := hr ⟨_, x2, g2⟩ (by simp)
    exact ⟨(x0, x1, x2), true, rfl, rfl, D.law_PileLine (Nat.le_trans h0.2.1 (by decide))⟩
theorem PileLineLifted (os : Os) (started : os.Started) (H : Type) (enc : TypeId × Value → H) :
    ReturnsInHanded {} Tryd.checked os 3 .any (fun w args => (Rows.fnExactPileLineSpec.pre enc Tryd.prog Tryd.f3 [] false w args ∧ laidMetH Tryd.prog Rows.fnExactPileLineRow.laid w) ∧ sizedMet enc Tryd.prog Tryd.f3 (OpenSpec.ofChange Rows.fnExactPileLineSpec) false w args) (Rows.fnExactPileLineSpec.post enc Tryd.prog Tryd.f3 false true false false) := by
  refine returnsInHanded_of_change_and (C := Tryd.checked) (X := fun w _ => laidMetH Tryd.prog Rows.fnExactPileLineRow.laid w) (fun _ _ _ hh h => h.of_heap hh) PileLineOwn started (by kernel_rfl) Tryd.func3
    (ChangeSpec.witness_at (enc := enc) (C := Tryd.checked) (os := os) (X := fun w _ => laidMetH Tryd.prog Rows.fnExactPileLineRow.laid w) false (laidWorld os) #[.agg #[.int .i64 0, .slice none 0 0], .slice none 0 0, .int .i64 0] 8 rfl (by kernel_rfl) (by kernel_rfl) (by kernel_rfl) (by kernel_rfl) (by kernel_rfl) (laid_met3 os _)) ?_
  intro W base args ds gs before hval hW _ _ hL _
  refine law_contract D.good PileLineLaid (n := 93) rfl rfl (tys := [(.cons (.int .i64) (.sl (.cons (.int .i64) (.int .i64)))), (.sl (.int .i64)), (.int .i64)]) rfl PileLineRels PileLineRead (B := 4) rfl Tryd.underlying4 PileLineArgs (s := Rows.fnExactPileLineSpec) rfl (fun ds hd => ?_) false hval hW (told_of_laid3 hL)
  rw [Tryd.params3] at hd
  match ds, hd with
  | [_, _, _], _ => rfl
theorem PileLineRow : Rows.FnExactPileLineSaid :=
  OpenClaim.holds_of_wide 3 Tryd.f3 rfl rfl rfl rfl rfl rfl rfl ⟨rfl, rfl, rfl, rfl, rfl⟩ rfl rfl rfl rfl rfl (by kernel_rfl) Tryd.func3 (by kernel_rfl)
    (of_decide_eq_true (by kernel_rfl)) (by unfold Func.isWrapper; first | (rw [if_pos (by decide +kernel)]; kernel_rfl) | (rw [if_neg (by decide +kernel)]; exact ⟨rfl, rfl⟩))
    (fun os started H enc _ => PileLineLifted os started H enc)
theorem PileLineHolds : Rows.FnExactPileLineCardSaid :=
  Claim7.holds_tied_plain_at .later [] [.data, .data, .data] true (true, "ccbad537f098a3f8aaff0b57d3299adcee0c9acc72cca3bb94a289647082773a") false
    PileLineRow (fun _ h => by cases h) (by kernel_rfl) (fun _ h => by cases h) fnExactPileLine_row_tie rfl ⟨rfl, rfl⟩ (by kernel_rfl) rfl
    (fun f fn hf hfn => by
      obtain rfl : f = 3 := Option.some.inj ((show Tryd.prog.funcNamed Rows.fnExactPileLineRow.func = some 3 by kernel_rfl).symm.trans hf) |>.symm
      obtain rfl : fn = Tryd.f3 := (Option.some.inj (Tryd.func3.symm.trans hfn)).symm
      exact ⟨by kernel_rfl, fun j t ht => by
        rw [Tryd.params3] at ht
        have hm := Array.mem_of_getElem? ht
        simp only [List.mem_toArray, List.mem_cons, List.not_mem_nil, or_false] at hm
        rcases hm with rfl | rfl | rfl <;> exact (show Tryd.prog.wantsStandIn _ = false by kernel_rfl)⟩)
    (by kernel_rfl)
end Go.Proofs.YthmddgkpebneoaaDoor

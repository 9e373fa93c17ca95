/-
  FnExactListLines: the law answers yes to all its arguments, and leaves them as they were: proved for every input.
-/
import Derived.Test.YtaapeofhcopajaaDoorCards
import Derived.Test.YtaapeofhcopajaaDoorTie
import Derived.SevenTiedAt
import Derived.Handed
import Derived.LaidHandle
import Derived.Test.YtaapeofhcopajaaDoorRows
import Derived.Test.YtaapeofhcopajaaDoorFacts
import Derived.Test.YtaapeofhcopajaaDoorPureSL
import Derived.ProofKit
import Derived.SizedLaws
namespace Go.Proofs.YtaapeofhcopajaaDoor
open Go Go.ChangeShapes Go.WideShapes Go.ChangeAt Go.RowKit Go.Den
set_option linter.unusedVariables false
set_option maxRecDepth 100000
theorem ListLinesOwn : ownKnob Tryd.prog.godebug = none := by kernel_rfl
theorem ListLinesLaid : laidOutB Tryd.prog = true := by kernel_rfl
theorem ListLinesRels : Rels Go.Proofs.Tryd.prog Go.Proofs.Tryd.f6.params.toList [(.sl (.sl (.int .i64)))] := by
  rw [Go.Proofs.Tryd.params6]
  exact ⟨⟨22, Go.Proofs.Tryd.underlying35, by kernel_rfl, by decide, ⟨3, Go.Proofs.Tryd.underlying22, by kernel_rfl, by decide, Go.Proofs.Tryd.underlying3⟩⟩, trivial⟩
theorem ListLinesRead : ∀ t ∈ Go.Proofs.Tryd.f6.params.toList, Go.Proofs.Tryd.prog.readableRec t = true ∧ t < Go.Proofs.Tryd.prog.types.size := by
  rw [Go.Proofs.Tryd.params6]
  intro t ht
  simp only [List.mem_cons, List.not_mem_nil, or_false] at ht
  rcases ht with rfl <;> exact ⟨by kernel_rfl, of_decide_eq_true (by kernel_rfl)⟩
theorem ListLinesArgs (zs : List Arg) (h : zs.map Arg.t = [(.sl (.sl (.int .i64)))]) (hr : ∀ z ∈ zs, Rng z.t z.x) : ∃ (a : (prodTy (D.Γ.insL 34)).den) (r : (prodTy (D.Γ.outsL 34)).den), unProd (D.Γ.insL 34) a = zs.map Arg.d ∧ unProd (D.Γ.outsL 34) r = [⟨.bool, true⟩] ∧ den D.Γ D.X 34 a = some r := by
  match zs, h, hr with
  | [⟨t0, x0, g0⟩], h, hr =>
    simp only [List.map_cons, List.map_nil, List.cons.injEq, and_true] at h
    obtain rfl := h
    have h0 := hr ⟨_, x0, g0⟩ (by simp)
    exact ⟨x0, true, rfl, rfl, D.law_ListLines (Nat.le_trans h0.1 (by decide)) (h0.2)⟩
theorem ListLinesLifted (os : Os) (started : os.Started) (H : Type) (enc : TypeId × Value → H) :
    ReturnsInHanded {} Tryd.checked os 6 .any (fun w args => (Rows.fnExactListLinesSpec.pre enc Tryd.prog Tryd.f6 [] false w args ∧ laidMetH Tryd.prog Rows.fnExactListLinesRow.laid w) ∧ sizedMet enc Tryd.prog Tryd.f6 (OpenSpec.ofChange Rows.fnExactListLinesSpec) false w args) (Rows.fnExactListLinesSpec.post enc Tryd.prog Tryd.f6 false true false false) := by
  refine returnsInHanded_of_change_and (C := Tryd.checked) (X := fun w _ => laidMetH Tryd.prog Rows.fnExactListLinesRow.laid w) (fun _ _ _ hh h => h.of_heap hh) ListLinesOwn started (by kernel_rfl) Tryd.func6
    (ChangeSpec.witness_at (enc := enc) (C := Tryd.checked) (os := os) (X := fun w _ => laidMetH Tryd.prog Rows.fnExactListLinesRow.laid w) false (laidWorld os) #[.slice none 0 0] 8 rfl (by kernel_rfl) (by kernel_rfl) (by kernel_rfl) (by kernel_rfl) (by kernel_rfl) (laid_met3 os _)) ?_
  intro W base args ds gs before hval hW _ _ hL _
  refine law_contract D.good ListLinesLaid (n := 34) rfl rfl (tys := [(.sl (.sl (.int .i64)))]) rfl ListLinesRels ListLinesRead (B := 4) rfl Tryd.underlying4 ListLinesArgs (s := Rows.fnExactListLinesSpec) rfl (fun ds hd => ?_) false hval hW (told_of_laid3 hL)
  rw [Tryd.params6] at hd
  match ds, hd with
  | [_], _ => rfl
theorem ListLinesRow : Rows.FnExactListLinesSaid :=
  OpenClaim.holds_of_wide 6 Tryd.f6 rfl rfl rfl rfl rfl rfl rfl ⟨rfl, rfl, rfl, rfl, rfl⟩ rfl rfl rfl rfl rfl (by kernel_rfl) Tryd.func6 (by kernel_rfl)
    (of_decide_eq_true (by kernel_rfl)) (by unfold Func.isWrapper; first | (rw [if_pos (by decide +kernel)]; kernel_rfl) | (rw [if_neg (by decide +kernel)]; exact ⟨rfl, rfl⟩))
    (fun os started H enc _ => ListLinesLifted os started H enc)
theorem ListLinesHolds : Rows.FnExactListLinesCardSaid :=
  Claim7.holds_tied_plain_at .later [] [.data, .data, .data] true (true, "3a8dfcc70ff91cbd1bb8e94ae599033bd01e3cb7379a5ac5bafdc3b9f31778e0") true
    ListLinesRow (fun _ h => by cases h) (by kernel_rfl) (fun _ h => by cases h) fnExactListLines_row_tie rfl ⟨rfl, rfl⟩ (by kernel_rfl) rfl
    (fun f fn hf hfn => by
      obtain rfl : f = 6 := Option.some.inj ((show Tryd.prog.funcNamed Rows.fnExactListLinesRow.func = some 6 by kernel_rfl).symm.trans hf) |>.symm
      obtain rfl : fn = Tryd.f6 := (Option.some.inj (Tryd.func6.symm.trans hfn)).symm
      exact ⟨by kernel_rfl, fun j t ht => by
        rw [Tryd.params6] at ht
        have hm := Array.mem_of_getElem? ht
        simp only [List.mem_toArray, List.mem_cons, List.not_mem_nil, or_false] at hm
        rcases hm with rfl <;> exact (show Tryd.prog.wantsStandIn _ = false by kernel_rfl)⟩)
    (by kernel_rfl)
end Go.Proofs.YtaapeofhcopajaaDoor

/-
  FnExactIsWeierstrass: the law answers yes to all its arguments, and leaves them as they were: proved for every input.
-/
import Derived.Test.YtfpccehboifkbaaGreatDoorCards
import Derived.Test.YtfpccehboifkbaaGreatDoorTie
import Derived.SevenTiedAt
import Derived.Handed
import Derived.Deep.DeepHandedRow
import Derived.LaidHandle
import Derived.Test.YtfpccehboifkbaaGreatDoorRows
import Derived.Test.YtfpccehboifkbaaGreatDoorFacts
import Derived.Test.YtfpccehboifkbaaGreatDoorPureZa
import Derived.ProofKit
import Derived.SizedLaws
namespace Go.Proofs.YtfpccehboifkbaaGreatDoor
open Go Go.ChangeShapes Go.WideShapes Go.ChangeAt Go.RowKit Go.Den
set_option linter.unusedVariables false
set_option maxRecDepth 100000
theorem IsWeierstrassOwn : ownKnob Tryz.prog.godebug = none := by kernel_rfl
theorem IsWeierstrassLaid : laidOutB Tryz.prog = true := by kernel_rfl
theorem IsWeierstrassRels : Rels Go.Proofs.Tryz.prog Go.Proofs.Tryz.f4.params.toList [(.cons (.int .i64) (.sl (.cons (.int .i64) (.int .i64)))), (.int .i64)] := by
  rw [Go.Proofs.Tryz.params4]
  exact ⟨⟨_, Go.Proofs.Tryz.underlying24, by kernel_rfl, _, _, rfl, rfl, by kernel_rfl, Go.Proofs.Tryz.underlying3, .inl ⟨_, rfl, rfl, by kernel_rfl, ⟨110, Go.Proofs.Tryz.underlying22, by kernel_rfl, by decide, ⟨_, Go.Proofs.Tryz.underlying110, by kernel_rfl, _, _, rfl, rfl, by kernel_rfl, Go.Proofs.Tryz.underlying3, .inl ⟨_, rfl, rfl, by kernel_rfl, Go.Proofs.Tryz.underlying3⟩⟩⟩⟩⟩, Go.Proofs.Tryz.underlying3, trivial⟩
theorem IsWeierstrassRead : ∀ t ∈ Go.Proofs.Tryz.f4.params.toList, Go.Proofs.Tryz.prog.readableRec t = true ∧ t < Go.Proofs.Tryz.prog.types.size := by
  rw [Go.Proofs.Tryz.params4]
  intro t ht
  simp only [List.mem_cons, List.not_mem_nil, or_false] at ht
  rcases ht with rfl | rfl <;> exact ⟨by kernel_rfl, of_decide_eq_true (by kernel_rfl)⟩
theorem IsWeierstrassArgs (zs : List Arg) (h : zs.map Arg.t = [(.cons (.int .i64) (.sl (.cons (.int .i64) (.int .i64)))), (.int .i64)]) (hr : ∀ z ∈ zs, Rng z.t z.x) : ∃ (a : (prodTy (D.Γ.insL 71)).den) (r : (prodTy (D.Γ.outsL 71)).den), unProd (D.Γ.insL 71) a = zs.map Arg.d ∧ unProd (D.Γ.outsL 71) r = [⟨.bool, true⟩] ∧ den D.Γ D.X 71 a = some r := by
  match zs, h, hr with
  | [⟨t0, x0, g0⟩, ⟨t1, x1, g1⟩], h, hr =>
    simp only [List.map_cons, List.map_nil, List.cons.injEq, and_true] at h
    obtain ⟨rfl, rfl⟩ := h
    have h0 := hr ⟨_, x0, g0⟩ (by simp)
    have h1 := hr ⟨_, x1, g1⟩ (by simp)
    exact ⟨(x0, x1), true, rfl, rfl, D.law_IsWeierstrass (Nat.le_trans h0.2.1 (by decide))⟩
theorem IsWeierstrassLifted (os : Os) (started : os.Started) (H : Type) (enc : TypeId × Value → H) :
    ReturnsInHanded {} Tryz.checked os 4 .any (fun w args => (Rows.fnExactIsWeierstrassSpec.pre enc Tryz.prog Tryz.f4 [] false w args ∧ laidMetH Tryz.prog Rows.fnExactIsWeierstrassRow.laid w) ∧ sizedMet enc Tryz.prog Tryz.f4 (OpenSpec.ofChange Rows.fnExactIsWeierstrassSpec) false w args) (Rows.fnExactIsWeierstrassSpec.post enc Tryz.prog Tryz.f4 false true false false) := by
  refine returnsInHanded_of_change_and (C := Tryz.checked) (X := fun w _ => laidMetH Tryz.prog Rows.fnExactIsWeierstrassRow.laid w) (fun _ _ _ hh h => h.of_heap hh) IsWeierstrassOwn started (by kernel_rfl) Tryz.func4
    (ChangeSpec.witness_at (enc := enc) (C := Tryz.checked) (os := os) (X := fun w _ => laidMetH Tryz.prog Rows.fnExactIsWeierstrassRow.laid w) false (laidWorld os) #[.agg #[.int .i64 0, .slice none 0 0], .int .i64 0] 8 rfl (by kernel_rfl) (by kernel_rfl) (by kernel_rfl) (by kernel_rfl) (by kernel_rfl) (laid_met3 os _)) ?_
  intro W base args ds gs before hval hW _ _ hL _
  refine law_contract D.good IsWeierstrassLaid (n := 71) rfl rfl (tys := [(.cons (.int .i64) (.sl (.cons (.int .i64) (.int .i64)))), (.int .i64)]) rfl IsWeierstrassRels IsWeierstrassRead (B := 4) rfl Tryz.underlying4 IsWeierstrassArgs (s := Rows.fnExactIsWeierstrassSpec) rfl (fun ds hd => ?_) false hval hW (told_of_laid3 hL)
  rw [Tryz.params4] at hd
  match ds, hd with
  | [_, _], _ => rfl
theorem IsWeierstrassRow : Rows.FnExactIsWeierstrassSaid :=
  OpenClaim.holds_of_wide 4 Tryz.f4 rfl rfl rfl rfl rfl rfl rfl ⟨rfl, rfl, rfl, rfl, rfl⟩ rfl rfl rfl rfl rfl (by kernel_rfl) Tryz.func4 (by kernel_rfl)
    (of_decide_eq_true (by kernel_rfl)) (by unfold Func.isWrapper; first | (rw [if_pos (by decide +kernel)]; kernel_rfl) | (rw [if_neg (by decide +kernel)]; exact ⟨rfl, rfl⟩))
    (fun os started H enc _ => IsWeierstrassLifted os started H enc)
theorem IsWeierstrassHolds : Rows.FnExactIsWeierstrassCardSaid :=
  Claim7.holds_tied_plain_at .later [] [.data, .data, .data] true (true, "7d583681dadf18eff292ce4a8bd3029ecb51645a4fae16cfe30e914612dcfbd4") true
    IsWeierstrassRow (fun _ h => by cases h) (by kernel_rfl) (fun _ h => by cases h) fnExactIsWeierstrass_row_tie rfl ⟨rfl, rfl⟩ (by kernel_rfl) rfl
    (fun f fn hf hfn => by
      obtain rfl : f = 4 := Option.some.inj ((show Tryz.prog.funcNamed Rows.fnExactIsWeierstrassRow.func = some 4 by kernel_rfl).symm.trans hf) |>.symm
      obtain rfl : fn = Tryz.f4 := (Option.some.inj (Tryz.func4.symm.trans hfn)).symm
      exact ⟨by kernel_rfl, fun j t ht => by
        rw [Tryz.params4] at ht
        have hm := Array.mem_of_getElem? ht
        simp only [List.mem_toArray, List.mem_cons, List.not_mem_nil, or_false] at hm
        rcases hm with rfl | rfl <;> exact (show Tryz.prog.wantsStandIn _ = false by kernel_rfl)⟩)
    (by kernel_rfl)
end Go.Proofs.YtfpccehboifkbaaGreatDoor

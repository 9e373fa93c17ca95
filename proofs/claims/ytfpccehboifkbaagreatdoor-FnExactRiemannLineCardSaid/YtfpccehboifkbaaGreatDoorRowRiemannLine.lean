/-
  FnExactRiemannLine: the law answers yes to all its arguments, and leaves them as they were: proved for every input.
-/
import Derived.Test.YtfpccehboifkbaaGreatDoorCards
import Derived.Test.YtfpccehboifkbaaGreatDoorTie
import Derived.SevenTiedAt
import Derived.Handed
import Derived.Deep.DeepHandedRow
import Derived.LaidHandle
import Derived.Test.YtfpccehboifkbaaGreatDoorRows
import Derived.Test.YtfpccehboifkbaaGreatDoorFacts
import Derived.Test.YtfpccehboifkbaaGreatDoorPureZa
import Derived.ProofKit
import Derived.SizedLaws
namespace Go.Proofs.YtfpccehboifkbaaGreatDoor
open Go Go.ChangeShapes Go.WideShapes Go.ChangeAt Go.RowKit Go.Den
set_option linter.unusedVariables false
set_option maxRecDepth 100000
theorem RiemannLineOwn : ownKnob Tryz.prog.godebug = none := by kernel_rfl
theorem RiemannLineLaid : laidOutB Tryz.prog = true := by kernel_rfl
theorem RiemannLineRels : Rels Go.Proofs.Tryz.prog Go.Proofs.Tryz.f6.params.toList [(.cons (.int .i64) (.sl (.cons (.int .i64) (.int .i64)))), (.sl (.int .i64))] := by
  rw [Go.Proofs.Tryz.params6]
  exact ⟨⟨_, Go.Proofs.Tryz.underlying24, by kernel_rfl, _, _, rfl, rfl, by kernel_rfl, Go.Proofs.Tryz.underlying3, .inl ⟨_, rfl, rfl, by kernel_rfl, ⟨110, Go.Proofs.Tryz.underlying22, by kernel_rfl, by decide, ⟨_, Go.Proofs.Tryz.underlying110, by kernel_rfl, _, _, rfl, rfl, by kernel_rfl, Go.Proofs.Tryz.underlying3, .inl ⟨_, rfl, rfl, by kernel_rfl, Go.Proofs.Tryz.underlying3⟩⟩⟩⟩⟩, ⟨3, Go.Proofs.Tryz.underlying26, by kernel_rfl, by decide, Go.Proofs.Tryz.underlying3⟩, trivial⟩
theorem RiemannLineRead : ∀ t ∈ Go.Proofs.Tryz.f6.params.toList, Go.Proofs.Tryz.prog.readableRec t = true ∧ t < Go.Proofs.Tryz.prog.types.size := by
  rw [Go.Proofs.Tryz.params6]
  intro t ht
  simp only [List.mem_cons, List.not_mem_nil, or_false] at ht
  rcases ht with rfl | rfl <;> exact ⟨by kernel_rfl, of_decide_eq_true (by kernel_rfl)⟩
theorem RiemannLineArgs (zs : List Arg) (h : zs.map Arg.t = [(.cons (.int .i64) (.sl (.cons (.int .i64) (.int .i64)))), (.sl (.int .i64))]) (hr : ∀ z ∈ zs, Rng z.t z.x) : ∃ (a : (prodTy (D.Γ.insL 100)).den) (r : (prodTy (D.Γ.outsL 100)).den), unProd (D.Γ.insL 100) a = zs.map Arg.d ∧ unProd (D.Γ.outsL 100) r = [⟨.bool, true⟩] ∧ den D.Γ D.X 100 a = some r := by
  match zs, h, hr with
  | [⟨t0, x0, g0⟩, ⟨t1, x1, g1⟩], h, hr =>
    simp only [List.map_cons, List.map_nil, List.cons.injEq, and_true] at h
    obtain ⟨rfl, rfl⟩ := h
    have h0 := hr ⟨_, x0, g0⟩ (by simp)
    have h1 := hr ⟨_, x1, g1⟩ (by simp)
    exact ⟨(x0, x1), true, rfl, rfl, D.law_RiemannLine (Nat.le_trans h0.2.1 (by decide))⟩
theorem RiemannLineLifted (os : Os) (started : os.Started) (H : Type) (enc : TypeId × Value → H) :
    ReturnsInHanded {} Tryz.checked os 6 .any (fun w args => (Rows.fnExactRiemannLineSpec.pre enc Tryz.prog Tryz.f6 [] false w args ∧ laidMetH Tryz.prog Rows.fnExactRiemannLineRow.laid w) ∧ sizedMet enc Tryz.prog Tryz.f6 (OpenSpec.ofChange Rows.fnExactRiemannLineSpec) false w args) (Rows.fnExactRiemannLineSpec.post enc Tryz.prog Tryz.f6 false true false false) := by
  refine returnsInHanded_of_change_and (C := Tryz.checked) (X := fun w _ => laidMetH Tryz.prog Rows.fnExactRiemannLineRow.laid w) (fun _ _ _ hh h => h.of_heap hh) RiemannLineOwn started (by kernel_rfl) Tryz.func6
    (ChangeSpec.witness_at (enc := enc) (C := Tryz.checked) (os := os) (X := fun w _ => laidMetH Tryz.prog Rows.fnExactRiemannLineRow.laid w) false (laidWorld os) #[.agg #[.int .i64 0, .slice none 0 0], .slice none 0 0] 8 rfl (by kernel_rfl) (by kernel_rfl) (by kernel_rfl) (by kernel_rfl) (by kernel_rfl) (laid_met3 os _)) ?_
  intro W base args ds gs before hval hW _ _ hL _
  refine law_contract D.good RiemannLineLaid (n := 100) rfl rfl (tys := [(.cons (.int .i64) (.sl (.cons (.int .i64) (.int .i64)))), (.sl (.int .i64))]) rfl RiemannLineRels RiemannLineRead (B := 4) rfl Tryz.underlying4 RiemannLineArgs (s := Rows.fnExactRiemannLineSpec) rfl (fun ds hd => ?_) false hval hW (told_of_laid3 hL)
  rw [Tryz.params6] at hd
  match ds, hd with
  | [_, _], _ => rfl
theorem RiemannLineRow : Rows.FnExactRiemannLineSaid :=
  OpenClaim.holds_of_wide 6 Tryz.f6 rfl rfl rfl rfl rfl rfl rfl ⟨rfl, rfl, rfl, rfl, rfl⟩ rfl rfl rfl rfl rfl (by kernel_rfl) Tryz.func6 (by kernel_rfl)
    (of_decide_eq_true (by kernel_rfl)) (by unfold Func.isWrapper; first | (rw [if_pos (by decide +kernel)]; kernel_rfl) | (rw [if_neg (by decide +kernel)]; exact ⟨rfl, rfl⟩))
    (fun os started H enc _ => RiemannLineLifted os started H enc)
theorem RiemannLineHolds : Rows.FnExactRiemannLineCardSaid :=
  Claim7.holds_tied_plain_at .later [] [.data, .data, .data] true (true, "7d583681dadf18eff292ce4a8bd3029ecb51645a4fae16cfe30e914612dcfbd4") true
    RiemannLineRow (fun _ h => by cases h) (by kernel_rfl) (fun _ h => by cases h) fnExactRiemannLine_row_tie rfl ⟨rfl, rfl⟩ (by kernel_rfl) rfl
    (fun f fn hf hfn => by
      obtain rfl : f = 6 := Option.some.inj ((show Tryz.prog.funcNamed Rows.fnExactRiemannLineRow.func = some 6 by kernel_rfl).symm.trans hf) |>.symm
      obtain rfl : fn = Tryz.f6 := (Option.some.inj (Tryz.func6.symm.trans hfn)).symm
      exact ⟨by kernel_rfl, fun j t ht => by
        rw [Tryz.params6] at ht
        have hm := Array.mem_of_getElem? ht
        simp only [List.mem_toArray, List.mem_cons, List.not_mem_nil, or_false] at hm
        rcases hm with rfl | rfl <;> exact (show Tryz.prog.wantsStandIn _ = false by kernel_rfl)⟩)
    (by kernel_rfl)
end Go.Proofs.YtfpccehboifkbaaGreatDoor

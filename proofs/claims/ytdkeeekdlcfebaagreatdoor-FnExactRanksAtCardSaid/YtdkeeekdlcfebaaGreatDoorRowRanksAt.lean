/-
  FnExactRanksAt: the law answers yes to all its arguments, and leaves them as they were: proved for every input.
-/
import Derived.Test.YtdkeeekdlcfebaaGreatDoorCards
import Derived.Test.YtdkeeekdlcfebaaGreatDoorTie
import Derived.SevenTiedAt
import Derived.Handed
import Derived.Deep.DeepHandedRow
import Derived.LaidHandle
import Derived.Test.YtdkeeekdlcfebaaGreatDoorRows
import Derived.Test.YtdkeeekdlcfebaaGreatDoorFacts
import Derived.Test.YtdkeeekdlcfebaaGreatDoorPureY
import Derived.ProofKit
import Derived.SizedLaws
namespace Go.Proofs.YtdkeeekdlcfebaaGreatDoor
open Go Go.ChangeShapes Go.WideShapes Go.ChangeAt Go.RowKit Go.Den
set_option linter.unusedVariables false
set_option maxRecDepth 100000
theorem RanksAtOwn : ownKnob Tryz.prog.godebug = none := by kernel_rfl
theorem RanksAtLaid : laidOutB Tryz.prog = true := by kernel_rfl
theorem RanksAtRels : Rels Go.Proofs.Tryz.prog Go.Proofs.Tryz.f14.params.toList [(.cons (.int .i64) (.sl (.cons (.int .i64) (.int .i64)))), (.int .i64)] := by
  rw [Go.Proofs.Tryz.params14]
  exact ⟨⟨_, Go.Proofs.Tryz.underlying24, by kernel_rfl, _, _, rfl, rfl, by kernel_rfl, Go.Proofs.Tryz.underlying3, .inl ⟨_, rfl, rfl, by kernel_rfl, ⟨78, Go.Proofs.Tryz.underlying22, by kernel_rfl, by decide, ⟨_, Go.Proofs.Tryz.underlying78, by kernel_rfl, _, _, rfl, rfl, by kernel_rfl, Go.Proofs.Tryz.underlying3, .inl ⟨_, rfl, rfl, by kernel_rfl, Go.Proofs.Tryz.underlying3⟩⟩⟩⟩⟩, Go.Proofs.Tryz.underlying3, trivial⟩
theorem RanksAtRead : ∀ t ∈ Go.Proofs.Tryz.f14.params.toList, Go.Proofs.Tryz.prog.readableRec t = true ∧ t < Go.Proofs.Tryz.prog.types.size := by
  rw [Go.Proofs.Tryz.params14]
  intro t ht
  simp only [List.mem_cons, List.not_mem_nil, or_false] at ht
  rcases ht with rfl | rfl <;> exact ⟨by kernel_rfl, of_decide_eq_true (by kernel_rfl)⟩
theorem RanksAtArgs (zs : List Arg) (h : zs.map Arg.t = [(.cons (.int .i64) (.sl (.cons (.int .i64) (.int .i64)))), (.int .i64)]) (hr : ∀ z ∈ zs, Rng z.t z.x) : ∃ (a : (prodTy (D.Γ.insL 112)).den) (r : (prodTy (D.Γ.outsL 112)).den), unProd (D.Γ.insL 112) a = zs.map Arg.d ∧ unProd (D.Γ.outsL 112) r = [⟨.bool, true⟩] ∧ den D.Γ D.X 112 a = some r := by
  match zs, h, hr with
  | [⟨t0, x0, g0⟩, ⟨t1, x1, g1⟩], h, hr =>
    simp only [List.map_cons, List.map_nil, List.cons.injEq, and_true] at h
    obtain ⟨rfl, rfl⟩ := h
    have h0 := hr ⟨_, x0, g0⟩ (by simp)
    have h1 := hr ⟨_, x1, g1⟩ (by simp)
    exact ⟨(x0, x1), true, rfl, rfl, D.law_RanksAt (Nat.le_trans h0.2.1 (by decide))⟩
theorem RanksAtLifted (os : Os) (started : os.Started) (H : Type) (enc : TypeId × Value → H) :
    ReturnsInHanded {} Tryz.checked os 14 .any (fun w args => (Rows.fnExactRanksAtSpec.pre enc Tryz.prog Tryz.f14 [] false w args ∧ laidMetH Tryz.prog Rows.fnExactRanksAtRow.laid w) ∧ sizedMet enc Tryz.prog Tryz.f14 (OpenSpec.ofChange Rows.fnExactRanksAtSpec) false w args) (Rows.fnExactRanksAtSpec.post enc Tryz.prog Tryz.f14 false true false false) := by
  refine returnsInHanded_of_change_and (C := Tryz.checked) (X := fun w _ => laidMetH Tryz.prog Rows.fnExactRanksAtRow.laid w) (fun _ _ _ hh h => h.of_heap hh) RanksAtOwn started (by kernel_rfl) Tryz.func14
    (ChangeSpec.witness_at (enc := enc) (C := Tryz.checked) (os := os) (X := fun w _ => laidMetH Tryz.prog Rows.fnExactRanksAtRow.laid w) false (laidWorld os) #[.agg #[.int .i64 0, .slice none 0 0], .int .i64 0] 8 rfl (by kernel_rfl) (by kernel_rfl) (by kernel_rfl) (by kernel_rfl) (by kernel_rfl) (laid_met3 os _)) ?_
  intro W base args ds gs before hval hW _ _ hL _
  refine law_contract D.good RanksAtLaid (n := 112) rfl rfl (tys := [(.cons (.int .i64) (.sl (.cons (.int .i64) (.int .i64)))), (.int .i64)]) rfl RanksAtRels RanksAtRead (B := 4) rfl Tryz.underlying4 RanksAtArgs (s := Rows.fnExactRanksAtSpec) rfl (fun ds hd => ?_) false hval hW (told_of_laid3 hL)
  rw [Tryz.params14] at hd
  match ds, hd with
  | [_, _], _ => rfl
theorem RanksAtRow : Rows.FnExactRanksAtSaid :=
  OpenClaim.holds_of_wide 14 Tryz.f14 rfl rfl rfl rfl rfl rfl rfl ⟨rfl, rfl, rfl, rfl, rfl⟩ rfl rfl rfl rfl rfl (by kernel_rfl) Tryz.func14 (by kernel_rfl)
    (of_decide_eq_true (by kernel_rfl)) (by unfold Func.isWrapper; first | (rw [if_pos (by decide +kernel)]; kernel_rfl) | (rw [if_neg (by decide +kernel)]; exact ⟨rfl, rfl⟩))
    (fun os started H enc _ => RanksAtLifted os started H enc)
theorem RanksAtHolds : Rows.FnExactRanksAtCardSaid :=
  Claim7.holds_tied_plain_at .later [] [.data, .data, .data] true (true, "51e0327ba513bd1210aef471290f1b9e62c52df3c1e37dafde4b62823872dc42") false
    RanksAtRow (fun _ h => by cases h) (by kernel_rfl) (fun _ h => by cases h) fnExactRanksAt_row_tie rfl ⟨rfl, rfl⟩ (by kernel_rfl) rfl
    (fun f fn hf hfn => by
      obtain rfl : f = 14 := Option.some.inj ((show Tryz.prog.funcNamed Rows.fnExactRanksAtRow.func = some 14 by kernel_rfl).symm.trans hf) |>.symm
      obtain rfl : fn = Tryz.f14 := (Option.some.inj (Tryz.func14.symm.trans hfn)).symm
      exact ⟨by kernel_rfl, fun j t ht => by
        rw [Tryz.params14] at ht
        have hm := Array.mem_of_getElem? ht
        simp only [List.mem_toArray, List.mem_cons, List.not_mem_nil, or_false] at hm
        rcases hm with rfl | rfl <;> exact (show Tryz.prog.wantsStandIn _ = false by kernel_rfl)⟩)
    (by kernel_rfl)
end Go.Proofs.YtdkeeekdlcfebaaGreatDoor

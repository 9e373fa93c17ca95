/-
  FnExactCliffordGap: the law answers yes to all its arguments, and leaves them as they were: proved for every input.
-/
import Derived.Test.YtdkeeekdlcfebaaGreatDoorCards
import Derived.Test.YtdkeeekdlcfebaaGreatDoorTie
import Derived.SevenTiedAt
import Derived.Handed
import Derived.Deep.DeepHandedRow
import Derived.LaidHandle
import Derived.Test.YtdkeeekdlcfebaaGreatDoorRows
import Derived.Test.YtdkeeekdlcfebaaGreatDoorFacts
import Derived.Test.YtdkeeekdlcfebaaGreatDoorPureY
import Derived.ProofKit
import Derived.SizedLaws
namespace Go.Proofs.YtdkeeekdlcfebaaGreatDoor
open Go Go.ChangeShapes Go.WideShapes Go.ChangeAt Go.RowKit Go.Den
set_option linter.unusedVariables false
set_option maxRecDepth 100000
theorem CliffordGapOwn : ownKnob Tryz.prog.godebug = none := by kernel_rfl
theorem CliffordGapLaid : laidOutB Tryz.prog = true := by kernel_rfl
theorem CliffordGapRels : Rels Go.Proofs.Tryz.prog Go.Proofs.Tryz.f13.params.toList [(.cons (.int .i64) (.sl (.cons (.int .i64) (.int .i64)))), (.sl (.int .i64))] := by
  rw [Go.Proofs.Tryz.params13]
  exact ⟨⟨_, Go.Proofs.Tryz.underlying24, by kernel_rfl, _, _, rfl, rfl, by kernel_rfl, Go.Proofs.Tryz.underlying3, .inl ⟨_, rfl, rfl, by kernel_rfl, ⟨78, Go.Proofs.Tryz.underlying22, by kernel_rfl, by decide, ⟨_, Go.Proofs.Tryz.underlying78, by kernel_rfl, _, _, rfl, rfl, by kernel_rfl, Go.Proofs.Tryz.underlying3, .inl ⟨_, rfl, rfl, by kernel_rfl, Go.Proofs.Tryz.underlying3⟩⟩⟩⟩⟩, ⟨3, Go.Proofs.Tryz.underlying25, by kernel_rfl, by decide, Go.Proofs.Tryz.underlying3⟩, trivial⟩
theorem CliffordGapRead : ∀ t ∈ Go.Proofs.Tryz.f13.params.toList, Go.Proofs.Tryz.prog.readableRec t = true ∧ t < Go.Proofs.Tryz.prog.types.size := by
  rw [Go.Proofs.Tryz.params13]
  intro t ht
  simp only [List.mem_cons, List.not_mem_nil, or_false] at ht
  rcases ht with rfl | rfl <;> exact ⟨by kernel_rfl, of_decide_eq_true (by kernel_rfl)⟩
theorem CliffordGapArgs (zs : List Arg) (h : zs.map Arg.t = [(.cons (.int .i64) (.sl (.cons (.int .i64) (.int .i64)))), (.sl (.int .i64))]) (hr : ∀ z ∈ zs, Rng z.t z.x) : ∃ (a : (prodTy (D.Γ.insL 108)).den) (r : (prodTy (D.Γ.outsL 108)).den), unProd (D.Γ.insL 108) a = zs.map Arg.d ∧ unProd (D.Γ.outsL 108) r = [⟨.bool, true⟩] ∧ den D.Γ D.X 108 a = some r := by
  match zs, h, hr with
  | [⟨t0, x0, g0⟩, ⟨t1, x1, g1⟩], h, hr =>
    simp only [List.map_cons, List.map_nil, List.cons.injEq, and_true] at h
    obtain ⟨rfl, rfl⟩ := h
    have h0 := hr ⟨_, x0, g0⟩ (by simp)
    have h1 := hr ⟨_, x1, g1⟩ (by simp)
    exact ⟨(x0, x1), true, rfl, rfl, D.law_CliffordGap (Nat.le_trans h0.2.1 (by decide))⟩
theorem CliffordGapLifted (os : Os) (started : os.Started) (H : Type) (enc : TypeId × Value → H) :
    ReturnsInHanded {} Tryz.checked os 13 .any (fun w args => (Rows.fnExactCliffordGapSpec.pre enc Tryz.prog Tryz.f13 [] false w args ∧ laidMetH Tryz.prog Rows.fnExactCliffordGapRow.laid w) ∧ sizedMet enc Tryz.prog Tryz.f13 (OpenSpec.ofChange Rows.fnExactCliffordGapSpec) false w args) (Rows.fnExactCliffordGapSpec.post enc Tryz.prog Tryz.f13 false true false false) := by
  refine returnsInHanded_of_change_and (C := Tryz.checked) (X := fun w _ => laidMetH Tryz.prog Rows.fnExactCliffordGapRow.laid w) (fun _ _ _ hh h => h.of_heap hh) CliffordGapOwn started (by kernel_rfl) Tryz.func13
    (ChangeSpec.witness_at (enc := enc) (C := Tryz.checked) (os := os) (X := fun w _ => laidMetH Tryz.prog Rows.fnExactCliffordGapRow.laid w) false (laidWorld os) #[.agg #[.int .i64 0, .slice none 0 0], .slice none 0 0] 8 rfl (by kernel_rfl) (by kernel_rfl) (by kernel_rfl) (by kernel_rfl) (by kernel_rfl) (laid_met3 os _)) ?_
  intro W base args ds gs before hval hW _ _ hL _
  refine law_contract D.good CliffordGapLaid (n := 108) rfl rfl (tys := [(.cons (.int .i64) (.sl (.cons (.int .i64) (.int .i64)))), (.sl (.int .i64))]) rfl CliffordGapRels CliffordGapRead (B := 4) rfl Tryz.underlying4 CliffordGapArgs (s := Rows.fnExactCliffordGapSpec) rfl (fun ds hd => ?_) false hval hW (told_of_laid3 hL)
  rw [Tryz.params13] at hd
  match ds, hd with
  | [_, _], _ => rfl
theorem CliffordGapRow : Rows.FnExactCliffordGapSaid :=
  OpenClaim.holds_of_wide 13 Tryz.f13 rfl rfl rfl rfl rfl rfl rfl ⟨rfl, rfl, rfl, rfl, rfl⟩ rfl rfl rfl rfl rfl (by kernel_rfl) Tryz.func13 (by kernel_rfl)
    (of_decide_eq_true (by kernel_rfl)) (by unfold Func.isWrapper; first | (rw [if_pos (by decide +kernel)]; kernel_rfl) | (rw [if_neg (by decide +kernel)]; exact ⟨rfl, rfl⟩))
    (fun os started H enc _ => CliffordGapLifted os started H enc)
theorem CliffordGapHolds : Rows.FnExactCliffordGapCardSaid :=
  Claim7.holds_tied_plain_at .later [] [.data, .data, .data] true (true, "51e0327ba513bd1210aef471290f1b9e62c52df3c1e37dafde4b62823872dc42") false
    CliffordGapRow (fun _ h => by cases h) (by kernel_rfl) (fun _ h => by cases h) fnExactCliffordGap_row_tie rfl ⟨rfl, rfl⟩ (by kernel_rfl) rfl
    (fun f fn hf hfn => by
      obtain rfl : f = 13 := Option.some.inj ((show Tryz.prog.funcNamed Rows.fnExactCliffordGapRow.func = some 13 by kernel_rfl).symm.trans hf) |>.symm
      obtain rfl : fn = Tryz.f13 := (Option.some.inj (Tryz.func13.symm.trans hfn)).symm
      exact ⟨by kernel_rfl, fun j t ht => by
        rw [Tryz.params13] at ht
        have hm := Array.mem_of_getElem? ht
        simp only [List.mem_toArray, List.mem_cons, List.not_mem_nil, or_false] at hm
        rcases hm with rfl | rfl <;> exact (show Tryz.prog.wantsStandIn _ = false by kernel_rfl)⟩)
    (by kernel_rfl)
end Go.Proofs.YtdkeeekdlcfebaaGreatDoor

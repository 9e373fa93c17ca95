/-
  FnTexts: the law answers yes to all its arguments, and leaves them as they were: proved for every input.
-/
import Derived.Test.YthmddgkpebneoaaGreatDoorCards
import Derived.Test.YthmddgkpebneoaaGreatDoorTie
import Derived.SevenTiedAt
import Derived.Handed
import Derived.Deep.DeepHandedRow
import Derived.LaidHandle
import Derived.Test.YthmddgkpebneoaaGreatDoorRows
import Derived.Test.YthmddgkpebneoaaGreatDoorFacts
import Derived.Test.YthmddgkpebneoaaGreatDoorPureTx
import Derived.ProofKit
import Derived.SizedLaws
namespace Go.Proofs.YthmddgkpebneoaaGreatDoor
open Go Go.ChangeShapes Go.WideShapes Go.ChangeAt Go.RowKit Go.Den
set_option linter.unusedVariables false
set_option maxRecDepth 100000
theorem TextsOwn : ownKnob Tryz.prog.godebug = none := by kernel_rfl
theorem TextsLaid : laidOutB Tryz.prog = true := by kernel_rfl
theorem TextsRels : Rels Go.Proofs.Tryz.prog Go.Proofs.Tryz.f3.params.toList [(.sl (.int .u8))] := by
  rw [Go.Proofs.Tryz.params3]
  exact ⟨⟨5, Go.Proofs.Tryz.underlying22, by kernel_rfl, by decide, Go.Proofs.Tryz.underlying5⟩, trivial⟩
theorem TextsRead : ∀ t ∈ Go.Proofs.Tryz.f3.params.toList, Go.Proofs.Tryz.prog.readableRec t = true ∧ t < Go.Proofs.Tryz.prog.types.size := by
  rw [Go.Proofs.Tryz.params3]
  intro t ht
  simp only [List.mem_cons, List.not_mem_nil, or_false] at ht
  rcases ht with rfl <;> exact ⟨by kernel_rfl, of_decide_eq_true (by kernel_rfl)⟩
theorem TextsArgs (zs : List Arg) (h : zs.map Arg.t = [(.sl (.int .u8))]) (hr : ∀ z ∈ zs, Rng z.t z.x) : ∃ (a : (prodTy (D.Γ.insL 55)).den) (r : (prodTy (D.Γ.outsL 55)).den), unProd (D.Γ.insL 55) a = zs.map Arg.d ∧ unProd (D.Γ.outsL 55) r = [⟨.bool, true⟩] ∧ den D.Γ D.X 55 a = some r := by
  match zs, h, hr with
  | [⟨t0, x0, g0⟩], h, hr =>
    simp only [List.map_cons, List.map_nil, List.cons.injEq, and_true] at h
    obtain rfl := h
    have h0 := hr ⟨_, x0, g0⟩ (by simp)
    exact ⟨x0, true, rfl, rfl, D.law_Texts⟩
theorem TextsLifted (os : Os) (started : os.Started) (H : Type) (enc : TypeId × Value → H) :
    ReturnsInHanded {} Tryz.checked os 3 .any (fun w args => (Rows.fnTextsSpec.pre enc Tryz.prog Tryz.f3 [] false w args ∧ laidMetH Tryz.prog Rows.fnTextsRow.laid w) ∧ sizedMet enc Tryz.prog Tryz.f3 (OpenSpec.ofChange Rows.fnTextsSpec) false w args) (Rows.fnTextsSpec.post enc Tryz.prog Tryz.f3 false true false false) := by
  refine returnsInHanded_of_row (C := Tryz.checked) (s := OpenSpec.ofChange Rows.fnTextsSpec) (F := fun _ _ _ => 0) (conds := []) (apart := false) (laid := Rows.fnTextsRow.laid) TextsOwn started (by kernel_rfl) Tryz.func3
    (ChangeSpec.witness_at (enc := enc) (C := Tryz.checked) (os := os) (X := fun w _ => laidMetH Tryz.prog Rows.fnTextsRow.laid w) false (laidWorld os) #[.slice none 0 0] 8 rfl (by kernel_rfl) (by kernel_rfl) (by kernel_rfl) (by kernel_rfl) (by kernel_rfl) (laid_met5 os _)) ?_
  intro W base args ds gs before hval hW _ _ _ hL hsh _
  refine law_contract D.good TextsLaid (n := 55) rfl rfl (tys := [(.sl (.int .u8))]) rfl TextsRels TextsRead (B := 4) rfl Tryz.underlying4 TextsArgs (s := Rows.fnTextsSpec) rfl (fun ds hd => ?_) false hval hW (told_of_laid5 hL hsh)
  rw [Tryz.params3] at hd
  match ds, hd with
  | [_], _ => rfl
theorem TextsRow : Rows.FnTextsSaid :=
  OpenClaim.holds_of_wide 3 Tryz.f3 rfl rfl rfl rfl rfl rfl rfl ⟨rfl, rfl, rfl, rfl, rfl⟩ rfl rfl rfl rfl rfl (by kernel_rfl) Tryz.func3 (by kernel_rfl)
    (of_decide_eq_true (by kernel_rfl)) (by unfold Func.isWrapper; first | (rw [if_pos (by decide +kernel)]; kernel_rfl) | (rw [if_neg (by decide +kernel)]; exact ⟨rfl, rfl⟩))
    (fun os started H enc _ => TextsLifted os started H enc)
theorem TextsHolds : Rows.FnTextsCardSaid :=
  Claim7.holds_tied_plain_at .later [] [.data, .data, .data, .sentinel, .sentinel] true (true, "7e6ac16472c56c8deabb18809b4c2c2c7af0df7778851ac985400c312d92da26") true
    TextsRow (fun _ h => by cases h) (by kernel_rfl) (fun _ h => by cases h) fnTexts_row_tie rfl ⟨rfl, rfl⟩ (by kernel_rfl) rfl
    (fun f fn hf hfn => by
      obtain rfl : f = 3 := Option.some.inj ((show Tryz.prog.funcNamed Rows.fnTextsRow.func = some 3 by kernel_rfl).symm.trans hf) |>.symm
      obtain rfl : fn = Tryz.f3 := (Option.some.inj (Tryz.func3.symm.trans hfn)).symm
      exact ⟨by kernel_rfl, fun j t ht => by
        rw [Tryz.params3] at ht
        have hm := Array.mem_of_getElem? ht
        simp only [List.mem_toArray, List.mem_cons, List.not_mem_nil, or_false] at hm
        rcases hm with rfl <;> exact (show Tryz.prog.wantsStandIn _ = false by kernel_rfl)⟩)
    (by kernel_rfl)
end Go.Proofs.YthmddgkpebneoaaGreatDoor

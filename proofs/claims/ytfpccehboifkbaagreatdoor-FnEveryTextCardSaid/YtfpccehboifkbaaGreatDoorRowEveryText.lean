/-
  FnEveryText: the law answers yes to all its arguments, and leaves them as they were: proved for every input.
-/
import Derived.Test.YtfpccehboifkbaaGreatDoorCards
import Derived.Test.YtfpccehboifkbaaGreatDoorTie
import Derived.SevenTiedAt
import Derived.Handed
import Derived.Deep.DeepHandedRow
import Derived.LaidHandle
import Derived.Test.YtfpccehboifkbaaGreatDoorRows
import Derived.Test.YtfpccehboifkbaaGreatDoorFacts
import Derived.Test.YtfpccehboifkbaaGreatDoorPureEt
import Derived.ProofKit
import Derived.SizedLaws
namespace Go.Proofs.YtfpccehboifkbaaGreatDoor
open Go Go.ChangeShapes Go.WideShapes Go.ChangeAt Go.RowKit Go.Den
set_option linter.unusedVariables false
set_option maxRecDepth 100000
theorem EveryTextOwn : ownKnob Tryz.prog.godebug = none := by kernel_rfl
theorem EveryTextLaid : laidOutB Tryz.prog = true := by kernel_rfl
theorem EveryTextRels : Rels Go.Proofs.Tryz.prog Go.Proofs.Tryz.f12.params.toList [.str, .str] := by
  rw [Go.Proofs.Tryz.params12]
  exact ⟨Go.Proofs.Tryz.underlying9, Go.Proofs.Tryz.underlying9, trivial⟩
theorem EveryTextRead : ∀ t ∈ Go.Proofs.Tryz.f12.params.toList, Go.Proofs.Tryz.prog.readableRec t = true ∧ t < Go.Proofs.Tryz.prog.types.size := by
  rw [Go.Proofs.Tryz.params12]
  intro t ht
  simp only [List.mem_cons, List.not_mem_nil, or_false] at ht
  rcases ht with rfl | rfl <;> exact ⟨by kernel_rfl, of_decide_eq_true (by kernel_rfl)⟩
theorem EveryTextArgs (zs : List Arg) (h : zs.map Arg.t = [.str, .str]) (hr : ∀ z ∈ zs, Rng z.t z.x) : ∃ (a : (prodTy (D.Γ.insL 86)).den) (r : (prodTy (D.Γ.outsL 86)).den), unProd (D.Γ.insL 86) a = zs.map Arg.d ∧ unProd (D.Γ.outsL 86) r = [⟨.bool, true⟩] ∧ den D.Γ D.X 86 a = some r := by
  match zs, h, hr with
  | [⟨t0, x0, g0⟩, ⟨t1, x1, g1⟩], h, hr =>
    simp only [List.map_cons, List.map_nil, List.cons.injEq, and_true] at h
    obtain ⟨rfl, rfl⟩ := h
    have h0 := hr ⟨_, x0, g0⟩ (by simp)
    have h1 := hr ⟨_, x1, g1⟩ (by simp)
    exact ⟨(x0, x1), true, rfl, rfl, D.law_EveryText⟩
theorem EveryTextLifted (os : Os) (started : os.Started) (H : Type) (enc : TypeId × Value → H) :
    ReturnsInHanded {} Tryz.checked os 12 .any (fun w args => (Rows.fnEveryTextSpec.pre enc Tryz.prog Tryz.f12 [] false w args ∧ laidMetH Tryz.prog Rows.fnEveryTextRow.laid w) ∧ sizedMet enc Tryz.prog Tryz.f12 (OpenSpec.ofChange Rows.fnEveryTextSpec) false w args) (Rows.fnEveryTextSpec.post enc Tryz.prog Tryz.f12 false true false false) := by
  refine returnsInHanded_of_row (C := Tryz.checked) (s := OpenSpec.ofChange Rows.fnEveryTextSpec) (F := fun _ _ _ => 0) (conds := []) (apart := false) (laid := Rows.fnEveryTextRow.laid) EveryTextOwn started (by kernel_rfl) Tryz.func12
    (ChangeSpec.witness_at (enc := enc) (C := Tryz.checked) (os := os) (X := fun w _ => laidMetH Tryz.prog Rows.fnEveryTextRow.laid w) false (laidWorld os) #[.string ByteArray.empty, .string ByteArray.empty] 8 rfl (by kernel_rfl) (by kernel_rfl) (by kernel_rfl) (by kernel_rfl) (by kernel_rfl) (laid_met5 os _)) ?_
  intro W base args ds gs before hval hW _ _ _ hL hsh _
  refine law_contract D.good EveryTextLaid (n := 86) rfl rfl (tys := [.str, .str]) rfl EveryTextRels EveryTextRead (B := 4) rfl Tryz.underlying4 EveryTextArgs (s := Rows.fnEveryTextSpec) rfl (fun ds hd => ?_) false hval hW (told_of_laid5 hL hsh)
  rw [Tryz.params12] at hd
  match ds, hd with
  | [_, _], _ => rfl
theorem EveryTextRow : Rows.FnEveryTextSaid :=
  OpenClaim.holds_of_wide 12 Tryz.f12 rfl rfl rfl rfl rfl rfl rfl ⟨rfl, rfl, rfl, rfl, rfl⟩ rfl rfl rfl rfl rfl (by kernel_rfl) Tryz.func12 (by kernel_rfl)
    (of_decide_eq_true (by kernel_rfl)) (by unfold Func.isWrapper; first | (rw [if_pos (by decide +kernel)]; kernel_rfl) | (rw [if_neg (by decide +kernel)]; exact ⟨rfl, rfl⟩))
    (fun os started H enc _ => EveryTextLifted os started H enc)
theorem EveryTextHolds : Rows.FnEveryTextCardSaid :=
  Claim7.holds_tied_plain_at .later [] [.data, .data, .data, .sentinel, .sentinel] true (true, "7d583681dadf18eff292ce4a8bd3029ecb51645a4fae16cfe30e914612dcfbd4") true
    EveryTextRow (fun _ h => by cases h) (by kernel_rfl) (fun _ h => by cases h) fnEveryText_row_tie rfl ⟨rfl, rfl⟩ (by kernel_rfl) rfl
    (fun f fn hf hfn => by
      obtain rfl : f = 12 := Option.some.inj ((show Tryz.prog.funcNamed Rows.fnEveryTextRow.func = some 12 by kernel_rfl).symm.trans hf) |>.symm
      obtain rfl : fn = Tryz.f12 := (Option.some.inj (Tryz.func12.symm.trans hfn)).symm
      exact ⟨by kernel_rfl, fun j t ht => by
        rw [Tryz.params12] at ht
        have hm := Array.mem_of_getElem? ht
        simp only [List.mem_toArray, List.mem_cons, List.not_mem_nil, or_false] at hm
        rcases hm with rfl | rfl <;> exact (show Tryz.prog.wantsStandIn _ = false by kernel_rfl)⟩)
    (by kernel_rfl)
end Go.Proofs.YtfpccehboifkbaaGreatDoor

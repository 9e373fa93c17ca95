/-
  FnExactParseDivisor: the law answers yes to all its arguments, and leaves them as they were: proved for every input.
-/
import Derived.Test.YtaapeofhcopajaaDoorCards
import Derived.Test.YtaapeofhcopajaaDoorTie
import Derived.SevenTiedAt
import Derived.Handed
import Derived.Deep.DeepHandedRow
import Derived.LaidHandle
import Derived.Test.YtaapeofhcopajaaDoorRows
import Derived.Test.YtaapeofhcopajaaDoorFacts
import Derived.Test.YtaapeofhcopajaaDoorPurePD
import Derived.ProofKit
import Derived.SizedLaws
namespace Go.Proofs.YtaapeofhcopajaaDoor
open Go Go.ChangeShapes Go.WideShapes Go.ChangeAt Go.RowKit Go.Den
set_option linter.unusedVariables false
set_option maxRecDepth 100000
theorem ParseDivisorOwn : ownKnob Tryd.prog.godebug = none := by kernel_rfl
theorem ParseDivisorLaid : laidOutB Tryd.prog = true := by kernel_rfl
theorem ParseDivisorRels : Rels Go.Proofs.Tryd.prog Go.Proofs.Tryd.f7.params.toList [.str] := by
  rw [Go.Proofs.Tryd.params7]
  exact ⟨Go.Proofs.Tryd.underlying9, trivial⟩
theorem ParseDivisorRead : ∀ t ∈ Go.Proofs.Tryd.f7.params.toList, Go.Proofs.Tryd.prog.readableRec t = true ∧ t < Go.Proofs.Tryd.prog.types.size := by
  rw [Go.Proofs.Tryd.params7]
  intro t ht
  simp only [List.mem_cons, List.not_mem_nil, or_false] at ht
  rcases ht with rfl <;> exact ⟨by kernel_rfl, of_decide_eq_true (by kernel_rfl)⟩
theorem ParseDivisorArgs (zs : List Arg) (h : zs.map Arg.t = [.str]) (hr : ∀ z ∈ zs, Rng z.t z.x) : ∃ (a : (prodTy (D.Γ.insL 45)).den) (r : (prodTy (D.Γ.outsL 45)).den), unProd (D.Γ.insL 45) a = zs.map Arg.d ∧ unProd (D.Γ.outsL 45) r = [⟨.bool, true⟩] ∧ den D.Γ D.X 45 a = some r := by
  match zs, h, hr with
  | [⟨t0, x0, g0⟩], h, hr =>
    simp only [List.map_cons, List.map_nil, List.cons.injEq, and_true] at h
    obtain rfl := h
    have h0 := hr ⟨_, x0, g0⟩ (by simp)
    exact ⟨x0, true, rfl, rfl, D.law_ParseDivisor (Nat.le_trans h0 (by decide))⟩
theorem ParseDivisorLifted (os : Os) (started : os.Started) (H : Type) (enc : TypeId × Value → H) :
    ReturnsInHanded {} Tryd.checked os 7 .any (fun w args => (Rows.fnExactParseDivisorSpec.pre enc Tryd.prog Tryd.f7 [] false w args ∧ laidMetH Tryd.prog Rows.fnExactParseDivisorRow.laid w) ∧ sizedMet enc Tryd.prog Tryd.f7 (OpenSpec.ofChange Rows.fnExactParseDivisorSpec) false w args) (Rows.fnExactParseDivisorSpec.post enc Tryd.prog Tryd.f7 false true false false) := by
  refine returnsInHanded_of_row (C := Tryd.checked) (s := OpenSpec.ofChange Rows.fnExactParseDivisorSpec) (F := fun _ _ _ => 0) (conds := []) (apart := false) (laid := Rows.fnExactParseDivisorRow.laid) ParseDivisorOwn started (by kernel_rfl) Tryd.func7
    (ChangeSpec.witness_at (enc := enc) (C := Tryd.checked) (os := os) (X := fun w _ => laidMetH Tryd.prog Rows.fnExactParseDivisorRow.laid w) false (laidWorld os) #[.string ByteArray.empty] 8 rfl (by kernel_rfl) (by kernel_rfl) (by kernel_rfl) (by kernel_rfl) (by kernel_rfl) (laid_met5 os _)) ?_
  intro W base args ds gs before hval hW _ _ _ hL hsh _
  refine law_contract D.good ParseDivisorLaid (n := 45) rfl rfl (tys := [.str]) rfl ParseDivisorRels ParseDivisorRead (B := 4) rfl Tryd.underlying4 ParseDivisorArgs (s := Rows.fnExactParseDivisorSpec) rfl (fun ds hd => ?_) false hval hW (told_of_laid5 hL hsh)
  rw [Tryd.params7] at hd
  match ds, hd with
  | [_], _ => rfl
theorem ParseDivisorRow : Rows.FnExactParseDivisorSaid :=
  OpenClaim.holds_of_wide 7 Tryd.f7 rfl rfl rfl rfl rfl rfl rfl ⟨rfl, rfl, rfl, rfl, rfl⟩ rfl rfl rfl rfl rfl (by kernel_rfl) Tryd.func7 (by kernel_rfl)
    (of_decide_eq_true (by kernel_rfl)) (by unfold Func.isWrapper; first | (rw [if_pos (by decide +kernel)]; kernel_rfl) | (rw [if_neg (by decide +kernel)]; exact ⟨rfl, rfl⟩))
    (fun os started H enc _ => ParseDivisorLifted os started H enc)
theorem ParseDivisorHolds : Rows.FnExactParseDivisorCardSaid :=
  Claim7.holds_tied_plain_at .later [] [.data, .data, .data, .sentinel, .sentinel] true (true, "3a8dfcc70ff91cbd1bb8e94ae599033bd01e3cb7379a5ac5bafdc3b9f31778e0") true
    ParseDivisorRow (fun _ h => by cases h) (by kernel_rfl) (fun _ h => by cases h) fnExactParseDivisor_row_tie rfl ⟨rfl, rfl⟩ (by kernel_rfl) rfl
    (fun f fn hf hfn => by
      obtain rfl : f = 7 := Option.some.inj ((show Tryd.prog.funcNamed Rows.fnExactParseDivisorRow.func = some 7 by kernel_rfl).symm.trans hf) |>.symm
      obtain rfl : fn = Tryd.f7 := (Option.some.inj (Tryd.func7.symm.trans hfn)).symm
      exact ⟨by kernel_rfl, fun j t ht => by
        rw [Tryd.params7] at ht
        have hm := Array.mem_of_getElem? ht
        simp only [List.mem_toArray, List.mem_cons, List.not_mem_nil, or_false] at hm
        rcases hm with rfl <;> exact (show Tryd.prog.wantsStandIn _ = false by kernel_rfl)⟩)
    (by kernel_rfl)
end Go.Proofs.YtaapeofhcopajaaDoor

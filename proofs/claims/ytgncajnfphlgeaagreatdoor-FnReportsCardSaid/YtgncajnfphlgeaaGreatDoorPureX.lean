/-
  Gonality: both programs find the same divisor.
-/
import Derived.Test.YtgncajnfphlgeaaGreatDoorPureW
namespace Go.Proofs.YtgncajnfphlgeaaGreatDoor.D
open Go Go.Den
set_option linter.unusedVariables false
set_option linter.unusedSimpArgs false
/-- one chip less at a vertex -/
def dm (d : List Int) (v : Nat) : List Int := d.set v (d.getD v 0 - 1)
/-- small divisors -/
def Sd (g : Gr) (d : List Int) : Prop := d.length = N g ∧ ∀ x ∈ d, 0 ≤ x ∧ x ≤ 9
theorem Sd.vec {g : Gr} {d : List Int} (h : Sd g d) : vec (N g) d (fun w => d.getD w 0) ∧ ∀ w, w < N g → 0 ≤ d.getD w 0 ∧ d.getD w 0 ≤ 9 :=
  ⟨⟨h.1, fun _ _ => rfl⟩, fun w hw => h.2 _ (getD_mem 0 (by rw [h.1]; exact hw))⟩
theorem dm_vec {g : Gr} {d : List Int} (h : Sd g d) {v : Nat} (hv : v < N g) : vec (N g) (dm d v) (fun w => if w = v then d.getD v 0 - 1 else d.getD w 0) ∧ Bd (N g) 1000 (fun w => if w = v then d.getD v 0 - 1 else d.getD w 0) := by
  obtain ⟨h1, h2⟩ := h.vec
  refine ⟨h1.set hv _, fun w hw => ?_⟩
  have a := h2 v hv
  have b := h2 w hw
  show -1000 ≤ (if w = v then d.getD v 0 - 1 else d.getD w 0) ∧ (if w = v then d.getD v 0 - 1 else d.getD w 0) ≤ 1000
  split <;> omega
theorem eff_Sd {g : Gr} (hg : GOk g) {k : Nat} (hk : k ≤ 9) {d : List Int} (h : d ∈ eff (N g - 1) k) : Sd g d := by
  have hn := gN hg
  obtain ⟨h1, h2⟩ := eff_mem h
  exact ⟨by omega, fun x hx => by have := h2 x hx; omega⟩
end Go.Proofs.YtgncajnfphlgeaaGreatDoor.D

/-
  The law FnRanks: up to the rank each removal has an answer, and the witness has none.
-/
import Derived.Test.YtfpccehboifkbaaGreatDoorPureGf
import Derived.Test.YtfpccehboifkbaaGreatDoorPureZa
namespace Go.Proofs.YtfpccehboifkbaaGreatDoor.D
open Go Go.Den
set_option linter.unusedVariables false
set_option linter.unusedSimpArgs false
theorem DOk.len {g : Gr} {d : List Int} (h : DOk g d) : d.length = N g := h.vec.1.1
theorem DOk.is {g : Gr} {d : List Int} (h : DOk g d) : impl_DivisorOk g d = some true ∧ spec_DivisorOk g d = some true := by
  have hn := gN h.1
  have h12 := h.1.1.2.1
  obtain ⟨b, p1, p2, p3⟩ := divisorOk_p (g := g) (d := d) (by omega) (by rw [h.len]; omega)
  rw [p3.2 h] at p1 p2
  exact ⟨p2, p1⟩
theorem DOk.small {g : Gr} {d : List Int} (h : DOk g d) : g.2.length ≤ 1048576 ∧ d.length ≤ 1048576 := by
  have hn := gN h.1
  have h12 := h.1.1.2.1
  exact ⟨by omega, by rw [h.len]; omega⟩
theorem Sd.dok {g : Gr} (hg : GOk g) {d : List Int} (h : Sd g d) : DOk g d := by
  have hn := gN hg
  refine ⟨hg, by rw [h.1]; omega, fun j hj => ?_⟩
  have := h.2 _ (getD_mem 0 hj)
  omega
theorem Win.iff {g : Gr} {D D' : Nat → Int} (e : ∀ v, v < N g → D v = D' v) : Win g D ↔ Win g D' := ⟨fun h => h.congr e, fun h => h.congr fun v hv => (e v hv).symm⟩
theorem isEff_t {d : List Int} (hl : d.length ≤ 1000) (h : ∀ x ∈ d, 0 ≤ x) : impl_IsEffective d = some true := by
  obtain ⟨b, b1, b2⟩ := isEff_p hl
  rw [b1, b2.2 fun v hv => h _ (getD_mem 0 hv)]
end Go.Proofs.YtfpccehboifkbaaGreatDoor.D

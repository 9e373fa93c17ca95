/-
  The reference's lists of sets: all sets of so many numbers below a bound, each once.
-/
import Derived.Test.YtgncajnfphlgeaaGreatDoorPureR
namespace Go.Proofs.YtgncajnfphlgeaaGreatDoor.D
open Go Go.Den
set_option linter.unusedVariables false
set_option linter.unusedSimpArgs false
/-! ### sets -/
def SetOk (n k : Nat) (s : List Int) : Prop := s.length = k ∧ s.Pairwise (· < ·) ∧ ∀ x ∈ s, 0 ≤ x ∧ x < (n : Int)
theorem set_last {n k : Nat} {s : List Int} (h : SetOk n (k + 1) s) : ∃ u x, s = u ++ [x] ∧ SetOk n k u ∧ (∀ y ∈ u, y < x) ∧ 0 ≤ x ∧ x < (n : Int) := by
  have hne : s ≠ [] := fun c => by rw [c] at h; exact absurd h.1 (by simp)
  refine ⟨s.dropLast, s.getLast hne, (List.dropLast_concat_getLast hne).symm, ?_, ?_, h.2.2 _ (List.getLast_mem hne)⟩
  · refine ⟨by rw [List.length_dropLast, h.1]; rfl, h.2.1.sublist (List.dropLast_sublist s), fun x hx => h.2.2 x ((List.dropLast_sublist s).subset hx)⟩
  · intro y hy
    have hp := h.2.1
    rw [← List.dropLast_concat_getLast hne, List.pairwise_append] at hp
    exact hp.2.2 y hy _ (by simp)
theorem incr_last {s : List Int} (h : s.Pairwise (· < ·)) (hn : 0 < s.length) {x : Int} : (∀ y ∈ s, y < x) ↔ s.getD (s.length - 1) 0 < x := by
  have hl : s.length - 1 < s.length := by omega
  rw [getD_lt hl]
  constructor
  · exact fun k => k _ (List.getElem_mem _)
  · intro k y hy
    obtain ⟨i, hi, rfl⟩ := List.getElem_of_mem hy
    by_cases c : i = s.length - 1
    · subst c; exact k
    · have := (List.pairwise_iff_getElem.1 h) i (s.length - 1) hi hl (by omega)
      omega
end Go.Proofs.YtgncajnfphlgeaaGreatDoor.D

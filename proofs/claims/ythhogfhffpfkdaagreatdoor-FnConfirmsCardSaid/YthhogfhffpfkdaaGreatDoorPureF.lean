/-
  Graphs: both say alike whether a graph is one; the identity of a graph.
-/
import Derived.Test.YthhogfhffpfkdaaGreatDoorPureE
namespace Go.Proofs.YthhogfhffpfkdaaGreatDoor.D
open Go Go.Den
set_option linter.unusedVariables false
set_option linter.unusedSimpArgs false
def GOk (g : Gr) : Prop := EOk g ∧ Srt g.2 ∧ All g
theorem impl_GraphOk_p {g : Gr} (h : g.2.length ≤ 9223372036854775807) : ∃ b, impl_GraphOk g = some b ∧ (b = true ↔ GOk g) := by
  obtain ⟨b, h1, h2⟩ := impl_EdgesOk_p h
  rw [impl_GraphOk_eq, h1]
  simp only [Option.bind_some]
  cases b with
  | false => exact ⟨false, rfl, ⟨fun k => (by cases k), fun k => (by have := h2.2 k.1; cases this)⟩⟩
  | true =>
    have hg := h2.1 rfl
    obtain ⟨b, k1, k2⟩ := impl_sorted_p h
    rw [k1]
    simp only [cond_true, Option.bind_some]
    cases b with
    | false => exact ⟨false, rfl, ⟨fun k => (by cases k), fun k => (by have := k2.2 k.2.1; cases this)⟩⟩
    | true =>
      obtain ⟨b, r1, r2⟩ := connected_p hg
      rw [r1]
      exact ⟨b, rfl, r2.trans ⟨fun k => ⟨hg, k2.1 rfl, k⟩, fun k => k.2.2⟩⟩
/-- 0, 1, .. -/
def upto (n : Nat) : List Int := (List.range n).map fun (k : Nat) => (k : Int)
def idm (g : Gr) : (List Int × List Int) := (upto g.1.toNat, upto g.2.length)
theorem true_of {a : Option Bool} {p : Prop} (h : ∃ r, a = some r ∧ (r = true ↔ p)) (hp : p) : a = some true := by
  obtain ⟨r, h1, h2⟩ := h
  rw [h1, h2.2 hp]
end Go.Proofs.YthhogfhffpfkdaaGreatDoor.D

/-
  Graphs: both say alike whether a graph is one; the identity of a graph.
-/
import Derived.Test.YtafgbjhojkgbjaaGreatDoorPureE
namespace Go.Proofs.YtafgbjhojkgbjaaGreatDoor.D
open Go Go.Den
set_option linter.unusedVariables false
set_option linter.unusedSimpArgs false
def GOk (g : Gr) : Prop := EOk g ∧ Srt g.2 ∧ All g
theorem spec_GraphOk_p {g : Gr} (h : g.2.length ≤ 9223372036854775807) : ∃ b, spec_GraphOk g = some b ∧ (b = true ↔ GOk g) := by
  obtain ⟨b, h1, h2⟩ := spec_EdgesOk_p h
  rw [spec_GraphOk_eq, h1]
  simp only [Option.bind_some]
  cases b with
  | false => exact ⟨false, rfl, ⟨fun k => (by cases k), fun k => (by have := h2.2 k.1; cases this)⟩⟩
  | true =>
    have hg := h2.1 rfl
    obtain ⟨l, q1, q2⟩ := reach_p hg
    simp only [Bool.not_true, cond_false]
    obtain ⟨b, k1, k2⟩ := upAllE (n := g.2.length) (e := (((l.length : Int) : Int) == g.1)) (f := fun i => spec_GraphOk_l0 g g.2 (g.2.length : Int) i) (p := fun k => match k with | 0 => true | j + 1 => !decide (Lt (g.2.getD (j + 1) (0, 0)) (g.2.getD j (0, 0)))) (fun k hk => by
      have c8 : spec_GraphOk_c8 g g.2 (g.2.length : Int) (k : Nat) = spec_GraphOk_l0 g g.2 (g.2.length : Int) ((k + 1 : Nat) : Int) := by
        rw [spec_GraphOk_c8_eq, w64_succ hk h]
      rw [spec_GraphOk_l0_eq, dec_lt_t hk, inside_lt hk]
      simp only [cond_true]
      cases k with
      | zero => simpa using c8
      | succ j =>
        rw [show (((j + 1 : Nat) : Int) - 1) = (j : Int) by omega, w64_id (n := (j : Int)) (by omega) (by omega), inside_lt (show j < g.2.length by omega), decide_eq_true (show ((j + 1 : Nat) : Int) > 0 by omega)]
        simp only [cond_true, Int.toNat_natCast]
        obtain ⟨⟨a, b⟩, hab⟩ : ∃ e, g.2.getD (j + 1) (0, 0) = e := ⟨_, rfl⟩
        obtain ⟨⟨c, d⟩, hcd⟩ : ∃ e, g.2.getD j (0, 0) = e := ⟨_, rfl⟩
        simp only [hab, hcd]
        by_cases d1 : a < c
        · rw [decide_eq_true d1, decide_eq_true (show Lt (a, b) (c, d) from .inl d1)]; rfl
        · rw [decide_eq_false d1]
          by_cases d2 : a = c
          · rw [beq_t d2]
            by_cases d3 : b < d
            · rw [decide_eq_true d3, decide_eq_true (show Lt (a, b) (c, d) from .inr ⟨d2, d3⟩)]; rfl
            · rw [decide_eq_false d3, decide_eq_false (show ¬ Lt (a, b) (c, d) from fun q => q.elim d1 fun q => d3 q.2)]
              exact c8
          · rw [beq_f d2, decide_eq_false (show ¬ Lt (a, b) (c, d) from fun q => q.elim d1 fun q => d2 q.1)]
            exact c8) (by
      rw [spec_GraphOk_l0_eq, dec_lt_f, q1]
      rfl)
    refine ⟨b, k1, k2.trans ⟨fun k => ⟨hg, fun j hj => ?_, q2.1 k.2⟩, fun k => ⟨fun j hj => ?_, q2.2 k.2.2⟩⟩⟩
    · simpa using k.1 (j + 1) hj
    · cases j with
      | zero => rfl
      | succ j => simpa using k.2.1 j hj
theorem impl_GraphOk_p {g : Gr} (h : g.2.length ≤ 9223372036854775807) : ∃ b, impl_GraphOk g = some b ∧ (b = true ↔ GOk g) := by
  obtain ⟨b, h1, h2⟩ := impl_EdgesOk_p h
  rw [impl_GraphOk_eq, h1]
  simp only [Option.bind_some]
  cases b with
  | false => exact ⟨false, rfl, ⟨fun k => (by cases k), fun k => (by have := h2.2 k.1; cases this)⟩⟩
  | true =>
    have hg := h2.1 rfl
    obtain ⟨b, k1, k2⟩ := impl_sorted_p h
    rw [k1]
    simp only [cond_true, Option.bind_some]
    cases b with
    | false => exact ⟨false, rfl, ⟨fun k => (by cases k), fun k => (by have := k2.2 k.2.1; cases this)⟩⟩
    | true =>
      obtain ⟨b, r1, r2⟩ := connected_p hg
      rw [r1]
      exact ⟨b, rfl, r2.trans ⟨fun k => ⟨hg, k2.1 rfl, k⟩, fun k => k.2.2⟩⟩
theorem graphOk_p {g : Gr} (h : g.2.length ≤ 9223372036854775807) : ∃ b, spec_GraphOk g = some b ∧ impl_GraphOk g = some b ∧ (b = true ↔ GOk g) := by
  obtain ⟨b, h1, h2⟩ := spec_GraphOk_p h
  obtain ⟨c, h3, h4⟩ := impl_GraphOk_p h
  have : c = b := by rw [Bool.eq_iff_iff, h2, h4]
  subst this
  exact ⟨c, h1, h3, h2⟩
/-- 0, 1, .. -/
def upto (n : Nat) : List Int := (List.range n).map fun (k : Nat) => (k : Int)
def idm (g : Gr) : (List Int × List Int) := (upto g.1.toNat, upto g.2.length)
theorem true_of {a : Option Bool} {p : Prop} (h : ∃ r, a = some r ∧ (r = true ↔ p)) (hp : p) : a = some true := by
  obtain ⟨r, h1, h2⟩ := h
  rw [h1, h2.2 hp]
end Go.Proofs.YtafgbjhojkgbjaaGreatDoor.D

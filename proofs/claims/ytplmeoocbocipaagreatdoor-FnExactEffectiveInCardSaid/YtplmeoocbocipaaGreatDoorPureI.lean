/-
  Divisors along morphisms: both say alike what is pushed forward and pulled back.
-/
import Derived.Test.YtplmeoocbocipaaGreatDoorPureH
namespace Go.Proofs.YtplmeoocbocipaaGreatDoor.D
open Go Go.Den
set_option linter.unusedVariables false
set_option linter.unusedSimpArgs false
def DOk (g : Gr) (d : List Int) : Prop := GOk g ∧ (d.length : Int) = g.1 ∧ ∀ j, j < d.length → -60 ≤ d.getD j 0 ∧ d.getD j 0 ≤ 60
theorem divisorOk_p {g : Gr} {d : List Int} (hg : g.2.length ≤ 1048576) (hd : d.length ≤ 1048576) : ∃ b, spec_DivisorOk g d = some b ∧ impl_DivisorOk g d = some b ∧ (b = true ↔ DOk g d) := by
  obtain ⟨b, p1, p2, p3⟩ := graphOk_p (g := g) (by omega)
  rw [spec_DivisorOk_eq, impl_DivisorOk_eq, p1, p2]
  cases b with
  | false => exact ⟨false, rfl, rfl, ⟨fun k => (by cases k), fun k => (by have := p3.2 k.1; cases this)⟩⟩
  | true =>
    simp only [Option.bind_some, Bool.not_true, cond_false, cond_true]
    by_cases c : (d.length : Int) = g.1
    · rw [eq_f c, beq_t c]
      obtain ⟨b, q1, q2⟩ := allWithin_p (l := d) (lo := -60) (hi := 60) (by omega)
      obtain ⟨b', r1, r2⟩ := upAll (n := d.length) (f := fun i => spec_DivisorOk_l0 d (d.length : Int) i) (p := fun k => decide (-60 ≤ d.getD k 0 ∧ d.getD k 0 ≤ 60)) (fun k hk => by
        rw [spec_DivisorOk_l0_eq, dec_lt_t hk, inside_lt hk, w64_succ hk (by omega)]
        simp only [cond_true, Int.toNat_natCast, in_p, Option.bind_some]
        cases decide (-60 ≤ d.getD k 0 ∧ d.getD k 0 ≤ 60) <;> rfl) (by rw [spec_DivisorOk_l0_eq, dec_lt_f]; rfl)
      have : b' = b := by
        rw [Bool.eq_iff_iff, q2, r2]
        exact ⟨fun h j hj => of_decide_eq_true (h j hj), fun h j hj => decide_eq_true (h j hj)⟩
      subst this
      refine ⟨b', r1, ?_, q2.trans ⟨fun h => ⟨p3.1 rfl, c, h⟩, fun h => h.2.2⟩⟩
      rw [q1]; rfl
    · rw [ne_t c, beq_f c]
      exact ⟨false, rfl, rfl, ⟨fun k => (by cases k), fun k => absurd k.2.1 c⟩⟩
end Go.Proofs.YtplmeoocbocipaaGreatDoor.D

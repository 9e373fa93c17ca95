/-
  The action on trees: both programs alike (fourth part: a rotor's next edge).
-/
import Derived.Test.YthmddgkpebneoaaPureAv
namespace Go.Proofs.Ythmddgkpebneoaa.D
open Go Go.Den
set_option linter.unusedVariables false
set_option linter.unusedSimpArgs false
theorem tmod_nat (a n : Nat) : Int.tmod (a : Int) (n : Int) = ((a % n : Nat) : Int) := rfl
theorem next_p {g : Gr} {v i : Int} (hG : GOk g) (hi : At g i v) (hv : 0 ≤ v ∧ v < g.1) : ∃ r, spec_l15Next g v i = some r ∧ impl_NextRotor g v i = some r ∧ At g r v := by
  have hg := hG.1.2.1
  have hn := hG.1.1
  obtain ⟨a, rfl⟩ : ∃ a : Nat, i = (a : Int) := ⟨i.toNat, by have := hi.1; omega⟩
  have ha : a < g.2.length := by have := hi.2.1; omega
  have key : ∀ m k, k + m = g.2.length → ∃ r, spec_l15Next_l0 v (a : Int) g (g.2.length : Int) (k : Int) = some r ∧ impl_NextRotor_l0 v g (g.2.length : Int) (((a + k) % g.2.length : Nat) : Int) = some r ∧ At g r v := by
    intro m
    induction m with
    | zero =>
      intro k hk
      have : k = g.2.length := by omega
      subst this
      rw [spec_l15Next_l0_eq, dec_lt_f, impl_NextRotor_l0_eq, Nat.add_mod_right, Nat.mod_eq_of_lt ha, isAt_p (by omega) hi.1 hi.2.1, decide_eq_true hi.2.2]
      exact ⟨(a : Int), rfl, rfl, hi⟩
    | succ m ih =>
      intro k hk
      have hk' : k < g.2.length := by omega
      have hx : (a + k) % g.2.length < g.2.length := Nat.mod_lt _ (by omega)
      rw [spec_l15Next_l0_eq, dec_lt_t hk', impl_NextRotor_l0_eq, w64_id (n := (a : Int) + (k : Int)) (by omega) (by omega), show (a : Int) + (k : Int) = ((a + k : Nat) : Int) by omega, tmod_nat, inside_lt hx, isAt_p (by omega) (by omega) (by omega), w64_succ hk' (by omega), decide_eq_false (show ¬ (g.2.length : Int) = 0 by omega)]
      simp only [cond_true, cond_false, Option.bind_some]
      by_cases c1 : (g.2.getD (((a + k) % g.2.length : Nat) : Int).toNat (0, 0)).1 = v
      · rw [beq_t c1, decide_eq_true (show _ ∨ (g.2.getD (((a + k) % g.2.length : Nat) : Int).toNat (0, 0)).2 = v from .inl c1)]
        exact ⟨_, rfl, rfl, by omega, by omega, .inl c1⟩
      · rw [beq_f c1]
        by_cases c2 : (g.2.getD (((a + k) % g.2.length : Nat) : Int).toNat (0, 0)).2 = v
        · rw [beq_t c2, decide_eq_true (show (g.2.getD (((a + k) % g.2.length : Nat) : Int).toNat (0, 0)).1 = v ∨ _ from .inr c2)]
          exact ⟨_, rfl, rfl, by omega, by omega, .inr c2⟩
        · rw [beq_f c2, decide_eq_false (show ¬ ((g.2.getD (((a + k) % g.2.length : Nat) : Int).toNat (0, 0)).1 = v ∨ (g.2.getD (((a + k) % g.2.length : Nat) : Int).toNat (0, 0)).2 = v) from fun h => by cases h <;> contradiction)]
          have e : Int.tmod (w64 ((((a + k) % g.2.length : Nat) : Int) + 1)) (g.2.length : Int) = (((a + (k + 1)) % g.2.length : Nat) : Int) := by
            rw [w64_succ hx (by omega), tmod_nat, Nat.mod_add_mod, Nat.add_assoc]
          rw [e]
          exact ih (k + 1) (by omega)
  obtain ⟨r, r1, r2, r3⟩ := key (g.2.length - 1) 1 (by omega)
  obtain ⟨b, p1, p2, p3⟩ := graphOk_p (g := g) (by omega)
  have hb := p3.2 hG
  subst hb
  refine ⟨r, by rw [spec_l15Next_eq]; exact r1, ?_, r3⟩
  rw [impl_NextRotor_eq, impl_isVertex_eq, p2]
  simp only [Option.bind_some, cond_true]
  rw [within_p, w64_id (n := g.1 - 1) (by omega) (by omega), decide_eq_true (show 0 ≤ v ∧ v ≤ g.1 - 1 by omega)]
  simp only [Option.bind_some, Bool.not_true, cond_false]
  rw [isAt_p (by omega) hi.1 hi.2.1, decide_eq_true hi.2.2, decide_eq_false (show ¬ (g.2.length : Int) = 0 by omega), w64_succ ha (by omega), tmod_nat]
  exact r2
end Go.Proofs.Ythmddgkpebneoaa.D

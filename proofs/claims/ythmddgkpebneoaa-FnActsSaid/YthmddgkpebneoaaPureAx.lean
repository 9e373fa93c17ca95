/-
  The action on trees: both programs alike (fifth part: a rotor state passes the test).
-/
import Derived.Test.YthmddgkpebneoaaPureAw
namespace Go.Proofs.Ythmddgkpebneoaa.D
open Go Go.Den
set_option linter.unusedVariables false
set_option linter.unusedSimpArgs false
theorem rotors_t {g : Gr} {r : List Int} {q : Int} (h : RO g r q) (hq : r.getD q.toNat 0 = -1) : impl_RotorsOk g r q = some true := by
  obtain ⟨hG, q0, q1, hl, ha⟩ := h
  have hg := hG.1.2.1
  have hn := hG.1.1
  obtain ⟨b, p1, p2, p3⟩ := graphOk_p (g := g) (by omega)
  have hb := p3.2 hG
  subst hb
  rw [impl_RotorsOk_eq, impl_isVertex_eq, p2]
  simp only [Option.bind_some, cond_true]
  rw [within_p, w64_id (n := g.1 - 1) (by omega) (by omega), decide_eq_true (show 0 ≤ q ∧ q ≤ g.1 - 1 by omega)]
  simp only [Option.bind_some, Bool.not_true, cond_false]
  rw [eq_f hl, cond_false, inside_int q0 (by omega), cond_true, eq_f hq, cond_false]
  have key : ∀ m k, k + m = r.length → impl_RotorsOk_l0 q g r (r.length : Int) (k : Int) = some true := by
    intro m
    induction m with
    | zero =>
      intro k hk
      have : k = r.length := by omega
      subst this
      rw [impl_RotorsOk_l0_eq, dec_lt_f]; rfl
    | succ m ih =>
      intro k hk
      have hk' : k < r.length := by omega
      rw [impl_RotorsOk_l0_eq, dec_lt_t hk', inside_lt hk', show ((k : Int)).toNat = k by omega, w64_succ hk' (by omega)]
      simp only [cond_true]
      by_cases c : (k : Int) = q
      · rw [eq_f c, cond_false]
        exact ih (k + 1) (by omega)
      · obtain ⟨a1, a2, a3⟩ := ha k hk' c
        rw [ne_t c, cond_true, isAt_p (by omega) a1 a2, decide_eq_true a3]
        simp only [Option.bind_some, Bool.not_true, cond_false]
        exact ih (k + 1) (by omega)
  exact key r.length 0 (by omega)
end Go.Proofs.Ythmddgkpebneoaa.D

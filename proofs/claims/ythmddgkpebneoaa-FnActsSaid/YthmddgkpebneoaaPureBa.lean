/-
  The action on trees: both programs answer alike.
-/
import Derived.Test.YthmddgkpebneoaaPureAz
namespace Go.Proofs.Ythmddgkpebneoaa.D
open Go Go.Den
set_option linter.unusedVariables false
set_option linter.unusedSimpArgs false
theorem act0_p {g : Gr} {p : List Int} {q : Int} (hg : g.2.length ≤ 1048576) (hp : DO g p) : ∀ (m v : Nat) (r : List Int), v + m = p.length → (RO g r q ∧ r.getD q.toNat 0 = -1) → ∃ x, spec_ActOnTree_l0 q g r p (p.length : Int) (v : Int) = some x ∧ impl_ActOnTree_l0 q g r p (p.length : Int) (v : Int) = some x ∧ x.1.length ≤ 6 := by
  have hn := hp.1.1.1
  have hpl := hp.2.1
  intro m
  induction m with
  | zero =>
    intro v r hv h
    have : v = p.length := by omega
    subst this
    have hl := h.1.2.2.2.1
    obtain ⟨x, x1, x2, x3⟩ := treeOf_p (q := q) hg (r := r) (by omega)
    rw [spec_ActOnTree_l0_eq, impl_ActOnTree_l0_eq, dec_lt_f, x1, x2]
    exact ⟨x, rfl, rfl, x3⟩
  | succ m ih =>
    intro v r hv h
    have hv' : v < p.length := by omega
    have hc := hp.2.2 v hv'
    have inner : ∀ (m k : Nat) (r : List Int), (k : Int) + (m : Int) = p.getD v 0 ∨ (m = 0 ∧ p.getD v 0 ≤ (k : Int)) → k ≤ 60 → (RO g r q ∧ r.getD q.toNat 0 = -1) → ∃ x, spec_ActOnTree_l2 q g r (v : Int) (p.getD v 0) (k : Int) p (p.length : Int) (v : Int) = some x ∧ impl_ActOnTree_l2 q g r (v : Int) (p.getD v 0) (k : Int) p (p.length : Int) (v : Int) = some x ∧ x.1.length ≤ 6 := by
      intro m
      induction m with
      | zero =>
        intro k r hk hk6 h
        rw [spec_ActOnTree_l2_eq, impl_ActOnTree_l2_eq, decide_eq_false (by omega), cond_false, cond_false, w64_succ hv' (by omega)]
        exact ih (v + 1) r (by omega) h
      | succ m ih2 =>
        intro k r hk hk6 h
        have hl := h.1.2.2.2.1
        obtain ⟨x, x1, x2, x3⟩ := walk_p h.1 h.2 (v := (v : Int)) (by omega)
        rw [spec_ActOnTree_l2_eq, impl_ActOnTree_l2_eq, decide_eq_true (by omega), cond_true, cond_true, x1, x2, w64_id (n := (k : Int) + 1) (by omega) (by omega)]
        simp only [Option.bind_some]
        obtain ⟨r', n', b⟩ := x
        cases b with
        | false => exact ⟨_, rfl, rfl, Nat.zero_le _⟩
        | true => exact ih2 (k + 1) r' (by omega) (by omega) (x3 rfl)
    rw [spec_ActOnTree_l0_eq, impl_ActOnTree_l0_eq, dec_lt_t hv', inside_lt hv', show ((v : Int)).toNat = v by omega]
    simp only [cond_true]
    exact inner (p.getD v 0).toNat 0 r (by omega) (by omega) h
theorem act_p {g : Gr} {t p : List Int} {q : Int} (hg : g.2.length ≤ 1048576) (ht : t.length ≤ 1048576) (hp : p.length ≤ 1048576) : ∃ x, spec_ActOnTree g t q p = some x ∧ impl_ActOnTree g t q p = some x ∧ x.1.length ≤ 6 := by
  obtain ⟨r, r1, r2, r3, _⟩ := state_p (g := g) (t := t) (q := q) (fun l v h => has_c h) hg ht
  rw [spec_ActOnTree_eq, impl_ActOnTree_eq, r1, r2]
  simp only [Option.bind_some]
  obtain ⟨r, b⟩ := r
  cases b with
  | false => exact ⟨_, rfl, rfl, Nat.zero_le _⟩
  | true =>
    obtain ⟨b, b1, b2, b3⟩ := plOk_p (q := q) hg hp
    simp only [b1, b2, Option.bind_some, Bool.not_true, cond_false]
    cases b with
    | false => exact ⟨_, rfl, rfl, Nat.zero_le _⟩
    | true => exact act0_p hg (b3 rfl) p.length 0 r (by omega) (r3 rfl).1
theorem law_ActOnTree {g : Gr} {t p : List Int} {q : Int} (hg : g.2.length ≤ 9223372036854775807) : laws_FnExactActOnTree g t q p = some true := by
  rw [laws_FnExactActOnTree_eq]
  by_cases c0 : (t.length : Int) > 1048576
  · rw [decide_eq_true c0]; rfl
  by_cases c1 : (p.length : Int) > 1048576
  · rw [decide_eq_false c0, decide_eq_true c1]; rfl
  obtain ⟨r, k1, k2⟩ := szGraph_p hg (m := 1048576) (by omega) (by omega)
  rw [decide_eq_false c0, decide_eq_false c1, k1]
  simp only [cond_false, Option.bind_some]
  by_cases c : r < 0
  · rw [decide_eq_true c]; rfl
  have hl : g.2.length ≤ 1048576 := by have := k2 (by omega); omega
  have t1 := toGraph_p (a := g) hl
  have t2 := toIntS_p (a := t) (by omega)
  have t3 := toIntS_p (a := p) (by omega)
  have e1 : laws_eqGraph g g = some true := true_of (eqGraph_p hg) rfl
  have e2 : laws_eqIntS t t = some true := true_of (eqIntS_p (by omega)) rfl
  have e4 : laws_eqIntS p p = some true := true_of (eqIntS_p (by omega)) rfl
  obtain ⟨x, p1, p2, p3⟩ := act_p hl (t := t) (p := p) (q := q) (by omega) (by omega)
  have e3 : laws_eqIntS x.1 x.1 = some true := true_of (eqIntS_p (by omega)) rfl
  obtain ⟨q1, m1, n1⟩ := markGraph_p (a := g) (m := 1) (by omega) (by omega)
  have m2 := markIntS_p (a := t) (m := q1.1) (by omega) (by omega)
  have m5 := markIntS_p (a := p) (m := q1.1 + (t.length : Int)) (by omega) (by omega)
  have m3 := markIntS_p (a := x.1) (m := 1) (by omega) (by omega)
  have m4 := heldIntS_p (m := 1) (n := x.1.length) (by omega) (by omega)
  have z1 : ¬ q1.1 + (t.length : Int) + (p.length : Int) < 0 := by omega
  have z2 : ¬ (1 : Int) + (x.1.length : Int) < 0 := by omega
  rw [decide_eq_false c]
  simp only [t1, t2, t3, e1, e2, e3, e4, p1, p2, Option.bind_some, cond_false, Bool.not_true, beq_self_eq_true, bne_self_eq_false, laws_FnExactActOnTree_c14_eq, m1, m2, m3, m4, m5, decide_eq_false z1, decide_eq_false z2, laws_FnExactActOnTree_c29_eq, laws_FnExactActOnTree_c41_eq]
end Go.Proofs.Ythmddgkpebneoaa.D

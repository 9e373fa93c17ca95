/-
  The law file's helpers, more; morphisms of graphs: both say alike whether it is one.
-/
import Derived.Test.YtgncajnfphlgeaaPureF
namespace Go.Proofs.Ytgncajnfphlgeaa.D
open Go Go.Den
set_option linter.unusedVariables false
set_option linter.unusedSimpArgs false
abbrev Mo : Type := List Int × List Int
theorem allWithin_p {l : List Int} {lo hi : Int} (h : l.length ≤ 9223372036854775807) : ∃ b, impl_allWithin l lo hi = some b ∧ (b = true ↔ ∀ j, j < l.length → lo ≤ l.getD j 0 ∧ l.getD j 0 ≤ hi) := by
  rw [impl_allWithin_eq]
  obtain ⟨b, h1, h2⟩ := upAll (n := l.length) (f := fun i => impl_allWithin_l0 lo hi l (l.length : Int) i) (p := fun k => decide (lo ≤ l.getD k 0 ∧ l.getD k 0 ≤ hi)) (fun k hk => by
    rw [impl_allWithin_l0_eq, dec_lt_t hk, inside_lt hk, w64_succ hk h]
    simp only [cond_true, Int.toNat_natCast, within_p, Option.bind_some]
    cases decide (lo ≤ l.getD k 0 ∧ l.getD k 0 ≤ hi) <;> rfl) (by rw [impl_allWithin_l0_eq, dec_lt_f]; rfl)
  exact ⟨b, h1, h2.trans ⟨fun q j hj => of_decide_eq_true (q j hj), fun q j hj => decide_eq_true (q j hj)⟩⟩
/-- an edge goes where its ends go -/
def EC (h : Gr) (m : Mo) (e : Int × Int) (k : Int) : Prop :=
  (k = -1 ∧ m.1.getD e.1.toNat 0 = m.1.getD e.2.toNat 0) ∨ ((0 ≤ k ∧ k ≤ (h.2.length : Int) - 1) ∧ (h.2.getD k.toNat (0, 0)).1 = imin (m.1.getD e.1.toNat 0) (m.1.getD e.2.toNat 0) ∧ (h.2.getD k.toNat (0, 0)).2 = imax (m.1.getD e.1.toNat 0) (m.1.getD e.2.toNat 0))
instance (h : Gr) (m : Mo) (e : Int × Int) (k : Int) : Decidable (EC h m e k) := by unfold EC; infer_instance
def MOk (g h : Gr) (m : Mo) : Prop := GOk g ∧ GOk h ∧ (m.1.length : Int) = g.1 ∧ m.2.length = g.2.length ∧ (∀ j, j < m.1.length → 0 ≤ m.1.getD j 0 ∧ m.1.getD j 0 ≤ h.1 - 1) ∧ ∀ j, j < g.2.length → EC h m (g.2.getD j (0, 0)) (m.2.getD j 0)
theorem inside_int {n : Int} {l : Nat} (h0 : 0 ≤ n) (h1 : n < (l : Int)) : inside n l = true := by
  have : n = ((n.toNat : Nat) : Int) := by omega
  rw [this]; exact inside_lt (by omega)
theorem spec_MorphismOk_p {g h : Gr} {m : Mo} (hg : g.2.length ≤ 1048576) (hh : h.2.length ≤ 1048576) (h1 : m.1.length ≤ 1048576) (h2 : m.2.length ≤ 1048576) : ∃ b, spec_MorphismOk g h m = some b ∧ (b = true ↔ MOk g h m) := by
  obtain ⟨b1, p1, q1⟩ := spec_GraphOk_p (g := g) (by omega)
  obtain ⟨b2, p2, q2⟩ := spec_GraphOk_p (g := h) (by omega)
  rw [spec_MorphismOk_eq, p1, p2]
  cases b1 with
  | false => exact ⟨false, rfl, ⟨fun k => (by cases k), fun k => (by have := q1.2 k.1; cases this)⟩⟩
  | true =>
    cases b2 with
    | false => exact ⟨false, rfl, ⟨fun k => (by cases k), fun k => (by have := q2.2 k.2.1; cases this)⟩⟩
    | true =>
      have G := q1.1 rfl
      have K := q2.1 rfl
      simp only [Option.bind_some, Bool.not_true, cond_false]
      by_cases c1 : (m.1.length : Int) = g.1
      · rw [eq_f c1]
        by_cases c2 : (m.2.length : Int) = (g.2.length : Int)
        · rw [eq_f c2]
          simp only [cond_false]
          obtain ⟨e, r1, r2⟩ := upAll (n := g.2.length) (f := fun i => spec_MorphismOk_l2 h m g.2 (g.2.length : Int) i) (p := fun k => decide (EC h m (g.2.getD k (0, 0)) (m.2.getD k 0))) (fun k hk => by
            obtain ⟨a1, a2, a3⟩ := G.1.2.2 k hk
            have c20 : spec_MorphismOk_c20 h m g.2 (g.2.length : Int) (k : Nat) = spec_MorphismOk_l2 h m g.2 (g.2.length : Int) ((k + 1 : Nat) : Int) := by
              rw [spec_MorphismOk_c20_eq, w64_succ hk (by omega)]
            rw [spec_MorphismOk_l2_eq, dec_lt_t hk, inside_lt hk, inside_lt (show k < m.2.length by omega)]
            simp only [cond_true, Int.toNat_natCast]
            obtain ⟨⟨a, b⟩, hab⟩ : ∃ e, g.2.getD k (0, 0) = e := ⟨_, rfl⟩
            rw [hab] at a1 a2 a3
            simp only at a1 a2 a3
            simp only [hab]
            rw [inside_int (n := a) a1 (by omega), inside_int (n := b) (by omega) (by omega)]
            simp only [cond_true]
            obtain ⟨x, hx⟩ : ∃ x, m.2.getD k 0 = x := ⟨_, rfl⟩
            simp only [hx]
            by_cases d1 : x = -1
            · rw [beq_t d1]
              by_cases d2 : m.1.getD a.toNat 0 = m.1.getD b.toNat 0
              · rw [eq_f d2, decide_eq_true (show EC h m (a, b) x from Or.inl ⟨d1, d2⟩)]; exact c20
              · rw [ne_t d2, decide_eq_false (show ¬ EC h m (a, b) x from fun q => Or.elim q (fun q => d2 q.2) fun q => by have := q.1.1; omega)]; rfl
            · rw [beq_f d1, in_p, w64_id (n := (h.2.length : Int) - 1) (by omega) (by omega)]
              simp only [cond_false, Option.bind_some]
              by_cases d2 : 0 ≤ x ∧ x ≤ (h.2.length : Int) - 1
              · rw [decide_eq_true d2, inside_int (n := x) d2.1 (by omega)]
                simp only [Bool.not_true, cond_false, cond_true]
                by_cases d3 : (h.2.getD x.toNat (0, 0)).1 = imin (m.1.getD a.toNat 0) (m.1.getD b.toNat 0)
                · rw [eq_f d3]
                  by_cases d4 : (h.2.getD x.toNat (0, 0)).2 = imax (m.1.getD a.toNat 0) (m.1.getD b.toNat 0)
                  · rw [eq_f d4, decide_eq_true (show EC h m (a, b) x from Or.inr ⟨d2, d3, d4⟩)]; exact c20
                  · rw [ne_t d4, decide_eq_false (show ¬ EC h m (a, b) x from fun q => Or.elim q (fun q => d1 q.1) fun q => d4 q.2.2)]; rfl
                · rw [ne_t d3, decide_eq_false (show ¬ EC h m (a, b) x from fun q => Or.elim q (fun q => d1 q.1) fun q => d3 q.2.1)]; rfl
              · rw [decide_eq_false d2, decide_eq_false (show ¬ EC h m (a, b) x from fun q => Or.elim q (fun q => d1 q.1) fun q => d2 q.1)]; rfl) (by rw [spec_MorphismOk_l2_eq, dec_lt_f]; rfl)
          obtain ⟨b, s1, s2⟩ := upAllE (n := m.1.length) (e := e) (f := fun i => spec_MorphismOk_l0 g h m m.1 (m.1.length : Int) i) (p := fun k => decide (0 ≤ m.1.getD k 0 ∧ m.1.getD k 0 ≤ h.1 - 1)) (fun k hk => by
            have := K.1.1
            rw [spec_MorphismOk_l0_eq, dec_lt_t hk, inside_lt hk, w64_succ hk (by omega), in_p, w64_id (n := h.1 - 1) (by omega) (by omega)]
            simp only [cond_true, Int.toNat_natCast, Option.bind_some]
            cases decide (0 ≤ m.1.getD k 0 ∧ m.1.getD k 0 ≤ h.1 - 1) <;> rfl) (by
            rw [spec_MorphismOk_l0_eq, dec_lt_f]
            exact r1)
          refine ⟨b, s1, s2.trans ⟨fun q => ⟨G, K, c1, by omega, fun j hj => of_decide_eq_true (q.1 j hj), fun j hj => of_decide_eq_true (r2.1 q.2 j hj)⟩, fun q => ⟨fun j hj => decide_eq_true (q.2.2.2.2.1 j hj), r2.2 fun j hj => decide_eq_true (q.2.2.2.2.2 j hj)⟩⟩⟩
        · rw [ne_t c2]
          exact ⟨false, rfl, ⟨fun k => (by cases k), fun k => absurd (by rw [k.2.2.2.1]) c2⟩⟩
      · rw [ne_t c1]
        exact ⟨false, rfl, ⟨fun k => (by cases k), fun k => absurd k.2.2.1 c1⟩⟩
theorem impl_MorphismOk_p {g h : Gr} {m : Mo} (hg : g.2.length ≤ 1048576) (hh : h.2.length ≤ 1048576) (h1 : m.1.length ≤ 1048576) (h2 : m.2.length ≤ 1048576) : ∃ b, impl_MorphismOk g h m = some b ∧ (b = true ↔ MOk g h m) := by
  obtain ⟨b1, p1, q1⟩ := impl_GraphOk_p (g := g) (by omega)
  obtain ⟨b2, p2, q2⟩ := impl_GraphOk_p (g := h) (by omega)
  rw [impl_MorphismOk_eq, p1, p2]
  cases b1 with
  | false => exact ⟨false, rfl, ⟨fun k => (by cases k), fun k => (by have := q1.2 k.1; cases this)⟩⟩
  | true =>
    cases b2 with
    | false => exact ⟨false, rfl, ⟨fun k => (by cases k), fun k => (by have := q2.2 k.2.1; cases this)⟩⟩
    | true =>
      have G := q1.1 rfl
      have K := q2.1 rfl
      have K1 := K.1.1
      simp only [Option.bind_some, Bool.not_true, cond_false]
      by_cases c1 : (m.1.length : Int) = g.1
      · rw [eq_f c1]
        by_cases c2 : (m.2.length : Int) = (g.2.length : Int)
        · rw [eq_f c2, w64_id (n := h.1 - 1) (by omega) (by omega), w64_id (n := (h.2.length : Int) - 1) (by omega) (by omega)]
          simp only [cond_false]
          obtain ⟨b3, p3, q3⟩ := allWithin_p (l := m.1) (lo := 0) (hi := h.1 - 1) (by omega)
          obtain ⟨b4, p4, q4⟩ := allWithin_p (l := m.2) (lo := -1) (hi := (h.2.length : Int) - 1) (by omega)
          rw [p3, p4]
          cases b3 with
          | false => exact ⟨false, rfl, ⟨fun k => (by cases k), fun k => (by have := q3.2 k.2.2.2.2.1; cases this)⟩⟩
          | true =>
            cases b4 with
            | false =>
              refine ⟨false, rfl, ⟨fun k => (by cases k), fun k => ?_⟩⟩
              have := q4.2 fun j hj => by
                rcases k.2.2.2.2.2 j (by omega) with q | q
                · rw [q.1]; omega
                · have := q.1; omega
              cases this
            | true =>
              have R := q4.1 rfl
              simp only [Option.bind_some, Bool.not_true, cond_false]
              rw [impl_MorphismOk_c3_eq]
              obtain ⟨e, r1, r2⟩ := upAll (n := m.2.length) (f := fun i => impl_MorphismOk_l0 g h m m.2 (m.2.length : Int) i) (p := fun k => decide (EC h m (g.2.getD k (0, 0)) (m.2.getD k 0))) (fun k hk => by
                obtain ⟨a1, a2, a3⟩ := G.1.2.2 k (by omega)
                have c9 : impl_MorphismOk_c9 g h m m.2 (m.2.length : Int) (k : Nat) = impl_MorphismOk_l0 g h m m.2 (m.2.length : Int) ((k + 1 : Nat) : Int) := by
                  rw [impl_MorphismOk_c9_eq, w64_succ hk (by omega)]
                have Rk := R k hk
                rw [impl_MorphismOk_l0_eq, dec_lt_t hk, inside_lt hk, inside_lt (show k < g.2.length by omega)]
                simp only [cond_true, Int.toNat_natCast]
                obtain ⟨⟨a, b⟩, hab⟩ : ∃ e, g.2.getD k (0, 0) = e := ⟨_, rfl⟩
                rw [hab] at a1 a2 a3
                simp only at a1 a2 a3
                simp only [hab]
                rw [inside_int (n := a) a1 (by omega), inside_int (n := b) (by omega) (by omega)]
                simp only [cond_true]
                obtain ⟨x, hx⟩ : ∃ x, m.2.getD k 0 = x := ⟨_, rfl⟩
                simp only [hx] at Rk ⊢
                by_cases d1 : x = -1
                · rw [beq_t d1]
                  by_cases d2 : m.1.getD a.toNat 0 = m.1.getD b.toNat 0
                  · rw [eq_f d2, decide_eq_true (show EC h m (a, b) x from Or.inl ⟨d1, d2⟩), decide_eq_false (show ¬ x ≥ 0 by omega)]; exact c9
                  · rw [ne_t d2, decide_eq_false (show ¬ EC h m (a, b) x from fun q => Or.elim q (fun q => d2 q.2) fun q => by have := q.1.1; omega)]; rfl
                · rw [beq_f d1, decide_eq_true (show x ≥ 0 by omega), inside_int (n := x) (by omega) (by omega)]
                  simp only [cond_false, cond_true]
                  by_cases d3 : (h.2.getD x.toNat (0, 0)).1 = imin (m.1.getD a.toNat 0) (m.1.getD b.toNat 0)
                  · rw [beq_t d3]
                    by_cases d4 : (h.2.getD x.toNat (0, 0)).2 = imax (m.1.getD a.toNat 0) (m.1.getD b.toNat 0)
                    · rw [beq_t d4, decide_eq_true (show EC h m (a, b) x from Or.inr ⟨⟨by omega, by omega⟩, d3, d4⟩)]; exact c9
                    · rw [beq_f d4, decide_eq_false (show ¬ EC h m (a, b) x from fun q => Or.elim q (fun q => d1 q.1) fun q => d4 q.2.2)]; rfl
                  · rw [beq_f d3, decide_eq_false (show ¬ EC h m (a, b) x from fun q => Or.elim q (fun q => d1 q.1) fun q => d3 q.2.1)]; rfl) (by rw [impl_MorphismOk_l0_eq, dec_lt_f]; rfl)
              refine ⟨e, r1, r2.trans ⟨fun q => ⟨G, K, c1, by omega, q3.1 rfl, fun j hj => of_decide_eq_true (q j (by omega))⟩, fun q j hj => decide_eq_true (q.2.2.2.2.2 j (by omega))⟩⟩
        · rw [ne_t c2]
          exact ⟨false, rfl, ⟨fun k => (by cases k), fun k => absurd (by rw [k.2.2.2.1]) c2⟩⟩
      · rw [ne_t c1]
        exact ⟨false, rfl, ⟨fun k => (by cases k), fun k => absurd k.2.2.1 c1⟩⟩
theorem morphismOk_p {g h : Gr} {m : Mo} (hg : g.2.length ≤ 1048576) (hh : h.2.length ≤ 1048576) (h1 : m.1.length ≤ 1048576) (h2 : m.2.length ≤ 1048576) : ∃ b, spec_MorphismOk g h m = some b ∧ impl_MorphismOk g h m = some b ∧ (b = true ↔ MOk g h m) := by
  obtain ⟨b, p1, q1⟩ := spec_MorphismOk_p hg hh h1 h2
  obtain ⟨c, p2, q2⟩ := impl_MorphismOk_p hg hh h1 h2
  have : c = b := by rw [Bool.eq_iff_iff, q1, q2]
  subst this
  exact ⟨c, p1, p2, q1⟩
end Go.Proofs.Ytgncajnfphlgeaa.D

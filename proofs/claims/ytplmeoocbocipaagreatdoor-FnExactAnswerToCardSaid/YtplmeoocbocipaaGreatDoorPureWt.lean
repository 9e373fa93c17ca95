/-
  The witness of a rank and the answer to a removal: both programs alike.
-/
import Derived.Test.YtplmeoocbocipaaGreatDoorPureY
namespace Go.Proofs.YtplmeoocbocipaaGreatDoor.D
open Go Go.Den
set_option linter.unusedVariables false
set_option linter.unusedSimpArgs false
theorem witness_p {g : Gr} {d : List Int} (hg : g.2.length ≤ 1048576) (hd : d.length ≤ 1048576) : ∃ x : List Int × Bool, spec_RankWitness g d = some x ∧ impl_RankWitness g d = some x ∧ x.1.length ≤ 6 := by
  obtain ⟨b, p1, p2, p3⟩ := divisorOk_p hg hd
  rw [spec_RankWitness_eq, impl_RankWitness_eq, spec_l07Ok_eq, p1, p2]
  cases b with
  | false => exact ⟨([], false), rfl, rfl, Nat.zero_le _⟩
  | true =>
    have hD := p3.1 rfl
    have hn := gN hD.1
    obtain ⟨h1, h2⟩ := hD.vec
    obtain ⟨q1, q2⟩ := deg_p hD
    simp only [Option.bind_some, Bool.not_true, cond_false, cond_true, q1, q2]
    by_cases c : sm (N g) (fn d) > 7
    · rw [decide_eq_true c, decide_eq_false (by omega)]
      exact ⟨([], false), rfl, rfl, Nat.zero_le _⟩
    · rw [decide_eq_false c, decide_eq_true (by omega)]
      obtain ⟨r, w, r1, r2, r3, r4⟩ := rank_p hD.1 h1 (h2.mono (by omega)) (by omega)
      simp only [Bool.not_true, cond_false, r1, r2, Option.bind_some]
      refine ⟨(w, true), rfl, rfl, ?_⟩
      have := (eff_mem r3.mem).1
      show w.length ≤ 6
      omega
theorem effW_p {d : List Int} (h : d.length ≤ 1048576) : ∃ b, impl_IsEffective d = some b ∧ spec_IsEffective d = some b ∧ (b = true ↔ ∀ v, v < d.length → 0 ≤ d.getD v 0) := by
  rw [impl_IsEffective_eq, spec_IsEffective_eq]
  have key : ∀ (m k : Nat), k + m = d.length → (∀ v, v < k → 0 ≤ d.getD v 0) → ∃ b, impl_IsEffective_l0 d (d.length : Int) (k : Int) = some b ∧ spec_IsEffective_l0 d (d.length : Int) (k : Int) = some b ∧ (b = true ↔ ∀ v, v < d.length → 0 ≤ d.getD v 0) := by
    intro m
    induction m with
    | zero =>
      intro k hk hp
      have : k = d.length := by omega
      subst this
      rw [impl_IsEffective_l0_eq, spec_IsEffective_l0_eq, dec_lt_f]
      exact ⟨true, rfl, rfl, ⟨fun _ => hp, fun _ => rfl⟩⟩
    | succ m ih =>
      intro k hk hp
      have hk' : k < d.length := by omega
      rw [impl_IsEffective_l0_eq, spec_IsEffective_l0_eq, dec_lt_t hk', inside_lt hk', toNat_n, w64_succ hk' (by omega)]
      simp only [cond_true]
      by_cases c : d.getD k 0 < 0
      · rw [decide_eq_true c]
        exact ⟨false, rfl, rfl, ⟨fun h => (by cases h), fun h => (by have := h k hk'; omega)⟩⟩
      · rw [decide_eq_false c]
        refine ih (k + 1) (by omega) fun v hv => ?_
        rcases Nat.lt_or_ge v k with h | h
        · exact hp v h
        · rw [show v = k by omega]; omega
  exact key d.length 0 (by omega) (fun v hv => by omega)
theorem answer_p {g : Gr} {d e : List Int} (hg : g.2.length ≤ 1048576) (hd : d.length ≤ 1048576) (he : e.length ≤ 1048576) : ∃ x, spec_AnswerTo g d e = some x ∧ impl_AnswerTo g d e = some x ∧ x.1.length ≤ 6 := by
  obtain ⟨L, b, l1, l2, l3, l4, l5⟩ := effIn_p hg hd
  rw [spec_AnswerTo_eq, impl_AnswerTo_eq, l1, l2]
  cases b with
  | false => exact ⟨([], false), rfl, rfl, Nat.zero_le _⟩
  | true =>
    obtain ⟨b, p1, p2, p3⟩ := divisorOk_p hg he
    simp only [Option.bind_some, Bool.not_true, cond_false, p1, p2]
    cases b with
    | false => exact ⟨([], false), rfl, rfl, Nat.zero_le _⟩
    | true =>
      obtain ⟨b, q1, q2, q3⟩ := effW_p he
      simp only [Option.bind_some, Bool.not_true, cond_false, q1, q2]
      cases b with
      | false => exact ⟨([], false), rfl, rfl, Nat.zero_le _⟩
      | true =>
        obtain ⟨hD, h7⟩ := l4.1 rfl
        have hE := p3.1 rfl
        have hS := l5 rfl
        have hn := gN hD.1
        have hel : e.length = N g := by have := hE.2.1; omega
        simp only [Bool.not_true, cond_false]
        have key : ∀ (m i : Nat), i + m = L.length → ∃ x, spec_AnswerTo_l0 e L (L.length : Int) (i : Int) = some x ∧ impl_AnswerTo_l0 e L (L.length : Int) (i : Int) = some x ∧ x.1.length ≤ 6 := by
          intro m
          induction m with
          | zero =>
            intro i hi
            have : i = L.length := by omega
            subst this
            rw [spec_AnswerTo_l0_eq, impl_AnswerTo_l0_eq, dec_lt_f]
            exact ⟨([], false), rfl, rfl, Nat.zero_le _⟩
          | succ m ih =>
            intro i hi
            have hi' : i < L.length := by omega
            have hcl := (hS.2.2 _).1 (getD_mem [] hi')
            have hk : 0 ≤ sm (N g) (fn d) := Win.deg hD.1 ⟨_, hcl⟩
            have hsd := hcl.sd hD.1 (k := (sm (N g) (fn d)).toNat) (by omega) (by omega)
            rw [spec_AnswerTo_l0_eq, impl_AnswerTo_l0_eq, dec_lt_t hi', inside_lt hi', w64_succ hi' (by omega)]
            simp only [cond_true, toNat_n]
            generalize L.getD i [] = r at hcl hsd ⊢
            obtain ⟨v1, v2⟩ := hsd.vec
            obtain ⟨c, c1, c2⟩ := covers_p (a := r) (b := e) (by rw [hel, v1.1]; exact Nat.le_refl _) (by omega)
            obtain ⟨y, y1, y2⟩ := minus_p (by omega) v1 hel (fun w hw => by have := v2 w hw; omega) (fun w hw => by have := hE.2.2 w (by omega); omega)
            obtain ⟨b, b1, b2, b3⟩ := effW_p (d := y) (by rw [y2.1]; omega)
            have hbc : b = c := by
              rw [Bool.eq_iff_iff, b3, c2]
              constructor
              · intro h v hv
                have := h v (by rw [y2.1]; omega)
                rw [y2.2 v (by omega)] at this
                simp only [Mi] at this
                omega
              · intro h v hv
                have hv' : v < N g := by rw [← y2.1]; exact hv
                have := h v (by omega)
                rw [y2.2 v hv']
                simp only [Mi]
                omega
            subst hbc
            rw [c1, y1, Option.bind_some, Option.bind_some, b2, Option.bind_some]
            cases b with
            | false => exact ih (i + 1) (by omega)
            | true => exact ⟨(r, true), rfl, rfl, by show r.length ≤ 6; rw [v1.1]; omega⟩
        exact key L.length 0 (by omega)
theorem law_RankWitness {g : Gr} {d : List Int} (hg : g.2.length ≤ 9223372036854775807) : laws_FnExactRankWitness g d = some true := by
  rw [laws_FnExactRankWitness_eq]
  by_cases c0 : (d.length : Int) > 1048576
  · rw [decide_eq_true c0]; rfl
  obtain ⟨r, k1, k2⟩ := szGraph_p hg (m := 1048576) (by omega) (by omega)
  rw [decide_eq_false c0, k1]
  simp only [cond_false, Option.bind_some]
  by_cases c : r < 0
  · rw [decide_eq_true c]; rfl
  obtain ⟨hl, t1, t2, e1, e2⟩ := law_pre hg (k2 := k2) c0 c
  obtain ⟨x, p1, p2, p3⟩ := witness_p hl (d := d) (by omega)
  have e3 : laws_eqIntS x.1 x.1 = some true := true_of (eqIntS_p (by omega)) rfl
  obtain ⟨q1, m1, n1⟩ := markGraph_p (a := g) (m := 1) (by omega) (by omega)
  have m2 := markIntS_p (a := d) (m := q1.1) (by omega) (by omega)
  have m3 := markIntS_p (a := x.1) (m := 1) (by omega) (by omega)
  have m4 := heldIntS_p (m := 1) (n := x.1.length) (by omega) (by omega)
  have z1 : ¬ q1.1 + (d.length : Int) < 0 := by omega
  have z2 : ¬ (1 : Int) + (x.1.length : Int) < 0 := by omega
  rw [decide_eq_false c]
  simp only [t1, t2, e1, e2, e3, p1, p2, Option.bind_some, cond_false, Bool.not_true, beq_self_eq_true, bne_self_eq_false, laws_FnExactRankWitness_c13_eq, m1, m2, m3, m4, decide_eq_false z1, decide_eq_false z2, laws_FnExactRankWitness_c26_eq]
theorem law_AnswerTo {g : Gr} {d e : List Int} (hg : g.2.length ≤ 9223372036854775807) : laws_FnExactAnswerTo g d e = some true := by
  rw [laws_FnExactAnswerTo_eq]
  by_cases c0 : (d.length : Int) > 1048576
  · rw [decide_eq_true c0]; rfl
  by_cases c1 : (e.length : Int) > 1048576
  · rw [decide_eq_false c0, decide_eq_true c1]; rfl
  obtain ⟨r, k1, k2⟩ := szGraph_p hg (m := 1048576) (by omega) (by omega)
  rw [decide_eq_false c0, decide_eq_false c1, k1]
  simp only [cond_false, Option.bind_some]
  by_cases c : r < 0
  · rw [decide_eq_true c]; rfl
  obtain ⟨hl, t1, t2, e1, e2⟩ := law_pre hg (k2 := k2) c0 c
  have t3 := toIntS_p (a := e) (by omega)
  have e4 : laws_eqIntS e e = some true := true_of (eqIntS_p (by omega)) rfl
  obtain ⟨x, p1, p2, p3⟩ := answer_p hl (d := d) (e := e) (by omega) (by omega)
  have e3 : laws_eqIntS x.1 x.1 = some true := true_of (eqIntS_p (by omega)) rfl
  obtain ⟨q1, m1, n1⟩ := markGraph_p (a := g) (m := 1) (by omega) (by omega)
  have m2 := markIntS_p (a := d) (m := q1.1) (by omega) (by omega)
  have m5 := markIntS_p (a := e) (m := q1.1 + (d.length : Int)) (by omega) (by omega)
  have m3 := markIntS_p (a := x.1) (m := 1) (by omega) (by omega)
  have m4 := heldIntS_p (m := 1) (n := x.1.length) (by omega) (by omega)
  have z1 : ¬ q1.1 + (d.length : Int) + (e.length : Int) < 0 := by omega
  have z2 : ¬ (1 : Int) + (x.1.length : Int) < 0 := by omega
  rw [decide_eq_false c]
  simp only [t1, t2, t3, e1, e2, e3, e4, p1, p2, Option.bind_some, cond_false, Bool.not_true, beq_self_eq_true, bne_self_eq_false, laws_FnExactAnswerTo_c14_eq, m1, m2, m3, m4, m5, decide_eq_false z1, decide_eq_false z2, laws_FnExactAnswerTo_c29_eq, laws_FnExactAnswerTo_c41_eq]
end Go.Proofs.YtplmeoocbocipaaGreatDoor.D

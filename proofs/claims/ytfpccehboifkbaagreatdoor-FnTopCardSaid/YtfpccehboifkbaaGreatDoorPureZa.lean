/-
  Gaps, and the lines that tell of ranks: both programs alike.
-/
import Derived.Test.YtfpccehboifkbaaGreatDoorPureY
namespace Go.Proofs.YtfpccehboifkbaaGreatDoor.D
open Go Go.Den
set_option linter.unusedVariables false
set_option linter.unusedSimpArgs false
/-- the genus -/
def gn (g : Gr) : Int := (g.2.length : Int) - (N g : Int) + 1
theorem genus_v {g : Gr} (hg : GOk g) : spec_GenusOf g = some (gn g) ∧ impl_GenusOf g = some (gn g) := by
  have hl : g.2.length ≤ 1048576 := by have := hg.1.2.1; omega
  obtain ⟨b, p1, p2, p3⟩ := graphOk_p (g := g) (by omega)
  have hb := p3.2 hg
  have hn := gN hg
  have h12 := hg.1.2.1
  rw [spec_GenusOf_eq, impl_GenusOf_eq, p1, p2, hb]
  simp only [Option.bind_some, Bool.not_true, cond_false]
  rw [w64_id (n := (g.2.length : Int) - g.1) (by omega) (by omega), w64_id (by omega) (by omega)]
  unfold gn
  rw [hn.1]
  exact ⟨rfl, rfl⟩
theorem gapsAt_p {g : Gr} {a : Int} (hg : g.2.length ≤ 1048576) : ∃ x, spec_GapsAt g a = some x ∧ impl_GapsAt g a = some x ∧ x.1.length ≤ 7 ∧ (x.2 = true → GOk g) := by
  obtain ⟨x, x1, x2, x3, x4, x5⟩ := ranksAt_p (a := a) hg
  obtain ⟨b, p1, p2, p3⟩ := graphOk_p (g := g) (by omega)
  have hv : impl_isVertex g a = some x.2 := by
    rw [impl_isVertex_eq, p2]
    cases b with
    | false =>
      have : x.2 = false := Bool.eq_false_iff.2 fun h => by have := p3.2 (x4.1 h).1; cases this
      rw [this]; rfl
    | true =>
      have hn := gN (p3.1 rfl)
      rw [Option.bind_some, cond_true, within_p, w64_id (by omega) (by omega), Option.bind_some]
      congr 1
      rw [Bool.eq_iff_iff, decide_eq_true_iff, x4]
      exact ⟨fun h => ⟨p3.1 rfl, h.1, by omega⟩, fun h => ⟨h.2.1, by omega⟩⟩
  rw [spec_GapsAt_eq, impl_GapsAt_eq, x1, hv]
  simp only [Option.bind_some]
  cases hx : x.2 with
  | false => exact ⟨_, rfl, rfl, Nat.zero_le _, fun k => by cases k⟩
  | true =>
    have hG := (x4.1 hx).1
    obtain ⟨g1, g2⟩ := genus_v hG
    have hn := gN hG
    have h12 := hG.1.2.1
    obtain ⟨l8, _⟩ := x5 hx
    simp only [Bool.not_true, cond_false, g1, g2, x2, Option.bind_some]
    by_cases c : gn g > 3
    · rw [decide_eq_true c]; exact ⟨_, rfl, rfl, Nat.zero_le _, fun k => by cases k⟩
    · rw [decide_eq_false c]
      simp only [cond_false]
      have hgn : -6 ≤ gn g := by unfold gn; omega
      have key : ∀ (m k : Nat) (s : List Int), k + m = 7 → 1 ≤ k → s.length ≤ k → ∃ y, spec_GapsAt_l0 g x.1 s (k : Int) = some (y, true) ∧ impl_GapsAt_l0 g x.1 s (k : Int) = some (y, true) ∧ y.length ≤ 7 := by
        intro m
        induction m with
        | zero =>
          intro k s hk hk1 hs
          rw [spec_GapsAt_l0_eq, impl_GapsAt_l0_eq, g1, g2, Option.bind_some, Option.bind_some, w64_id (n := 2 * gn g) (by omega) (by omega), decide_eq_false (by omega)]
          exact ⟨s, rfl, rfl, by omega⟩
        | succ m ih =>
          intro k s hk hk1 hs
          rw [spec_GapsAt_l0_eq, impl_GapsAt_l0_eq, g1, g2, Option.bind_some, Option.bind_some, w64_id (n := 2 * gn g) (by omega) (by omega)]
          by_cases c2 : (k : Int) ≤ 2 * gn g
          · rw [decide_eq_true c2, inside_lt (by omega), w64_id (n := (k : Int) - 1) (by omega) (by omega), show (k : Int) - 1 = ((k - 1 : Nat) : Int) by omega, inside_lt (by omega), w64_id (n := (k : Int) + 1) (by omega) (by omega)]
            simp only [cond_true]
            cases (x.1.getD (k : Int).toNat 0 == x.1.getD ((k - 1 : Nat) : Int).toNat 0) with
            | false => exact ih (k + 1) s (by omega) (by omega) (by omega)
            | true =>
              rw [cond_true, cond_true, decide_eq_true (by rw [room]; simp only [List.length_singleton]; omega), cond_true, cond_true]
              exact ih (k + 1) _ (by omega) (by omega) (by rw [List.length_append]; simp only [List.length_singleton]; omega)
          · rw [decide_eq_false c2]
            exact ⟨s, rfl, rfl, by omega⟩
      obtain ⟨y, y1, y2, y3⟩ := key 6 1 [] rfl (Nat.le_refl _) (Nat.zero_le _)
      exact ⟨_, y1, y2, y3, fun _ => hG⟩
theorem weier_p {g : Gr} {a : Int} (hg : g.2.length ≤ 1048576) : ∃ x, spec_IsWeierstrass g a = some x ∧ impl_IsWeierstrass g a = some x := by
  obtain ⟨x, x1, x2, x3, x4⟩ := gapsAt_p (a := a) hg
  rw [spec_IsWeierstrass_eq, impl_IsWeierstrass_eq, x1, x2]
  simp only [Option.bind_some]
  cases hx : x.2 with
  | false => exact ⟨_, rfl, rfl⟩
  | true =>
    obtain ⟨g1, g2⟩ := genus_v (x4 hx)
    simp only [cond_true]
    by_cases c : (x.1.length : Int) > 0
    · rw [decide_eq_true c, w64_id (n := (x.1.length : Int) - 1) (by omega) (by omega), show (x.1.length : Int) - 1 = ((x.1.length - 1 : Nat) : Int) by omega, inside_lt (by omega), g1, g2]
      exact ⟨_, rfl, rfl⟩
    · rw [decide_eq_false c]
      exact ⟨_, rfl, rfl⟩
theorem witness_p {g : Gr} {d : List Int} (hg : g.2.length ≤ 1048576) (hd : d.length ≤ 1048576) : ∃ w b, spec_RankWitness g d = some (w, b) ∧ impl_RankWitness g d = some (w, b) ∧ w.length ≤ 6 ∧ (∀ x ∈ w, I64 x) ∧ (b = true ↔ DOk g d ∧ sm (N g) (fn d) ≤ 7) ∧ (b = true → ∃ k, RK g (fn d) k w) := by
  obtain ⟨r, b, r1, r2, r3, r4, r5, r6⟩ := rankOf_p hg hd
  obtain ⟨b', p1, p2, p3⟩ := divisorOk_p hg hd
  rw [spec_RankWitness_eq, impl_RankWitness_eq, spec_l07Ok_eq, p1, p2]
  cases b' with
  | false =>
    exact ⟨[], false, rfl, rfl, Nat.zero_le _, fun x hx => (List.not_mem_nil hx).elim, ⟨fun k => (by cases k), fun k => (by have := p3.2 k.1; cases this)⟩, fun k => by cases k⟩
  | true =>
    have hD := p3.1 rfl
    obtain ⟨q1, q2⟩ := deg_p hD
    simp only [Option.bind_some, Bool.not_true, cond_false, cond_true, q1, q2]
    by_cases c : sm (N g) (fn d) > 7
    · rw [decide_eq_true c, decide_eq_false (by omega)]
      exact ⟨[], false, rfl, rfl, Nat.zero_le _, fun x hx => (List.not_mem_nil hx).elim, ⟨fun k => (by cases k), fun k => (by omega)⟩, fun k => by cases k⟩
    · rw [decide_eq_false c, decide_eq_true (by omega)]
      have hb := r3.2 ⟨hD, by omega⟩
      obtain ⟨k, w, e1, e2, e3, e4, e5⟩ := r6 hb
      have hs := eff_Sd hD.1 (k := k) (by omega) e2.mem
      have hn := gN hD.1
      simp only [Bool.not_true, cond_false, e4, e5, Option.bind_some]
      exact ⟨w, true, rfl, rfl, by rw [hs.1]; omega, hs.i64, ⟨fun _ => ⟨hD, by omega⟩, fun _ => rfl⟩, fun _ => ⟨k, e2⟩⟩
theorem rankLine_p {g : Gr} {d : List Int} (hg : g.2.length ≤ 1048576) (hd : d.length ≤ 1048576) : ∃ x, spec_RankLine g d = some x ∧ impl_RankLine g d = some x := by
  obtain ⟨r, b, r1, r2, r3, r4, r5, r6⟩ := rankOf_p hg hd
  obtain ⟨w, b', w1, w2, w3, w4, _⟩ := witness_p hg hd
  rw [spec_RankLine_eq, impl_RankLine_eq, r1, r2, w1, w2]
  cases b with
  | false => exact ⟨_, rfl, rfl⟩
  | true =>
    have hr : I64 r := by unfold I64; omega
    have s1 := fi_size hr
    have s2 := fd_size (d := w) (by omega) w4
    simp only [Option.bind_some, Bool.not_true, cond_false, spec_FormatInt_p hr, impl_FormatInt_p hr, spec_FormatDivisor_p (d := w) (by omega) w4, impl_FormatDivisor_p (d := w) (by omega) w4]
    have z1 : (⟨#[114, 97, 110, 107, 32]⟩ : ByteArray).size = 5 := rfl
    have z2 : (⟨#[32, 98, 117, 116, 32, 110, 111, 116, 32]⟩ : ByteArray).size = 9 := rfl
    rw [decide_eq_true (by omega), decide_eq_true (by rw [size_app]; omega), decide_eq_true (by rw [size_app, size_app]; omega)]
    exact ⟨_, rfl, rfl⟩
theorem i00 : I64 0 := by unfold I64; omega
theorem riemannLine_p {g : Gr} {d : List Int} (hg : g.2.length ≤ 1048576) (hd : d.length ≤ 1048576) : ∃ x, spec_RiemannLine g d = some x ∧ impl_RiemannLine g d = some x := by
  obtain ⟨x, b, h1, h2, h3, h4, h5, h6⟩ := residual_p hg hd
  obtain ⟨s, e, s1, s2, s3, s4, s5, _⟩ := rankOf_p (g := g) (d := x) hg (by omega)
  obtain ⟨r, c, r1, r2, r3, r4, r5, _⟩ := rankOf_p hg hd
  have hrr : ∃ q, spec_RiemannRoch g d = some q ∧ impl_RiemannRoch g d = some q ∧ I64 q.1 ∧ I64 q.2.1 ∧ (q.2.2 = true → DOk g d) := by
    rw [spec_RiemannRoch_eq, impl_RiemannRoch_eq, h1, h2, r1, r2]
    simp only [Option.bind_some, s1, s2]
    cases b with
    | false =>
      have : c = false := Bool.eq_false_iff.2 fun h => by have := h4.2 (r3.1 h).1; cases this
      subst this
      exact ⟨_, rfl, rfl, i00, i00, fun k => by cases k⟩
    | true =>
      cases c with
      | false => exact ⟨_, rfl, rfl, i00, i00, fun k => by cases k⟩
      | true =>
        cases e with
        | false => exact ⟨_, rfl, rfl, i00, i00, fun k => by cases k⟩
        | true => exact ⟨_, rfl, rfl, by show I64 r; unfold I64; omega, by show I64 s; unfold I64; omega, fun _ => (r3.1 rfl).1⟩
  obtain ⟨q, q1, q2, q3, q4, q5⟩ := hrr
  rw [spec_RiemannLine_eq, impl_RiemannLine_eq, q1, q2]
  simp only [Option.bind_some]
  cases hq : q.2.2 with
  | false => exact ⟨_, rfl, rfl⟩
  | true =>
    have hD := q5 hq
    obtain ⟨d1, d2⟩ := deg_p hD
    obtain ⟨g1, g2⟩ := genus_v hD.1
    have hb := deg_bd hD.1 (by omega) hD.vec.2
    have i1 : I64 (sm (N g) (fn d)) := by unfold I64; omega
    have hn := gN hD.1
    have h12 := hD.1.1.2.1
    have i2 : I64 (gn g) := by unfold I64 gn; omega
    have t1 := fi_size q3
    have t2 := fi_size q4
    have t3 := fi_size i1
    have t4 := fi_size i2
    simp only [Bool.not_true, cond_false, Option.bind_some, d1, d2, g1, g2, spec_FormatInt_p q3, impl_FormatInt_p q3, spec_FormatInt_p q4, impl_FormatInt_p q4, spec_FormatInt_p i1, impl_FormatInt_p i1, spec_FormatInt_p i2, impl_FormatInt_p i2]
    have z1 : (⟨#[32, 45, 32]⟩ : ByteArray).size = 3 := rfl
    have z2 : (⟨#[32, 61, 32]⟩ : ByteArray).size = 3 := rfl
    have z3 : (⟨#[32, 43, 32, 49, 32, 45, 32]⟩ : ByteArray).size = 7 := rfl
    simp only [size_app, z1, z2, z3]
    rw [decide_eq_true (show (fi q.1).size + 3 ≤ 9223372036854775807 by omega), decide_eq_true (show (fi q.1).size + 3 + (fi q.2.1).size ≤ 9223372036854775807 by omega), decide_eq_true (show (fi q.1).size + 3 + (fi q.2.1).size + 3 ≤ 9223372036854775807 by omega),
      decide_eq_true (show (fi q.1).size + 3 + (fi q.2.1).size + 3 + (fi (sm (N g) (fn d))).size ≤ 9223372036854775807 by omega), decide_eq_true (show (fi q.1).size + 3 + (fi q.2.1).size + 3 + (fi (sm (N g) (fn d))).size + 7 ≤ 9223372036854775807 by omega),
      decide_eq_true (show (fi q.1).size + 3 + (fi q.2.1).size + 3 + (fi (sm (N g) (fn d))).size + 7 + (fi (gn g)).size ≤ 9223372036854775807 by omega)]
    exact ⟨_, rfl, rfl⟩
theorem law_GapsAt {g : Gr} {a : Int} (hg : g.2.length ≤ 9223372036854775807) : laws_FnExactGapsAt g a = some true := by
  rw [laws_FnExactGapsAt_eq]
  obtain ⟨r, k1, k2⟩ := szGraph_p hg (m := 1048576) (by omega) (by omega)
  rw [k1]
  simp only [cond_false, Option.bind_some]
  by_cases c : r < 0
  · rw [decide_eq_true c]; rfl
  have hl : g.2.length ≤ 1048576 := by have := k2 (by omega); omega
  have t1 := toGraph_p (a := g) hl
  have e1 : laws_eqGraph g g = some true := true_of (eqGraph_p hg) rfl
  obtain ⟨x, p1, p2, p3, _⟩ := gapsAt_p (a := a) hl
  have e3 : laws_eqIntS x.1 x.1 = some true := true_of (eqIntS_p (by omega)) rfl
  obtain ⟨q1, m1, n1⟩ := markGraph_p (a := g) (m := 1) (by omega) (by omega)
  have m3 := markIntS_p (a := x.1) (m := 1) (by omega) (by omega)
  have m4 := heldIntS_p (m := 1) (n := x.1.length) (by omega) (by omega)
  have z1 : ¬ q1.1 < 0 := by omega
  have z2 : ¬ (1 : Int) + (x.1.length : Int) < 0 := by omega
  rw [decide_eq_false c]
  simp only [t1, e1, e3, p1, p2, Option.bind_some, cond_false, Bool.not_true, beq_self_eq_true, bne_self_eq_false, laws_FnExactGapsAt_c13_eq, m1, m3, m4, decide_eq_false z1, decide_eq_false z2, laws_FnExactGapsAt_c25_eq]
theorem law_IsWeierstrass {g : Gr} {a : Int} (hg : g.2.length ≤ 9223372036854775807) : laws_FnExactIsWeierstrass g a = some true := by
  rw [laws_FnExactIsWeierstrass_eq]
  obtain ⟨r, k1, k2⟩ := szGraph_p hg (m := 1048576) (by omega) (by omega)
  rw [k1]
  simp only [cond_false, Option.bind_some]
  by_cases c : r < 0
  · rw [decide_eq_true c]; rfl
  have hl : g.2.length ≤ 1048576 := by have := k2 (by omega); omega
  have t1 := toGraph_p (a := g) hl
  have e1 : laws_eqGraph g g = some true := true_of (eqGraph_p hg) rfl
  obtain ⟨x, p1, p2⟩ := weier_p (a := a) hl
  rw [decide_eq_false c]
  simp only [t1, e1, p1, p2, Option.bind_some, cond_false, Bool.not_true, beq_self_eq_true, bne_self_eq_false]
theorem law_RankLine {g : Gr} {d : List Int} (hg : g.2.length ≤ 9223372036854775807) : laws_FnExactRankLine g d = some true := by
  rw [laws_FnExactRankLine_eq]
  by_cases c0 : (d.length : Int) > 1048576
  · rw [decide_eq_true c0]; rfl
  obtain ⟨r, k1, k2⟩ := szGraph_p hg (m := 1048576) (by omega) (by omega)
  rw [decide_eq_false c0, k1]
  simp only [cond_false, Option.bind_some]
  by_cases c : r < 0
  · rw [decide_eq_true c]; rfl
  obtain ⟨hl, t1, t2, e1, e2⟩ := law_pre hg (k2 := k2) c0 c
  obtain ⟨x, p1, p2⟩ := rankLine_p hl (d := d) (by omega)
  rw [decide_eq_false c]
  simp only [t1, t2, e1, e2, p1, p2, Option.bind_some, cond_false, Bool.not_true, beq_self_eq_true, bne_self_eq_false]
theorem law_RiemannLine {g : Gr} {d : List Int} (hg : g.2.length ≤ 9223372036854775807) : laws_FnExactRiemannLine g d = some true := by
  rw [laws_FnExactRiemannLine_eq]
  by_cases c0 : (d.length : Int) > 1048576
  · rw [decide_eq_true c0]; rfl
  obtain ⟨r, k1, k2⟩ := szGraph_p hg (m := 1048576) (by omega) (by omega)
  rw [decide_eq_false c0, k1]
  simp only [cond_false, Option.bind_some]
  by_cases c : r < 0
  · rw [decide_eq_true c]; rfl
  obtain ⟨hl, t1, t2, e1, e2⟩ := law_pre hg (k2 := k2) c0 c
  obtain ⟨x, p1, p2⟩ := riemannLine_p hl (d := d) (by omega)
  rw [decide_eq_false c]
  simp only [t1, t2, e1, e2, p1, p2, Option.bind_some, cond_false, Bool.not_true, beq_self_eq_true, bne_self_eq_false]
end Go.Proofs.YtfpccehboifkbaaGreatDoor.D

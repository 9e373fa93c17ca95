/-
  Divisors along morphisms: both say alike what is pushed forward and pulled back.
-/
import Derived.Test.YtkedbhndiokegaaPureH
namespace Go.Proofs.Ytkedbhndiokegaa.D
open Go Go.Den
set_option linter.unusedVariables false
set_option linter.unusedSimpArgs false
def DOk (g : Gr) (d : List Int) : Prop := GOk g ∧ (d.length : Int) = g.1 ∧ ∀ j, j < d.length → -60 ≤ d.getD j 0 ∧ d.getD j 0 ≤ 60
theorem divisorOk_p {g : Gr} {d : List Int} (hg : g.2.length ≤ 1048576) (hd : d.length ≤ 1048576) : ∃ b, spec_DivisorOk g d = some b ∧ impl_DivisorOk g d = some b ∧ (b = true ↔ DOk g d) := by
  obtain ⟨b, p1, p2, p3⟩ := graphOk_p (g := g) (by omega)
  rw [spec_DivisorOk_eq, impl_DivisorOk_eq, p1, p2]
  cases b with
  | false => exact ⟨false, rfl, rfl, ⟨fun k => (by cases k), fun k => (by have := p3.2 k.1; cases this)⟩⟩
  | true =>
    simp only [Option.bind_some, Bool.not_true, cond_false, cond_true]
    by_cases c : (d.length : Int) = g.1
    · rw [eq_f c, beq_t c]
      obtain ⟨b, q1, q2⟩ := allWithin_p (l := d) (lo := -60) (hi := 60) (by omega)
      obtain ⟨b', r1, r2⟩ := upAll (n := d.length) (f := fun i => spec_DivisorOk_l0 d (d.length : Int) i) (p := fun k => decide (-60 ≤ d.getD k 0 ∧ d.getD k 0 ≤ 60)) (fun k hk => by
        rw [spec_DivisorOk_l0_eq, dec_lt_t hk, inside_lt hk, w64_succ hk (by omega)]
        simp only [cond_true, Int.toNat_natCast, in_p, Option.bind_some]
        cases decide (-60 ≤ d.getD k 0 ∧ d.getD k 0 ≤ 60) <;> rfl) (by rw [spec_DivisorOk_l0_eq, dec_lt_f]; rfl)
      have : b' = b := by
        rw [Bool.eq_iff_iff, q2, r2]
        exact ⟨fun h j hj => of_decide_eq_true (h j hj), fun h j hj => decide_eq_true (h j hj)⟩
      subst this
      refine ⟨b', r1, ?_, q2.trans ⟨fun h => ⟨p3.1 rfl, c, h⟩, fun h => h.2.2⟩⟩
      rw [q1]; rfl
    · rw [ne_t c, beq_f c]
      exact ⟨false, rfl, rfl, ⟨fun k => (by cases k), fun k => absurd k.2.1 c⟩⟩
theorem pushForward_p {g h : Gr} {m : Mo} {d : List Int} (hg : g.2.length ≤ 1048576) (hh : h.2.length ≤ 1048576) (h1 : m.1.length ≤ 1048576) (h2 : m.2.length ≤ 1048576) (hd : d.length ≤ 1048576) :
    ∃ r, spec_PushForward g h m d = some r ∧ impl_PushForward g h m d = some r ∧ r.1.length ≤ 12 := by
  obtain ⟨b, p1, p2, p3⟩ := harmonic_p hg hh h1 h2
  rw [spec_PushForward_eq, impl_PushForward_eq, p1, p2]
  cases b with
  | false => exact ⟨_, rfl, rfl, Nat.zero_le _⟩
  | true =>
    obtain ⟨b, q1, q2, q3⟩ := divisorOk_p hg hd
    rw [q1, q2]
    cases b with
    | false => exact ⟨_, rfl, rfl, Nat.zero_le _⟩
    | true =>
      obtain ⟨⟨G, K, M1, M2, M3, M4⟩, A⟩ := p3.1 rfl
      obtain ⟨_, D1, D2⟩ := q3.1 rfl
      have hn := K.1.1
      have hr : (decide (0 ≤ h.1) && decide (h.1 ≤ (room : Int))) = true := by
        rw [decide_eq_true (show 0 ≤ h.1 by omega), decide_eq_true (show h.1 ≤ (room : Int) by unfold room; omega)]; rfl
      simp only [Option.bind_some, Bool.not_true, cond_false, hr, cond_true]
      obtain ⟨a1, a2⟩ := upFold (n := d.length) (f := fun s i => spec_PushForward_l0 m s d (d.length : Int) i) (g := fun k s => s.set (m.1.getD k 0).toNat (w64 (s.getD (m.1.getD k 0).toNat 0 + d.getD k 0))) (fun _ s => s.length = h.1.toNat) (fun k s hk hs => by
        have hv := M3 k (by omega)
        refine ⟨?_, by simp [hs]⟩
        rw [spec_PushForward_l0_eq, dec_lt_t hk, inside_lt hk, inside_lt (show k < m.1.length by omega), w64_succ hk (by omega)]
        simp only [cond_true, Int.toNat_natCast]
        rw [inside_int (n := m.1.getD k 0) hv.1 (by omega)]
        rfl) (s := List.replicate h.1.toNat 0) (by simp)
      obtain ⟨b1, b2⟩ := upFold (n := d.length) (f := fun s i => impl_PushForward_l0 m s d (d.length : Int) i) (g := fun k s => s.set (m.1.getD k 0).toNat (w64 (s.getD (m.1.getD k 0).toNat 0 + d.getD k 0))) (fun _ s => s.length = h.1.toNat) (fun k s hk hs => by
        have hv := M3 k (by omega)
        refine ⟨?_, by simp [hs]⟩
        rw [impl_PushForward_l0_eq, dec_lt_t hk, inside_lt hk, inside_lt (show k < m.1.length by omega), w64_succ hk (by omega)]
        simp only [cond_true, Int.toNat_natCast]
        rw [inside_int (n := m.1.getD k 0) hv.1 (by omega)]
        rfl) (s := List.replicate h.1.toNat 0) (by simp)
      refine ⟨(itr (fun k s => s.set (m.1.getD k 0).toNat (w64 (s.getD (m.1.getD k 0).toNat 0 + d.getD k 0))) d.length (List.replicate h.1.toNat 0), true), a1.trans ?_, b1.trans ?_, by simp only; omega⟩
      · rw [spec_PushForward_l0_eq, dec_lt_f]; rfl
      · rw [impl_PushForward_l0_eq, dec_lt_f]; rfl
theorem pullBack_p {g h : Gr} {m : Mo} {d : List Int} (hg : g.2.length ≤ 1048576) (hh : h.2.length ≤ 1048576) (h1 : m.1.length ≤ 1048576) (h2 : m.2.length ≤ 1048576) (hd : d.length ≤ 1048576) :
    ∃ r, spec_PullBack g h m d = some r ∧ impl_PullBack g h m d = some r ∧ r.1.length ≤ 12 := by
  obtain ⟨b, p1, p2, p3⟩ := harmonic_p hg hh h1 h2
  rw [spec_PullBack_eq, impl_PullBack_eq, p1, p2]
  cases b with
  | false => exact ⟨_, rfl, rfl, Nat.zero_le _⟩
  | true =>
    obtain ⟨b, q1, q2, q3⟩ := divisorOk_p hh hd
    rw [q1, q2]
    cases b with
    | false => exact ⟨_, rfl, rfl, Nat.zero_le _⟩
    | true =>
      obtain ⟨⟨G, K, M1, M2, M3, M4⟩, A⟩ := p3.1 rfl
      obtain ⟨_, D1, D2⟩ := q3.1 rfl
      have hn := G.1.1
      have him : ∀ k : Nat, k < m.1.length → impl_HorizontalOf g h m (k : Int) = some (hor (mult g h m k h.2.length)) := fun k hk => by
        obtain ⟨r, s1, s2⟩ := horizontalOf_p hg hh h1 h2 (v := (k : Int))
        rw [spec_HorizontalOf_eq, p1, in_p, w64_id (n := g.1 - 1) (by omega) (by omega)] at s1
        simp only [Option.bind_some, Bool.not_true, cond_false] at s1
        rw [decide_eq_true (show 0 ≤ (k : Int) ∧ (k : Int) ≤ g.1 - 1 from ⟨by omega, by omega⟩), spec_hor_p M2 G.1.2.1 K.1.2.1 hk] at s1
        simp only [Option.bind_some, Bool.not_true, cond_false] at s1
        rw [s2, ← s1]
      simp only [Option.bind_some, Bool.not_true, cond_false]
      obtain ⟨a1, a2⟩ := upFold (n := m.1.length) (f := fun s i => spec_PullBack_l0 d g h m s m.1 (m.1.length : Int) i) (g := fun k (s : List Int) => s ++ [w64 (hor (mult g h m k h.2.length) * d.getD (m.1.getD k 0).toNat 0)]) (fun k s => s.length = k) (fun k s hk hs => by
        have hv := M3 k hk
        refine ⟨?_, by simp [hs]⟩
        rw [spec_PullBack_l0_eq, dec_lt_t hk, inside_lt hk, spec_hor_p M2 G.1.2.1 K.1.2.1 hk, w64_succ hk (by omega)]
        simp only [cond_true, Int.toNat_natCast, Option.bind_some]
        rw [inside_int (n := m.1.getD k 0) hv.1 (by omega), room1 (by omega)]
        rfl) (s := []) rfl
      obtain ⟨b1, b2⟩ := upFold (n := m.1.length) (f := fun s i => impl_PullBack_l0 d g h m s m.1 (m.1.length : Int) i) (g := fun k (s : List Int) => s ++ [w64 (hor (mult g h m k h.2.length) * d.getD (m.1.getD k 0).toNat 0)]) (fun k s => s.length = k) (fun k s hk hs => by
        have hv := M3 k hk
        refine ⟨?_, by simp [hs]⟩
        rw [impl_PullBack_l0_eq, dec_lt_t hk, inside_lt hk, him k hk, w64_succ hk (by omega)]
        simp only [cond_true, Int.toNat_natCast, Option.bind_some]
        rw [inside_int (n := m.1.getD k 0) hv.1 (by omega), room1 (by omega)]
        rfl) (s := []) rfl
      refine ⟨(itr (fun k (s : List Int) => s ++ [w64 (hor (mult g h m k h.2.length) * d.getD (m.1.getD k 0).toNat 0)]) m.1.length [], true), a1.trans ?_, b1.trans ?_, by simp only; omega⟩
      · rw [spec_PullBack_l0_eq, dec_lt_f]; rfl
      · rw [impl_PullBack_l0_eq, dec_lt_f]; rfl
theorem law_PushForward {g h : Gr} {m : Mo} {d : List Int} (hg : g.2.length ≤ 9223372036854775807) (hh : h.2.length ≤ 9223372036854775807) (h1 : m.1.length ≤ 9223372036854775807) (h2 : m.2.length ≤ 9223372036854775807) : laws_FnExactPushForward g h m d = some true := by
  rw [laws_FnExactPushForward_eq]
  by_cases c0 : (d.length : Int) > 1048576
  · rw [decide_eq_true c0]; rfl
  rw [decide_eq_false c0]
  simp only [cond_false]
  obtain ⟨r, k1, k2⟩ := szGraph_p hg (m := 1048576) (by omega) (by omega)
  rw [k1]
  simp only [Option.bind_some]
  by_cases c : r < 0
  · rw [decide_eq_true c]; rfl
  rw [decide_eq_false c]
  simp only [cond_false]
  have k3 := k2 (by omega)
  obtain ⟨r2, j1, j2⟩ := szGraph_p hh (m := r) (by omega) (by omega)
  rw [j1]
  simp only [Option.bind_some]
  by_cases c2 : r2 < 0
  · rw [decide_eq_true c2]; rfl
  rw [decide_eq_false c2]
  simp only [cond_false]
  have j3 := j2 (by omega)
  obtain ⟨r3, i1, i2⟩ := szMorphism_p h1 h2 (m := r2) (by omega) (by omega)
  rw [i1]
  simp only [Option.bind_some]
  by_cases c3 : r3 < 0
  · rw [decide_eq_true c3]; rfl
  rw [decide_eq_false c3]
  simp only [cond_false]
  have i3 := i2 (by omega)
  obtain ⟨x, p1, p2, p3⟩ := pushForward_p (g := g) (h := h) (m := m) (d := d) (by omega) (by omega) (by omega) (by omega) (by omega)
  have t1 := toGraph_p (a := g) (by omega)
  have t2 := toGraph_p (a := h) (by omega)
  have t3 := toMorphism_p (a := m) (by omega) (by omega)
  have t4 := toIntS_p (a := d) (by omega)
  have e1 : laws_eqGraph g g = some true := true_of (eqGraph_p hg) rfl
  have e2 : laws_eqGraph h h = some true := true_of (eqGraph_p hh) rfl
  have e3 : laws_eqMorphism m m = some true := true_of (eqMorphism_p h1 h2) rfl
  have e4 : laws_eqIntS d d = some true := true_of (eqIntS_p (by omega)) rfl
  have e5 : laws_eqIntS x.1 x.1 = some true := true_of (eqIntS_p (by omega)) rfl
  obtain ⟨q1, m1, n1⟩ := markGraph_p (a := g) (m := 1) (by omega) (by omega)
  obtain ⟨q2, m2, n2⟩ := markGraph_p (a := h) (m := q1.1) (by omega) (by omega)
  have m3 := markMorphism_p (a := m) (m := q2.1) (by omega) (by omega)
  have m4 := markIntS_p (a := d) (m := q2.1 + (m.1.length : Int) + (m.2.length : Int)) (by omega) (by omega)
  have m5 := markIntS_p (a := x.1) (m := 1) (by omega) (by omega)
  have m6 := heldIntS_p (m := 1) (n := x.1.length) (by omega) (by omega)
  have z1 : ¬ q2.1 + (m.1.length : Int) + (m.2.length : Int) + (d.length : Int) < 0 := by omega
  have z2 : ¬ (1 : Int) + (x.1.length : Int) < 0 := by omega
  simp only [t1, t2, t3, t4, Option.bind_some, p1]
  rw [laws_FnExactPushForward_c15_eq]
  simp only [t1, t2, t3, t4, e1, e2, e5, Option.bind_some, p2, Bool.not_true, cond_false, beq_self_eq_true]
  rw [laws_FnExactPushForward_c25_eq]
  simp only [t3, t4, e3, e4, e5, m1, m2, m3, m4, Option.bind_some, Bool.not_true, cond_false, beq_self_eq_true, decide_eq_false z1]
  rw [laws_FnExactPushForward_c37_eq]
  simp only [t1, t2, t3, t4, e5, m5, m6, p2, Option.bind_some, Bool.not_true, cond_false, beq_self_eq_true, bne_self_eq_false, decide_eq_false z2]
  rw [laws_FnExactPushForward_c49_eq]
  simp only [bne_self_eq_false, decide_eq_false z2, cond_false]
theorem law_PullBack {g h : Gr} {m : Mo} {d : List Int} (hg : g.2.length ≤ 9223372036854775807) (hh : h.2.length ≤ 9223372036854775807) (h1 : m.1.length ≤ 9223372036854775807) (h2 : m.2.length ≤ 9223372036854775807) : laws_FnExactPullBack g h m d = some true := by
  rw [laws_FnExactPullBack_eq]
  by_cases c0 : (d.length : Int) > 1048576
  · rw [decide_eq_true c0]; rfl
  rw [decide_eq_false c0]
  simp only [cond_false]
  obtain ⟨r, k1, k2⟩ := szGraph_p hg (m := 1048576) (by omega) (by omega)
  rw [k1]
  simp only [Option.bind_some]
  by_cases c : r < 0
  · rw [decide_eq_true c]; rfl
  rw [decide_eq_false c]
  simp only [cond_false]
  have k3 := k2 (by omega)
  obtain ⟨r2, j1, j2⟩ := szGraph_p hh (m := r) (by omega) (by omega)
  rw [j1]
  simp only [Option.bind_some]
  by_cases c2 : r2 < 0
  · rw [decide_eq_true c2]; rfl
  rw [decide_eq_false c2]
  simp only [cond_false]
  have j3 := j2 (by omega)
  obtain ⟨r3, i1, i2⟩ := szMorphism_p h1 h2 (m := r2) (by omega) (by omega)
  rw [i1]
  simp only [Option.bind_some]
  by_cases c3 : r3 < 0
  · rw [decide_eq_true c3]; rfl
  rw [decide_eq_false c3]
  simp only [cond_false]
  have i3 := i2 (by omega)
  obtain ⟨x, p1, p2, p3⟩ := pullBack_p (g := g) (h := h) (m := m) (d := d) (by omega) (by omega) (by omega) (by omega) (by omega)
  have t1 := toGraph_p (a := g) (by omega)
  have t2 := toGraph_p (a := h) (by omega)
  have t3 := toMorphism_p (a := m) (by omega) (by omega)
  have t4 := toIntS_p (a := d) (by omega)
  have e1 : laws_eqGraph g g = some true := true_of (eqGraph_p hg) rfl
  have e2 : laws_eqGraph h h = some true := true_of (eqGraph_p hh) rfl
  have e3 : laws_eqMorphism m m = some true := true_of (eqMorphism_p h1 h2) rfl
  have e4 : laws_eqIntS d d = some true := true_of (eqIntS_p (by omega)) rfl
  have e5 : laws_eqIntS x.1 x.1 = some true := true_of (eqIntS_p (by omega)) rfl
  obtain ⟨q1, m1, n1⟩ := markGraph_p (a := g) (m := 1) (by omega) (by omega)
  obtain ⟨q2, m2, n2⟩ := markGraph_p (a := h) (m := q1.1) (by omega) (by omega)
  have m3 := markMorphism_p (a := m) (m := q2.1) (by omega) (by omega)
  have m4 := markIntS_p (a := d) (m := q2.1 + (m.1.length : Int) + (m.2.length : Int)) (by omega) (by omega)
  have m5 := markIntS_p (a := x.1) (m := 1) (by omega) (by omega)
  have m6 := heldIntS_p (m := 1) (n := x.1.length) (by omega) (by omega)
  have z1 : ¬ q2.1 + (m.1.length : Int) + (m.2.length : Int) + (d.length : Int) < 0 := by omega
  have z2 : ¬ (1 : Int) + (x.1.length : Int) < 0 := by omega
  simp only [t1, t2, t3, t4, Option.bind_some, p1]
  rw [laws_FnExactPullBack_c15_eq]
  simp only [t1, t2, t3, t4, e1, e2, e5, Option.bind_some, p2, Bool.not_true, cond_false, beq_self_eq_true]
  rw [laws_FnExactPullBack_c25_eq]
  simp only [t3, t4, e3, e4, e5, m1, m2, m3, m4, Option.bind_some, Bool.not_true, cond_false, beq_self_eq_true, decide_eq_false z1]
  rw [laws_FnExactPullBack_c37_eq]
  simp only [t1, t2, t3, t4, e5, m5, m6, p2, Option.bind_some, Bool.not_true, cond_false, beq_self_eq_true, bne_self_eq_false, decide_eq_false z2]
  rw [laws_FnExactPullBack_c49_eq]
  simp only [bne_self_eq_false, decide_eq_false z2, cond_false]
end Go.Proofs.Ytkedbhndiokegaa.D

/-
  The law FnEveryText: each text that is a graph, each text that is a divisor of it.
-/
import Derived.Test.YtfpccehboifkbaaGreatDoorPureFt
import Derived.Test.YtfpccehboifkbaaGreatDoorPureIm
import Derived.Test.YtfpccehboifkbaaGreatDoorPurePG
namespace Go.Proofs.YtfpccehboifkbaaGreatDoor.D
open Go Go.Den
set_option linter.unusedVariables false
set_option linter.unusedSimpArgs false
theorem every_c26 {g : Gr} {d x : List Int} {r s : Int} (hD : DOk g d) (hres : impl_ResidualOf g d = some (x, true)) (xv : vec (N g) x (Rs g d)) (xb : Bd (N g) 80 (Rs g d)) (h7 : sm (N g) (fn d) ≤ 7) (hx : DOk g x) (hx7 : sm (N g) (fn x) ≤ 7)
    {kr ks : Nat} {w w' : List Int} (e1 : r = (kr : Int) - 1) (e2 : RK g (fn d) kr w) (f1 : s = (ks : Int) - 1) (f2 : RK g (fn x) ks w') (k1 : kr ≤ 9) (k2 : ks ≤ 9) (r2 : impl_RankOf g d = some (r, true)) (t2 : impl_RankOf g x = some (s, true)) : laws_FnEveryText_c26 g d r r s = some true := by
  have hn := gN hD.1
  have h12 := hD.1.1.2.1
  have hgd : gnI g = (g.2.length : Int) - (N g : Int) + 1 := rfl
  have hdb := deg_bd hD.1 (by omega) hD.vec.2
  have hgI := genusI hD.1
  have hdeg : impl_DegreeOf d = some (sm (N g) (fn d)) := degI hD.1 hD.vec.1 (hD.vec.2.mono (by omega))
  have hRR := rr hD.1 (D1 := fn d) (D2 := fn x) (fun v hv => by
    have := xv.2 v hv
    unfold fn
    unfold Rs fn at this
    omega) (hD.vec.2.mono (by omega)) (hx.vec.2.mono (by omega)) e2 f2 k1 k2
  have hfr : impl_RankFromResidual g d = some (r, true) := by
    rw [impl_RankFromResidual_eq, hres]
    simp only [Option.bind_some, t2, Bool.not_true, cond_false, hdeg, hgI]
    rw [w64_id (n := s + sm (N g) (fn d)) (by omega) (by omega), w64_id (n := s + sm (N g) (fn d) + 1) (by omega) (by omega), w64_id (by omega) (by omega)]
    congr 2
    omega
  have hsp : impl_IsSpecial g d = some (decide (s ≥ 0)) := by
    obtain ⟨z, z1, z2⟩ := winI hD.1 xv (xb.mono (by omega))
    rw [impl_IsSpecial_eq, r2]
    simp only [Option.bind_some, Bool.not_true, cond_false, hres, z1]
    congr 1
    have hw := f2.win hD.1
    have hc : Win g (Rs g d) ↔ Win g (fn x) := ⟨fun h => h.congr fun v hv => (xv.2 v hv).symm, fun h => h.congr fun v hv => xv.2 v hv⟩
    rw [Bool.eq_iff_iff, z2, decide_eq_true_iff, hc, ← hw]
    omega
  rw [laws_FnEveryText_c26_eq, hfr]
  simp only [Option.bind_some, beq_self_eq_true, cond_true, hdeg, hgI, hsp]
  rw [w64_id (n := r - s) (by omega) (by omega), w64_id (n := sm (N g) (fn d) + 1) (by omega) (by omega), w64_id (n := sm (N g) (fn d) + 1 - gnI g) (by omega) (by omega), beq_t (show r - s = sm (N g) (fn d) + 1 - gnI g by omega), cond_true]
theorem every_c25 (a b : Bool) : laws_FnEveryText_c25 a a b b = some true := by
  rw [laws_FnEveryText_c25_eq]
  cases a <;> cases b <;> rfl
theorem every_c21 {g : Gr} {d : List Int} (hD : DOk g d) {b : Bool} {r0 : Int} (hb : spec_RankOf g d = some (r0, b)) : laws_FnEveryText_c21 g d b = some true := by
  have hn := gN hD.1
  have h12 := hD.1.1.2.1
  have hg1 : g.2.length ≤ 1048576 := by omega
  have hd1 : d.length ≤ 1048576 := by rw [hD.vec.1.1]; omega
  obtain ⟨r, b', r1, r2, r3, r4, r5, r6⟩ := rankOf_p hg1 hd1
  have e : (r0, b) = (r, b') := Option.some.inj (hb.symm.trans r1)
  obtain ⟨rfl, rfl⟩ := Prod.mk.inj e
  obtain ⟨q, q1, q2, _⟩ := rr_p hg1 hd1
  rw [laws_FnEveryText_c21_eq, r2, Option.bind_some, q1, Option.bind_some, q2, Option.bind_some]
  simp only [beq_self_eq_true, Bool.not_true, cond_false]
  cases b with
  | false => exact every_c25 _ _
  | true =>
    simp only [Bool.not_true, cond_false]
    cases hq : q.2.2 with
    | false => simp only [Bool.not_false, cond_true]; exact every_c25 _ _
    | true =>
      simp only [Bool.not_true, cond_false]
      obtain ⟨x, b, _, x2, x3, x4, x5, _⟩ := residual_p hg1 hd1
      have hbx := x4.2 hD
      subst hbx
      obtain ⟨xv, xb⟩ := x5 rfl
      obtain ⟨s, e, _, t2, t3, t4, t5, t6⟩ := rankOf_p (g := g) (d := x) hg1 (by omega)
      have hrr := irr_p x2 r2 t2
      have hqe : q = cond e (r0, s, true) (0, 0, false) := Option.some.inj (q2.symm.trans hrr)
      cases e with
      | false => rw [hqe] at hq; cases hq
      | true =>
        obtain ⟨xok, x7⟩ := t3.1 rfl
        obtain ⟨_, d7⟩ := r3.1 rfl
        obtain ⟨kr, w, e1, e2, e3, _, _⟩ := r6 rfl
        obtain ⟨ks, w', f1, f2, f3, _, _⟩ := t6 rfl
        rw [hqe]
        exact every_c26 hD x2 xv xb d7 xok x7 e1 e2 f1 f2 (by omega) (by omega) r2 t2
theorem pgr_ok {s : ByteArray} {r : Gr × Bool} (h : PGR s r) (hr : r.2 = true) : GOk r.1 := by
  rcases h.1 with k | ⟨m, k1, k2, k3⟩
  · rw [k] at hr; cases hr
  · rw [k3]; exact k1
theorem law_EveryText {s t : ByteArray} : laws_FnEveryText s t = some true := by
  rw [laws_FnEveryText_eq]
  by_cases c1 : (s.size : Int) > 1000
  · rw [decide_eq_true c1]; rfl
  rw [decide_eq_false c1, cond_false]
  by_cases c2 : (t.size : Int) > 1000
  · rw [decide_eq_true c2]; rfl
  rw [decide_eq_false c2, cond_false]
  obtain ⟨r, h1, h2⟩ := impl_pg (s := s) (by omega)
  obtain ⟨r', k1, k2⟩ := spec_pg (s := s) (by omega)
  have : r' = r := k2.eq h2
  subst this
  rw [h1, Option.bind_some, k1, Option.bind_some, impl_ParseDivisor_p (by omega), Option.bind_some, spec_ParseDivisor_p (by omega), Option.bind_some]
  simp only [beq_self_eq_true, Bool.not_true, cond_false]
  rw [laws_FnEveryText_c9_eq]
  cases hr : r'.2 with
  | false => rfl
  | true =>
    cases hp : (pd t).2 with
    | false => rfl
    | true =>
      simp only [Bool.not_true, cond_false]
      by_cases c3 : ((pd t).1.length : Int) = r'.1.1
      · rw [eq_f c3, cond_false]
        have hG : GOk r'.1 := pgr_ok h2 hr
        obtain ⟨_, _, hpl⟩ := pd_true hp
        generalize r'.1 = g at *
        generalize (pd t).1 = d at *
        have hn := gN hG
        have h12 := hG.1.2.1
        have hg1 : g.2.length ≤ 1048576 := by omega
        have hd1 : d.length ≤ 1048576 := by omega
        obtain ⟨gE1, gE2, gE3⟩ := gE hG
        obtain ⟨k, _, q2, _, q4⟩ := canon_p hg1
        have kv := q4 hG
        have kb : Bd (N g) 20 (Kn g) := fun v hv => by have := val_bd v (Eg g); unfold Kn; omega
        obtain ⟨x, b, x1, x2, x3, x4, x5, _⟩ := residual_p hg1 hd1
        rw [q2, Option.bind_some, x1, Option.bind_some, x2, Option.bind_some]
        simp only [beq_self_eq_true, Bool.not_true, cond_false]
        cases b with
        | false => simp only [Bool.not_false, cond_true, laws_FnEveryText_c15_eq]; rfl
        | true =>
          simp only [Bool.not_true, cond_false]
          have hD := x4.1 rfl
          obtain ⟨xv, xb⟩ := x5 rfl
          have hgd : gnI g = (g.2.length : Int) - (N g : Int) + 1 := rfl
          have hKd := canon_deg hG
          have hdb := deg_bd hG (by omega) hD.vec.2
          have hRs : sm (N g) (Rs g d) = sm (N g) (Kn g) - sm (N g) (fn d) := sm_sub (Kn g) (fn d) (N g)
          have hsx : spec_DegreeOf x = some (sm (N g) (Rs g d)) := by
            have := sum_s (d := x) (by omega) (fun j hj => by
              rw [xv.1] at hj
              rw [xv.2 j hj]
              have := xb j hj
              omega)
            rw [this, xv.1, sm_congr fun v hv => xv.2 v hv]
          rw [laws_FnEveryText_c16_eq, eq_f (show (k.length : Int) = g.1 by rw [kv.1]; omega), cond_false, degI hG kv (kb.mono (by omega)), Option.bind_some, genusI hG, Option.bind_some, w64_id (n := 2 * gnI g) (by omega) (by omega), w64_id (n := 2 * gnI g - 2) (by omega) (by omega), eq_f (by omega), cond_false, degI hG xv (xb.mono (by omega)), Option.bind_some, Option.bind_some, degI hG hD.vec.1 (hD.vec.2.mono (by omega)), Option.bind_some, w64_id (n := sm (N g) (Kn g) - sm (N g) (fn d)) (by omega) (by omega), eq_f hRs, cond_false]
          obtain ⟨r, b, r1, _⟩ := rankOf_p hg1 hd1
          rw [r1, (deg_p hD).1, hsx]
          simp only [Option.bind_some]
          rw [every_c21 hD r1]
          cases decide (g.1 > 4) with
          | false => rfl
          | true =>
            simp only [cond_true]
            cases decide (imax (sm (N g) (fn d)) (sm (N g) (Rs g d)) > 4) <;> rfl
      · rw [ne_t c3]; rfl
end Go.Proofs.YtfpccehboifkbaaGreatDoor.D

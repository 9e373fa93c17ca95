/-
  The law FnRanks: up to the rank each removal has an answer, and the witness has none.
-/
import Derived.Test.YtfpccehboifkbaaGreatDoorPureGf
import Derived.Test.YtfpccehboifkbaaGreatDoorPureZa
namespace Go.Proofs.YtfpccehboifkbaaGreatDoor.D
open Go Go.Den
set_option linter.unusedVariables false
set_option linter.unusedSimpArgs false
theorem DOk.len {g : Gr} {d : List Int} (h : DOk g d) : d.length = N g := h.vec.1.1
theorem DOk.is {g : Gr} {d : List Int} (h : DOk g d) : impl_DivisorOk g d = some true ∧ spec_DivisorOk g d = some true := by
  have hn := gN h.1
  have h12 := h.1.1.2.1
  obtain ⟨b, p1, p2, p3⟩ := divisorOk_p (g := g) (d := d) (by omega) (by rw [h.len]; omega)
  rw [p3.2 h] at p1 p2
  exact ⟨p2, p1⟩
theorem DOk.small {g : Gr} {d : List Int} (h : DOk g d) : g.2.length ≤ 1048576 ∧ d.length ≤ 1048576 := by
  have hn := gN h.1
  have h12 := h.1.1.2.1
  exact ⟨by omega, by rw [h.len]; omega⟩
theorem Sd.dok {g : Gr} (hg : GOk g) {d : List Int} (h : Sd g d) : DOk g d := by
  have hn := gN hg
  refine ⟨hg, by rw [h.1]; omega, fun j hj => ?_⟩
  have := h.2 _ (getD_mem 0 hj)
  omega
theorem Win.iff {g : Gr} {D D' : Nat → Int} (e : ∀ v, v < N g → D v = D' v) : Win g D ↔ Win g D' := ⟨fun h => h.congr e, fun h => h.congr fun v hv => (e v hv).symm⟩
theorem iEff_p {g : Gr} {d : List Int} (h : DOk g d) (h7 : sm (N g) (fn d) ≤ 7) : ∃ L, impl_EffectiveIn g d = some (L, true) ∧ Sys g (fn d) L ∧ L.length ≤ 100000 := by
  obtain ⟨L, l1, l2⟩ := effectiveIn_p h.1 h.vec.1 (h.vec.2.mono (by omega)) (by omega)
  refine ⟨L, ?_, l2, l2.len h.1 (by omega)⟩
  rw [impl_EffectiveIn_eq, h.is.1, Option.bind_some, Bool.not_true, cond_false, (deg_p h).2, Option.bind_some, decide_eq_false (by omega), cond_false, l1]; rfl
theorem iWin_p {g : Gr} {d : List Int} {D : Nat → Int} (hg : GOk g) (hd : vec (N g) d D) (hD : Bd (N g) 1000 D) : ∃ b, impl_IsWinnable g d = some b ∧ (b = true → Win g D) ∧ (DOk g d → Win g D → b = true) := by
  have hn := gN hg
  have h12 := hg.1.2.1
  obtain ⟨b, p1, p2, p3⟩ := divisorOk_p (g := g) (d := d) (by omega) (by rw [hd.1]; omega)
  rw [impl_IsWinnable_eq, p2]
  cases b with
  | false => exact ⟨false, rfl, fun h => (by cases h), fun h => (by have := p3.2 h; cases this)⟩
  | true =>
    obtain ⟨b, b1, _, b2⟩ := win_iff hg hd hD
    rw [Option.bind_some, cond_true, b1]
    exact ⟨b, rfl, b2.1, fun _ => b2.2⟩
theorem isEff_t {d : List Int} (hl : d.length ≤ 1000) (h : ∀ x ∈ d, 0 ≤ x) : impl_IsEffective d = some true := by
  obtain ⟨b, b1, b2⟩ := isEff_p hl
  rw [b1, b2.2 fun v hv => h _ (getD_mem 0 hv)]
theorem answer_p {g : Gr} {d e : List Int} (h : DOk g d) (h7 : sm (N g) (fn d) ≤ 7) (he : Sd g e) : ∃ x b, impl_AnswerTo g d e = some (x, b) ∧ (b = true ↔ Win g (Mi (fn d) e)) ∧ (b = true → x.length = N g ∧ ∀ v, v < N g → e.getD v 0 ≤ x.getD v 0) := by
  have hn := gN h.1
  obtain ⟨L, l1, l2, l3⟩ := iEff_p h h7
  rw [impl_AnswerTo_eq, l1, Option.bind_some, Bool.not_true, cond_false, (he.dok h.1).is.1, Option.bind_some, Bool.not_true, cond_false, isEff_t (by rw [he.1]; omega) (fun x hx => (he.2 x hx).1), Option.bind_some, Bool.not_true, cond_false]
  have hc := cover_iff l2 he.1 (fun v hv => (he.vec.2 v hv).1)
  have key : ∀ (m i : Nat), i + m = L.length → (∀ j, j < i → ¬ ∀ v, v < e.length → e.getD v 0 ≤ (L.getD j []).getD v 0) → ∃ x b, impl_AnswerTo_l0 e L (L.length : Int) (i : Int) = some (x, b) ∧ (b = true ↔ ∃ r, r ∈ L ∧ ∀ v, v < e.length → e.getD v 0 ≤ r.getD v 0) ∧ (b = true → x.length = N g ∧ ∀ v, v < N g → e.getD v 0 ≤ x.getD v 0) := by
    intro m
    induction m with
    | zero =>
      intro i hi hf
      have : i = L.length := by omega
      subst this
      refine ⟨[], false, by rw [impl_AnswerTo_l0_eq, dec_lt_f]; rfl, ⟨fun h => (by cases h), fun ⟨r, h1, h2⟩ => ?_⟩, fun h => (by cases h)⟩
      obtain ⟨j, hj, e'⟩ := List.getElem_of_mem h1
      exact absurd (by rw [getD_lt hj, e']; exact h2) (hf j hj)
    | succ m ih =>
      intro i hi hf
      have hi' : i < L.length := by omega
      have hcl := (l2.2.2 _).1 (getD_mem [] hi')
      obtain ⟨b, b1, b2⟩ := covers_p (a := L.getD i []) (b := e) (by rw [hcl.1, he.1]; exact Nat.le_refl _) (by rw [he.1]; omega)
      rw [impl_AnswerTo_l0_eq, dec_lt_t hi', inside_lt hi', toNat_n, w64_succ hi' (by omega), cond_true, cond_true, b1, Option.bind_some]
      cases b with
      | true => exact ⟨_, true, rfl, ⟨fun _ => ⟨_, getD_mem [] hi', b2.1 rfl⟩, fun _ => rfl⟩, fun _ => ⟨hcl.1, fun v hv => b2.1 rfl v (by rw [he.1]; exact hv)⟩⟩
      | false =>
        refine ih (i + 1) (by omega) fun j hj => ?_
        rcases Nat.lt_or_ge j i with q | q
        · exact hf j q
        · rw [show j = i by omega]
          intro c
          have := b2.2 c
          cases this
  obtain ⟨x, b, h1, h2, h3⟩ := key L.length 0 (by omega) (fun j hj => by omega)
  exact ⟨x, b, h1, h2.trans hc, h3⟩
/-- a divisor without another, as the law file takes it -/
theorem under_p {g : Gr} {d e : List Int} (h : DOk g d) (he : Sd g e) : ∃ m x, impl_NegateDivisor e = some m ∧ impl_AddDivisors d m = some (x, true) ∧ vec (N g) x (Mi (fn d) e) := by
  have hn := gN h.1
  obtain ⟨m, m1, m2⟩ := neg_p (by omega) he.vec.1 (fun v hv => by have := he.vec.2 v hv; omega)
  obtain ⟨x, x1, x2⟩ := plus_p (by omega) h.vec.1 m2 (h.vec.2.mono (by omega)) (fun v hv => by have := he.vec.2 v hv; omega)
  refine ⟨m, x, m1, ?_, x2.congr fun w hw => by unfold Mi; omega⟩
  rw [impl_AddDivisors_eq, eq_f (by rw [h.len, m2.1]), cond_false, x1]; rfl
theorem makeAll_p {g : Gr} (hg : GOk g) {k : Int} (h7 : k ≤ 7) : ∃ E, spec_MakeAll g.1 k = some E ∧ E.length ≤ 100000 ∧ (k < 0 → E = []) ∧ (0 ≤ k → E = eff (N g - 1) k.toNat) := by
  have hn := gN hg
  have h3 : 10 ^ (N g - 1) ≤ 10 ^ 5 := Nat.pow_le_pow_right (by omega) (by omega)
  rw [spec_MakeAll_eq, in_p, Option.bind_some, decide_eq_true (by omega), Bool.not_true, cond_false, decide_eq_false (by omega), cond_false]
  by_cases c : k < 0
  · rw [spec_l06Effective_eq, decide_eq_true c]
    exact ⟨[], rfl, Nat.zero_le _, fun _ => rfl, fun h => by omega⟩
  · have e : k = ((k.toNat : Nat) : Int) := by omega
    have := spec_eff (n := N g - 1) (by omega) k.toNat (by omega)
    rw [show ((N g - 1 : Nat) : Int) + 1 = g.1 by omega, ← e] at this
    rw [this]
    have := eff_len (N g - 1) k.toNat (by omega)
    exact ⟨_, rfl, by omega, fun h => by omega, fun _ => rfl⟩
theorem fnRanks_loop {g : Gr} {d : List Int} (h : DOk g d) (h7 : sm (N g) (fn d) ≤ 7) {E : List (List Int)} (hE : E.length ≤ 100000) (ha : ∀ e ∈ E, Sd g e ∧ Win g (Mi (fn d) e)) : ∀ (m i : Nat), i + m = E.length → laws_FnRanks_l0 g d E (E.length : Int) (i : Int) = some true := by
  have hn := gN h.1
  intro m
  induction m with
  | zero =>
    intro i hi
    have : i = E.length := by omega
    subst this
    rw [laws_FnRanks_l0_eq, dec_lt_f]; rfl
  | succ m ih =>
    intro i hi
    have hi' : i < E.length := by omega
    obtain ⟨hs, hw⟩ := ha _ (getD_mem [] hi')
    obtain ⟨x, b, b1, b2, b3⟩ := answer_p h h7 hs
    have hb := b2.2 hw
    subst hb
    obtain ⟨x1, x2⟩ := b3 rfl
    rw [laws_FnRanks_l0_eq, dec_lt_t hi', inside_lt hi', toNat_n, cond_true, cond_true, b1, Option.bind_some]
    simp only [Bool.not_true, cond_false]
    rw [eq_f (show (x.length : Int) = g.1 by omega), cond_false, x1]
    have inner : ∀ (m v : Nat), v + m = N g → laws_FnRanks_l2 g d (E.getD i []) x E (E.length : Int) (i : Int) ((N g : Nat) : Int) (v : Int) = laws_FnRanks_l0 g d E (E.length : Int) ((i + 1 : Nat) : Int) := by
      intro m
      induction m with
      | zero =>
        intro v hv
        have : v = N g := by omega
        subst this
        rw [laws_FnRanks_l2_eq, dec_lt_f, cond_false, w64_succ hi' (by omega)]
      | succ m ih2 =>
        intro v hv
        have hv' : v < N g := by omega
        have := x2 v hv'
        rw [laws_FnRanks_l2_eq, dec_lt_t hv', inside_lt (by omega), inside_lt (by rw [hs.1]; exact hv'), toNat_n, cond_true, cond_true, cond_true, decide_eq_false (by omega), cond_false, w64_succ hv' (by omega)]
        exact ih2 (v + 1) (by omega)
    have := inner (N g) 0 (by omega)
    exact this.trans (ih (i + 1) (by omega))
theorem law_Ranks {l : List Int} : laws_FnRanks l = some true := by
  rw [laws_FnRanks_eq]
  by_cases c0 : (l.length : Int) > 1048576
  · rw [decide_eq_true c0]; rfl
  rw [decide_eq_false c0, cond_false]
  obtain ⟨g, g1, g2, g3, g4⟩ := small_p (l := l) (by omega)
  obtain ⟨d, d1, d2, d3, d4⟩ := few_p (l := l) (by omega) g2 (n := 20) (by omega)
  have d1' : spec_MakeFew l 20 g = some d := d1
  have hn := gN g2
  obtain ⟨s1, s2⟩ := d2.small
  obtain ⟨r, b, r1, r2, r3, r4, r5, r6⟩ := rankOf_p (g := g) (d := d) s1 s2
  have hb := r3.2 ⟨d2, by omega⟩
  subst hb
  obtain ⟨k, w, e1, e2, e3, e4, e5⟩ := r6 rfl
  obtain ⟨w', b', w1, w2, w3, w4, w5, w6⟩ := witness_p (g := g) (d := d) s1 s2
  have hb' := w5.2 ⟨d2, by omega⟩
  subst hb'
  obtain ⟨k', e6⟩ := w6 rfl
  obtain ⟨rfl, rfl⟩ := e6.uniq e2
  have hk8 : k' ≤ 8 := by omega
  have hws := eff_Sd g2 (k := k') (by omega) e2.mem
  have hsum := eff_sum e2.mem
  have hdw := (deg_p (hws.dok g2)).2
  have hsw : sm (N g) (fn w') = (k' : Int) := by
    have := sm_list w'
    rw [hws.1] at this
    rw [← hsum, ← this]; rfl
  rw [g1, Option.bind_some, d1', Option.bind_some, r2, Option.bind_some, w2, Option.bind_some]
  simp only [Bool.not_true, cond_false, (deg_p d2).2, Option.bind_some]
  rw [decide_eq_false (by omega), cond_false, decide_eq_false (by unfold imax; split <;> omega), cond_false, eq_f (show (w'.length : Int) = g.1 by rw [hws.1]; omega), cond_false, isEff_t (by omega) (fun x hx => (hws.2 x hx).1), hdw, hsw]
  simp only [Option.bind_some, Bool.not_true, cond_false]
  rw [w64_id (n := r + 1) (by omega) (by omega), eq_f (show (k' : Int) = r + 1 by omega), cond_false, laws_FnRanks_c9_eq]
  obtain ⟨m, x, m1, x1, x2⟩ := under_p d2 hws
  obtain ⟨q, q1, q2, _⟩ := iWin_p g2 x2 (fun v hv => by
    have := d4 v hv
    have := hws.vec.2 v hv
    unfold Mi; omega)
  have hq : q = false := Bool.eq_false_iff.2 fun c => e2.bad (q2 c)
  subst hq
  have hhas : ∀ a, impl_HasRank g d a = some (decide (r ≥ a)) := fun a => by
    rw [impl_HasRank_eq, r2]; rfl
  obtain ⟨y, b, y1, y2, _⟩ := answer_p d2 (by omega) hws
  have hy : b = false := Bool.eq_false_iff.2 fun c => e2.bad (y2.1 c)
  subst hy
  rw [m1, Option.bind_some, x1, Option.bind_some]
  simp only [Bool.not_true, cond_false, q1, Option.bind_some, hhas, y1]
  rw [w64_id (n := r + 1) (by omega) (by omega), decide_eq_false (show ¬ r ≥ r + 1 by omega), decide_eq_true (show r ≥ r by omega)]
  simp only [Bool.not_true, cond_false]
  rw [laws_FnRanks_c15_eq]
  obtain ⟨E, E1, E2, E3, E4⟩ := makeAll_p g2 (k := r) (by omega)
  rw [E1, Option.bind_some]
  refine fnRanks_loop d2 (by omega) E2 (fun e he => ?_) E.length 0 (by omega)
  by_cases c : r < 0
  · rw [E3 c] at he; exact (List.not_mem_nil he).elim
  · rw [E4 (by omega)] at he
    exact ⟨eff_Sd g2 (by omega) he, e2.up r.toNat (by omega) e he⟩
end Go.Proofs.YtfpccehboifkbaaGreatDoor.D

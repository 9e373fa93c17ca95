/-
  What is told through the rank: both programs alike.
-/
import Derived.Test.YtfpccehboifkbaaGreatDoorPureU
namespace Go.Proofs.YtfpccehboifkbaaGreatDoor.D
open Go Go.Den
set_option linter.unusedVariables false
set_option linter.unusedSimpArgs false
/-- a row as a divisor -/
def fn (d : List Int) (w : Nat) : Int := d.getD w 0
theorem DOk.vec {g : Gr} {d : List Int} (h : DOk g d) : vec (N g) d (fn d) ∧ Bd (N g) 60 (fn d) := by
  have hn := gN h.1
  have hl : d.length = N g := by have := h.2.1; omega
  exact ⟨⟨hl, fun _ _ => rfl⟩, fun w hw => h.2.2 w (by omega)⟩
theorem deg_p {g : Gr} {d : List Int} (h : DOk g d) : spec_DegreeOf d = some (sm (N g) (fn d)) ∧ impl_DegreeOf d = some (sm (N g) (fn d)) := by
  obtain ⟨h1, h2⟩ := h.vec
  have hn := gN h.1
  have hs := sumLoop (d := d) (by rw [h1.1]; omega) (fun k hk => by
    rw [h1.1] at hk
    have := h2 k hk
    unfold fn at this
    omega)
  rw [h1.1] at hs
  rw [impl_DegreeOf_eq, hs.1]
  exact ⟨hs.2, rfl⟩
theorem Bd.mono {n : Nat} {B C : Int} {f : Nat → Int} (h : Bd n B f) (hBC : B ≤ C) : Bd n C f := fun w hw => by have := h w hw; omega
theorem deg_bd {g : Gr} (hg : GOk g) {f : Nat → Int} {B : Int} (h0 : 0 ≤ B) (h : Bd (N g) B f) : -(6 * B) ≤ sm (N g) f ∧ sm (N g) f ≤ 6 * B := by
  have hn := gN hg
  have key : ∀ n, n ≤ N g → -((n : Int) * B) ≤ sm n f ∧ sm n f ≤ (n : Int) * B := fun n => by
    induction n with
    | zero => intro _; simp [sm]
    | succ n ih =>
      intro hk
      have := ih (by omega)
      have := h n (by omega)
      rw [sm, show (((n + 1 : Nat) : Int)) * B = (n : Int) * B + B by rw [Int.natCast_succ, Int.add_mul, Int.one_mul]]
      omega
  have := key (N g) (Nat.le_refl _)
  have : (N g : Int) * B ≤ 6 * B := Int.mul_le_mul_of_nonneg_right (by omega) h0
  omega
/-! ### all effective divisors -/
open Classical in
theorem rankOf_p {g : Gr} {d : List Int} (hg : g.2.length ≤ 1048576) (hd : d.length ≤ 1048576) : ∃ r b, spec_RankOf g d = some (r, b) ∧ impl_RankOf g d = some (r, b) ∧ (b = true ↔ DOk g d ∧ sm (N g) (fn d) ≤ 7) ∧ (-1 ≤ r ∧ r ≤ 7) ∧ (b = false → r = 0) ∧ (b = true → ∃ (k : Nat) (w : List Int), r = (k : Int) - 1 ∧ RK g (fn d) k w ∧ k ≤ (sm (N g) (fn d) + 1).toNat ∧ impl_rank g d = some (r, w) ∧ spec_l07Search g d = some (r, w)) := by
  obtain ⟨b, p1, p2, p3⟩ := divisorOk_p hg hd
  rw [spec_RankOf_eq, impl_RankOf_eq, spec_l07Ok_eq, p1, p2]
  cases b with
  | false => exact ⟨0, false, rfl, rfl, ⟨fun k => (by cases k), fun k => (by have := p3.2 k.1; cases this)⟩, by omega, fun _ => rfl, fun k => by cases k⟩
  | true =>
    have hD := p3.1 rfl
    obtain ⟨h1, h2⟩ := hD.vec
    obtain ⟨q1, q2⟩ := deg_p hD
    simp only [Option.bind_some, Bool.not_true, cond_false, cond_true, q1, q2]
    by_cases c : sm (N g) (fn d) > 7
    · rw [decide_eq_true c, decide_eq_false (by omega)]
      exact ⟨0, false, rfl, rfl, ⟨fun k => (by cases k), fun k => (by omega)⟩, by omega, fun _ => rfl, fun k => by cases k⟩
    · rw [decide_eq_false c, decide_eq_true (by omega)]
      obtain ⟨r, w, r1, r2, r3, r4⟩ := rank_p hD.1 h1 (h2.mono (by omega)) (by omega)
      simp only [Bool.not_true, cond_false, r1, r2, Option.bind_some]
      exact ⟨_, true, rfl, rfl, ⟨fun _ => ⟨hD, by omega⟩, fun _ => rfl⟩, by omega, fun k => (by cases k), fun _ => ⟨r, w, rfl, r3, r4, rfl, rfl⟩⟩
theorem spec_val_p {g : Gr} (hg : GOk g) {v : Nat} (hv : v < N g) : spec_Valence g (v : Int) = some (val (Eg g) v) := by
  obtain ⟨gE1, gE2, gE3⟩ := gE hg
  have hn := gN hg
  rw [spec_Valence_eq, spec_l02Vert_eq, decide_eq_true (by omega), decide_eq_true (by omega)]
  simp only [cond_true, Option.bind_some, Bool.not_true, cond_false]
  have := upFold (n := g.2.length) (f := fun s i => spec_Valence_l0 (v : Int) s g.2 (g.2.length : Int) i) (g := fun k s => val ((Eg g).take (k + 1)) v) (fun k s => s = val ((Eg g).take k) v) (fun k s hk hs => ⟨by
    obtain ⟨x, y, q1, q2, q3, q4⟩ := gEk hg hk
    have b1 := val_bd v ((Eg g).take k)
    have b2 : ((Eg g).take k).length ≤ k := by rw [List.length_take]; omega
    subst hs
    rw [spec_Valence_l0_eq, dec_lt_t hk, inside_lt hk, toNat_n, q1, w64_succ hk (by omega), val_take (by omega), q2]
    simp only [cond_true, ends]
    rw [w64_id (by omega) (by omega)]
    by_cases c : v = x
    · subst c; rw [beq_t rfl]; simp
    · by_cases c2 : v = y
      · subst c2; rw [beq_f (by omega), beq_t rfl]; simp
      · rw [beq_f (by omega), beq_f (by omega)]; simp [c, c2], rfl⟩) (s := 0) (by simp [val])
  refine this.1.trans ?_
  rw [this.2, spec_Valence_l0_eq, dec_lt_f, cond_false, ← gE3, List.take_length]
/-- the canonical divisor -/
def Kn (g : Gr) (v : Nat) : Int := val (Eg g) v - 2
theorem canon_p {g : Gr} (hg : g.2.length ≤ 1048576) : ∃ x, spec_CanonicalOf g = some x ∧ impl_CanonicalOf g = some x ∧ x.length ≤ 6 ∧ (GOk g → vec (N g) x (Kn g)) := by
  obtain ⟨b, p1, p2, p3⟩ := graphOk_p (g := g) (by omega)
  rw [spec_CanonicalOf_eq, impl_CanonicalOf_eq, p1, p2]
  cases b with
  | false => exact ⟨[], rfl, rfl, Nat.zero_le _, fun h => by have := p3.2 h; cases this⟩
  | true =>
    have hG := p3.1 rfl
    have hn := gN hG
    obtain ⟨gE1, gE2, gE3⟩ := gE hG
    simp only [Option.bind_some, Bool.not_true, cond_false]
    have hx : vec (N g) ((List.range (N g)).map (Kn g)) (Kn g) := ⟨by simp, fun w hw => getD_range_map _ hw⟩
    refine ⟨(List.range (N g)).map (Kn g), ?_, ?_, by simp; omega, fun _ => hx⟩
    · have := upFold (n := N g) (f := fun s i => spec_CanonicalOf_l0 g s i) (g := fun k s => s ++ [Kn g k]) (fun k s => s.length = k) (fun k s hk hs => ⟨by
        have := val_bd k (Eg g)
        rw [spec_CanonicalOf_l0_eq, decide_eq_true (by omega), cond_true, spec_val_p hG hk, Option.bind_some, w64_id (by omega) (by omega), decide_eq_true (by rw [room]; simp only [List.length_singleton]; omega), cond_true, w64_succ hk (by omega)]
        rfl, by rw [List.length_append, hs]; rfl⟩) (s := []) rfl
      refine this.1.trans ?_
      rw [spec_CanonicalOf_l0_eq, decide_eq_false (by omega), itr_push (Kn g), List.nil_append]; rfl
    · have := upFold (n := N g) (f := fun s i => impl_CanonicalOf_l0 g s i) (g := fun k s => s ++ [Kn g k]) (fun k s => s.length = k) (fun k s hk hs => ⟨by
        have := val_bd k (Eg g)
        rw [impl_CanonicalOf_l0_eq, decide_eq_true (by omega), cond_true, impl_val_p hG hk, Option.bind_some, w64_id (by omega) (by omega), decide_eq_true (by rw [room]; simp only [List.length_singleton]; omega), cond_true, w64_succ hk (by omega)]
        rfl, by rw [List.length_append, hs]; rfl⟩) (s := []) rfl
      refine this.1.trans ?_
      rw [impl_CanonicalOf_l0_eq, decide_eq_false (by omega), itr_push (Kn g), List.nil_append]; rfl
theorem neg_p {n : Nat} (hn : n ≤ 6) {d : List Int} {D : Nat → Int} (hd : vec n d D) (hD : Bd n 100000 D) : ∃ r, impl_NegateDivisor d = some r ∧ vec n r (fun v => - D v) := by
  rw [impl_NegateDivisor_eq, impl_copyInts_eq, decide_eq_true (by rw [hd.1, room]; simp only [List.length_nil]; omega), cond_true, Option.bind_some, List.nil_append, hd.1]
  have := upFold (n := n) (f := fun s i => impl_NegateDivisor_l0 s (n : Int) i) (g := fun k s => s.set k (- D k)) (fun k s => vec n s (fun w => if w < k then - D w else D w)) (fun k s hk hs => ⟨by
    have i1 : inside (k : Int) s.length = true := inside_lt (by rw [hs.1]; exact hk)
    have e : s.getD k 0 = D k := (hs.2 k hk).trans (if_neg (Nat.lt_irrefl k))
    have b1 := hD k hk
    rw [impl_NegateDivisor_l0_eq, dec_lt_t hk, i1, toNat_n, e, w64_succ hk (by omega), w64_id (by omega) (by omega), Int.zero_sub]
    rfl, (hs.set hk _).congr fun w hw => by
      by_cases c : w = k
      · subst c; rw [if_pos rfl, if_pos (by omega)]
      · rw [if_neg c]
        by_cases c2 : w < k
        · rw [if_pos c2, if_pos (by omega)]
        · rw [if_neg c2, if_neg (by omega)]⟩) (s := d) (hd.congr fun w hw => by rw [if_neg (by omega)])
  refine ⟨_, this.1.trans ?_, this.2.congr fun w hw => by rw [if_pos hw]⟩
  rw [impl_NegateDivisor_l0_eq, dec_lt_f]; rfl
/-- what is left of the canonical divisor -/
def Rs (g : Gr) (d : List Int) (v : Nat) : Int := Kn g v - fn d v
theorem residual_p {g : Gr} {d : List Int} (hg : g.2.length ≤ 1048576) (hd : d.length ≤ 1048576) : ∃ x b, spec_ResidualOf g d = some (x, b) ∧ impl_ResidualOf g d = some (x, b) ∧ x.length ≤ 6 ∧ (b = true ↔ DOk g d) ∧ (b = true → vec (N g) x (Rs g d) ∧ Bd (N g) 80 (Rs g d)) ∧ (b = false → x = []) := by
  obtain ⟨b, p1, p2, p3⟩ := divisorOk_p hg hd
  rw [spec_ResidualOf_eq, impl_ResidualOf_eq, p1, p2]
  cases b with
  | false => exact ⟨[], false, rfl, rfl, Nat.zero_le _, p3, fun k => (by cases k), fun _ => rfl⟩
  | true =>
    have hD := p3.1 rfl
    obtain ⟨h1, h2⟩ := hD.vec
    have hn := gN hD.1
    obtain ⟨gE1, gE2, gE3⟩ := gE hD.1
    obtain ⟨k, k1, k2, _, k4⟩ := canon_p hg
    have k5 := k4 hD.1
    have k6 : Bd (N g) 20 (Kn g) := fun v hv => by have := val_bd v (Eg g); unfold Kn; omega
    obtain ⟨x, x1, x2⟩ := minus_p (by omega) k5 h1.1 (k6.mono (by omega)) (fun v hv => by have := h2 v hv; unfold fn at this; omega)
    obtain ⟨m, m1, m2⟩ := neg_p (by omega) h1 (h2.mono (by omega))
    obtain ⟨y, y1, y2⟩ := plus_p (by omega) k5 m2 (k6.mono (by omega)) (fun v hv => by have := h2 v hv; omega)
    have hx : vec (N g) x (Rs g d) := x2.congr fun w hw => rfl
    have hy : y = x := y2.eq hx fun w hw => by unfold Rs; omega
    simp only [Option.bind_some, Bool.not_true, cond_false, k1, k2, x1, m1, y1, hy]
    exact ⟨x, true, rfl, rfl, by rw [hx.1]; omega, p3, fun _ => ⟨hx, fun v hv => by
      have := k6 v hv
      have := h2 v hv
      unfold Rs; omega⟩, fun k => by cases k⟩
theorem DOk.nil {g : Gr} (h : DOk g []) : False := by
  have := gN h.1
  have := h.2.1
  simp only [List.length_nil] at this
  omega
theorem rr_p {g : Gr} {d : List Int} (hg : g.2.length ≤ 1048576) (hd : d.length ≤ 1048576) : ∃ r, spec_RiemannRoch g d = some r ∧ impl_RiemannRoch g d = some r ∧ (-1 ≤ r.1 ∧ r.1 ≤ 7) ∧ (r.2.2 = true → DOk g d) := by
  obtain ⟨x, b, h1, h2, h3, h4, h5, h6⟩ := residual_p hg hd
  obtain ⟨r, c, r1, r2, r3, r4, r5, _⟩ := rankOf_p hg hd
  obtain ⟨s, e, s1, s2, s3, s4, s5, _⟩ := rankOf_p (g := g) (d := x) hg (by omega)
  rw [spec_RiemannRoch_eq, impl_RiemannRoch_eq, h1, h2, r1, r2]
  simp only [Option.bind_some, s1, s2]
  cases b with
  | false =>
    have : c = false := Bool.eq_false_iff.2 fun h => by have := h4.2 (r3.1 h).1; cases this
    subst this
    exact ⟨_, rfl, rfl, by decide, fun k => by cases k⟩
  | true =>
    cases c with
    | false => exact ⟨_, rfl, rfl, by decide, fun k => by cases k⟩
    | true =>
      cases e with
      | false => exact ⟨_, rfl, rfl, by decide, fun k => by cases k⟩
      | true => exact ⟨_, rfl, rfl, r4, fun _ => (r3.1 rfl).1⟩
end Go.Proofs.YtfpccehboifkbaaGreatDoor.D

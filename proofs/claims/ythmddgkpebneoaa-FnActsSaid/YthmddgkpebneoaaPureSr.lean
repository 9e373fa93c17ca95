/-
  The recurrent pile of a class, the identity, and drawn piles.
-/
import Derived.Test.YthmddgkpebneoaaPureSq
namespace Go.Proofs.Ythmddgkpebneoaa.D
open Go Go.Den
set_option linter.unusedVariables false
set_option linter.unusedSimpArgs false
theorem Bd.up {n : Nat} {B C : Int} {f : Nat → Int} (h : Bd n B f) (hBC : B ≤ C) : Bd n C f := fun w hw => by have := h w hw; omega
theorem lap_sumI {n : Nat} {E : Es} (hE : GE n E) (f : Nat → Int) : sm n (fun v => lap E f v) = 0 := by
  have h1 := lap_symm (n := n) (fun _ => 1) f hE
  have h2 : sm n (fun v => (1 : Int) * lap E f v) = sm n (fun v => lap E f v) := sm_congr fun v _ => by omega
  have h3 : sm n (fun v => f v * lap E (fun _ => 1) v) = sm n (fun _ => 0) := sm_congr fun v hv => by rw [lap_const hv (fun _ _ => rfl) hE]; omega
  rw [sm_zero] at h3
  omega
theorem sm_negI (f : Nat → Int) : ∀ n, sm n (fun v => - f v) = - sm n f
  | 0 => rfl
  | n + 1 => by rw [sm, sm, sm_negI f n]; omega
theorem sm_le2 {f : Nat → Int} {lo hi : Int} : ∀ {n : Nat}, (∀ v, v < n → lo ≤ f v ∧ f v ≤ hi) → (n : Int) * lo ≤ sm n f ∧ sm n f ≤ (n : Int) * hi
  | 0, _ => by simp [sm]
  | n + 1, h => by
    have h1 := sm_le2 (n := n) fun v hv => h v (by omega)
    have h2 := h n (by omega)
    rw [sm, Int.natCast_succ, Int.add_mul, Int.add_mul, Int.one_mul, Int.one_mul]
    omega
theorem vtx_i {g : Gr} (hg : GOk g) {q : Nat} (hq : q < N g) : impl_isVertex g (q : Int) = some true := by
  have hn := gN hg
  obtain ⟨b, p1, p2, p3⟩ := graphOk_p (g := g) (by have := hg.1.2.1; omega)
  have hb := p3.2 hg
  subst hb
  rw [impl_isVertex_eq, p2, Option.bind_some, cond_true, within_p, w64_id (n := g.1 - 1) (by omega) (by omega), decide_eq_true (by omega)]; rfl
theorem full_i {g : Gr} (hg : GOk g) {q : Nat} (hq : q < N g) : ∃ x, impl_FullPile g (q : Int) = some x ∧ vec (N g) x (fun w => if w = q then 0 else val (Eg g) w - 1) := by
  have hn := gN hg
  obtain ⟨gE1, gE2, gE3⟩ := gE hg
  have hr1 : (decide (0 ≤ g.1) && decide (g.1 ≤ (room : Int))) = true := by rw [room]; simp; omega
  rw [impl_FullPile_eq, vtx_i hg hq, Option.bind_some]
  simp only [Bool.not_true, cond_false]
  rw [hr1, cond_true, List.length_replicate, show g.1.toNat = N g from rfl]
  have := upFold (n := N g) (f := fun s i => impl_FullPile_l0 (q : Int) g s ((N g : Nat) : Int) i) (g := fun k s => if k = q then s else s.set k (val (Eg g) k - 1)) (fun k s => vec (N g) s (fun w => if w < k then (if w = q then 0 else val (Eg g) w - 1) else 0)) (fun k s hk hs => by
    have hb := val_bd k (Eg g)
    by_cases c : k = q
    · rw [if_pos c]
      refine ⟨?_, hs.congr fun w hw => ?_⟩
      · show impl_FullPile_l0 (q : Int) g s ((N g : Nat) : Int) (k : Int) = _
        rw [impl_FullPile_l0_eq, dec_lt_t hk, cond_true, eq_f (show (k : Int) = (q : Int) by omega), cond_false, w64_succ hk (by omega)]
      · by_cases c2 : w = k
        · subst c2; rw [if_neg (by omega), if_pos (by omega), if_pos c]
        · by_cases c3 : w < k
          · rw [if_pos c3, if_pos (show w < k + 1 by omega)]
          · rw [if_neg c3, if_neg (show ¬ w < k + 1 by omega)]
    · rw [if_neg c]
      refine ⟨?_, (hs.set hk _).congr fun w hw => ?_⟩
      · show impl_FullPile_l0 (q : Int) g s ((N g : Nat) : Int) (k : Int) = _
        rw [impl_FullPile_l0_eq, dec_lt_t hk, cond_true, ne_t (show ¬ (k : Int) = (q : Int) by omega), cond_true, impl_val_p hg hk, Option.bind_some, inside_lt (by rw [hs.1]; exact hk), cond_true, w64_succ hk (by omega), toNat_n, w64_id (by omega) (by omega)]
      · by_cases c2 : w = k
        · subst c2; rw [if_pos rfl, if_pos (by omega), if_neg c]
        · rw [if_neg c2]
          by_cases c3 : w < k
          · rw [if_pos c3, if_pos (show w < k + 1 by omega)]
          · rw [if_neg c3, if_neg (show ¬ w < k + 1 by omega)]) (s := List.replicate (N g) 0) ((vec.zero (N g)).congr fun w hw => by rw [if_neg (by omega)])
  refine ⟨_, this.1.trans ?_, this.2.congr fun w hw => if_pos hw⟩
  rw [impl_FullPile_l0_eq, dec_lt_f]; rfl
/-- what the program tells of the recurrent pile of a class -/
structure Rec (g : Gr) (q : Nat) (P : Nat → Int) (r : List Int) (R S : Nat → Int) : Prop where
  vr : vec (N g) r R
  rq : R q = 0
  bd : ∀ w, w < N g → 0 ≤ R w ∧ R w ≤ 12
  q0 : S q = 0
  out : ∀ w, w < N g → w ≠ q → R w = P w + lap (Eg g) S w
  red : ∃ O, Red (N g) (Eg g) q O ∧ ∀ w, w < N g → w ≠ q → R w = val (Eg g) w - 1 - O w
theorem red_lt {g : Gr} (hg : GOk g) {q : Nat} {O : Nat → Int} (h : Red (N g) (Eg g) q O) {w : Nat} (hw : w < N g) (hne : w ≠ q) : O w < val (Eg g) w := by
  obtain ⟨gE1, gE2, gE3⟩ := gE hg
  obtain ⟨v, h1, h2, h3⟩ := h.no (fun u => decide (u = w)) ⟨w, hw, decide_eq_true rfl⟩ (decide_eq_false (Ne.symm hne))
  have := of_decide_eq_true h2
  subst this
  have e : ind (fun u => decide (u = v)) = one v := funext fun u => by
    show cond (decide (u = v)) 1 0 = if u = v then (1 : Int) else 0
    by_cases c : u = v
    · rw [decide_eq_true c, if_pos c]; rfl
    · rw [decide_eq_false c, if_neg c]; rfl
  rw [← lap_ind_in h2, e, lap_one v (Eg g) fun e he => (gE1 e he).1] at h3
  exact h3
theorem recOf_i {g : Gr} (hg : GOk g) {q : Nat} (hq : q < N g) {p : List Int} {P : Nat → Int} (hp : vec (N g) p P) (hP : Bd (N g) 60 P) : ∃ r R S, impl_recurrentOf g p (q : Int) = some r ∧ Rec g q P r R S := by
  have hn := gN hg
  obtain ⟨gE1, gE2, gE3⟩ := gE hg
  obtain ⟨f, f1, f2⟩ := full_i hg hq
  have fb : Bd (N g) 20 (fun w => if w = q then 0 else val (Eg g) w - 1) := fun w hw => by
    have := val_bd w (Eg g)
    show -20 ≤ (if w = q then (0 : Int) else val (Eg g) w - 1) ∧ (if w = q then (0 : Int) else val (Eg g) w - 1) ≤ 20
    split <;> omega
  obtain ⟨m, m1, m2⟩ := neg_i hn.2.2 hp (hP.up (by omega))
  obtain ⟨d, d1, d2⟩ := plus_i hn.2.2 f2 m2 (fb.up (by omega)) (fun w hw => by have := hP w hw; omega)
  have db : Bd (N g) 1000 (fun w => (if w = q then 0 else val (Eg g) w - 1) + - P w) := fun w hw => by
    have := fb w hw
    have := hP w hw
    simp only at *
    omega
  obtain ⟨x, y, O, S, x1, x2⟩ := reduce_i hg hq d2 db
  have xb : Bd (N g) 2000 O → ∃ r, (impl_NegateDivisor x).bind (fun r5 => (impl_plus f r5).bind fun r6 => cond (inside (q : Int) r6.length) (some (r6.set ((q : Int)).toNat 0)) none) = some r ∧ vec (N g) r (fun w => if w = q then 0 else (if w = q then 0 else val (Eg g) w - 1) + - O w) := fun hO => by
    obtain ⟨a, a1, a2⟩ := neg_i hn.2.2 x2.vx (hO.up (by omega))
    obtain ⟨b, b1, b2⟩ := plus_i hn.2.2 f2 a2 (fb.up (by omega)) (fun w hw => by have := hO w hw; omega)
    refine ⟨b.set q 0, ?_, b2.set hq 0⟩
    rw [a1, Option.bind_some, b1, Option.bind_some, inside_lt (by rw [b2.1]; exact hq), cond_true, toNat_n]
  have hO : ∀ w, w < N g → w ≠ q → 0 ≤ O w ∧ O w < val (Eg g) w := fun w hw hne => ⟨x2.red.pos w hw hne, red_lt hg x2.red hw hne⟩
  have hOq : Bd (N g) 2000 O := by
    have s1 : sm (N g) O = sm (N g) (fun w => (if w = q then 0 else val (Eg g) w - 1) + - P w) := by
      rw [sm_congr (g := fun w => ((if w = q then 0 else val (Eg g) w - 1) + - P w) + - lap (Eg g) S w) fun w hw => by have := x2.out w hw; omega, sm_add, sm_negI, lap_sumI gE1]; omega
    have s2 : sm (N g) O = O q + sm (N g) (fun w => if w = q then 0 else O w) := by
      rw [sm_congr (g := fun w => (if w = q then O q else 0) + if w = q then 0 else O w) fun w hw => by
        by_cases c : w = q
        · subst c; rw [if_pos rfl, if_pos rfl]; omega
        · rw [if_neg c, if_neg c]; omega, sm_add, sm_one, if_pos hq]
    have s3 := sm_le2 (n := N g) (f := fun w => (if w = q then 0 else val (Eg g) w - 1) + - P w) (lo := -80) (hi := 80) fun w hw => by
      have := fb w hw
      have := hP w hw
      simp only at *
      omega
    have s4 := sm_le2 (n := N g) (f := fun w => if w = q then 0 else O w) (lo := 0) (hi := 20) fun w hw => by
      have := val_bd w (Eg g)
      show 0 ≤ (if w = q then 0 else O w) ∧ (if w = q then 0 else O w) ≤ 20
      by_cases c : w = q
      · rw [if_pos c]; omega
      · rw [if_neg c]; have := hO w hw c; omega
    intro w hw
    by_cases c : w = q
    · subst c; omega
    · have := hO w hw c
      have := val_bd w (Eg g)
      omega
  obtain ⟨r, r1, r2⟩ := xb hOq
  refine ⟨r, _, S, ?_, r2, if_pos rfl, fun w hw => ?_, x2.q0, fun w hw hne => ?_, O, x2.red, fun w hw hne => ?_⟩
  · rw [impl_recurrentOf_eq, f1, Option.bind_some, m1, Option.bind_some, d1, Option.bind_some, x1, Option.bind_some]
    exact r1
  · have := val_bd w (Eg g)
    by_cases c : w = q
    · rw [if_pos c]; omega
    · rw [if_neg c, if_neg c]; have := hO w hw c; omega
  · have h1 := x2.out w hw
    simp only [if_neg hne] at h1 ⊢
    omega
  · simp only [if_neg hne]
    omega
/-- one recurrent pile for each class -/
theorem Rec.uniq {g : Gr} (hg : GOk g) {q : Nat} (hq : q < N g) {P P' : Nat → Int} {r r' : List Int} {R R' S S' : Nat → Int} (h : Rec g q P r R S) (h' : Rec g q P' r' R' S') {f : Nat → Int} (hf : ∀ w, w < N g → w ≠ q → P w = P' w + lap (Eg g) f w) : r = r' := by
  obtain ⟨gE1, gE2, gE3⟩ := gE hg
  obtain ⟨O, o1, o2⟩ := h.red
  obtain ⟨O', p1, p2⟩ := h'.red
  let s : Nat → Int := fun w => S' w + -(S w + f w)
  have es : ∀ w, lap (Eg g) s w = lap (Eg g) S' w - lap (Eg g) S w - lap (Eg g) f w := fun w => by
    simp only [s]
    rw [lap_add, lap_neg, lap_add]; omega
  let Q : Nat → Int := fun w => if w = q then O q - lap (Eg g) s q else O' w
  have hQ : Red (N g) (Eg g) q Q := ⟨fun v hv hne => by
    show 0 ≤ (if v = q then _ else O' v)
    rw [if_neg hne]; exact p1.pos v hv hne, fun A h1 h2 => by
    obtain ⟨v, v1, v2, v3⟩ := p1.no A h1 h2
    refine ⟨v, v1, v2, ?_⟩
    show (if v = q then _ else O' v) < _
    rw [if_neg (fun c => by rw [c, h2] at v2; cases v2)]; exact v3⟩
  have key := Red.uniq gE1 hq o1 hQ (s := s) fun v hv => by
    show (if v = q then _ else O' v) = _
    by_cases c : v = q
    · rw [if_pos c, c]
    · rw [if_neg c, es]
      have := o2 v hv c
      have := p2 v hv c
      have := h.out v hv c
      have := h'.out v hv c
      have := hf v hv c
      omega
  refine h.vr.eq h'.vr fun w hw => ?_
  by_cases c : w = q
  · subst c; rw [h.rq, h'.rq]
  · have k1 : (if w = q then O q - lap (Eg g) s q else O' w) = O w := (key w hw).2
    rw [if_neg c] at k1
    have := o2 w hw c
    have := p2 w hw c
    omega
/-- what is left is no debt -/
theorem Fin1.nonneg {g : Gr} (hg : GOk g) {q : Nat} (hq : q < N g) {P : Nat → Int} {x y : List Int} {T : Nat → Int} (h : Fin1 g q P x y T) (hl : ∀ t, Pay g q (Db g P) t → ∀ w, w < N g → T w ≤ t w) (hP : ∀ w, w < N g → 0 ≤ P w) {w : Nat} (hw : w < N g) (hne : w ≠ q) : 0 ≤ P w - lap (Eg g) T w := by
  obtain ⟨gE1, gE2, gE3⟩ := gE hg
  apply Classical.byContradiction
  intro hn
  have hT1 : 1 ≤ T w := by
    apply Classical.byContradiction
    intro c
    have e : T w = 0 := by have := h.lo w hw; omega
    have := lap_le_val (v := w) (u := T) (fun v hv => (h.lo v hv).1) gE1
    rw [e, Int.mul_zero] at this
    have := hP w hw
    omega
  let t : Nat → Int := fun v => if v < N g then T v + - one w v else 0
  have et : ∀ v, v < N g → lap (Eg g) t v = lap (Eg g) T v - lap (Eg g) (one w) v := fun v hv => by
    rw [lap_congr (g := fun v => T v + - one w v) hv (fun u hu => if_pos hu) gE1, lap_add, lap_neg]; omega
  have ht : Pay g q (Db g P) t := by
    refine ⟨?_, fun v => ?_, fun v hv hvq => ?_⟩
    · show (if q < N g then T q + - one w q else 0) = 0
      rw [if_pos hq, h.q0]
      unfold one
      rw [if_neg (Ne.symm hne)]; rfl
    · show 0 ≤ (if v < N g then T v + - one w v else 0) ∧ (if v < N g then T v + - one w v else 0) ≤ 30941000
      by_cases c : v < N g
      · rw [if_pos c]
        have := h.lo v c
        unfold one
        by_cases c2 : v = w
        · subst c2; rw [if_pos rfl]; omega
        · rw [if_neg c2]; omega
      · rw [if_neg c]; omega
    · rw [et v hv]
      unfold Db
      have e : ind (fun u => decide (u = w)) = one w := funext fun u => by
        show cond (decide (u = w)) 1 0 = if u = w then (1 : Int) else 0
        by_cases c : u = w
        · rw [decide_eq_true c, if_pos c]; rfl
        · rw [decide_eq_false c, if_neg c]; rfl
      by_cases c : v = w
      · subst c
        rw [lap_one v (Eg g) fun e he => (gE1 e he).1]; omega
      · have := lap_ind_out (A := fun u => decide (u = w)) (v := v) (decide_eq_false c) (Eg g)
        rw [e] at this
        have := h.st v hv hvq
        omega
  have := hl t ht w hw
  have e : t w = T w - 1 := by
    show (if w < N g then T w + - one w w else 0) = _
    rw [if_pos hw]
    unfold one
    rw [if_pos rfl]; omega
  omega
theorem pile_i {g : Gr} (hg : GOk g) {q : Nat} (hq : q < N g) {p : List Int} {P : Nat → Int} (hp : vec (N g) p P) (h : ∀ w, w < N g → 0 ≤ P w ∧ P w ≤ 60) (h0 : P q = 0) : impl_PileOk g p (q : Int) = some true := by
  have hn := gN hg
  have hl := hg.1.2.1
  obtain ⟨b, _, d2, d3⟩ := divOk_p (g := g) (d := p) (by omega) (by rw [hp.1]; omega)
  have hb := d3.2 ⟨hg, by rw [hp.1]; omega, fun j hj => by rw [hp.1] at hj; rw [hp.2 j hj]; have := h j hj; omega⟩
  subst hb
  have he : impl_IsEffective p = some true := by
    rw [impl_IsEffective_eq]
    have key : ∀ m k, k + m = p.length → impl_IsEffective_l0 p (p.length : Int) (k : Int) = some true := by
      intro m
      induction m with
      | zero =>
        intro k hk
        have : k = p.length := by omega
        subst this
        rw [impl_IsEffective_l0_eq, dec_lt_f]; rfl
      | succ m ih =>
        intro k hk
        have hk' : k < p.length := by omega
        have hk2 : k < N g := by rw [← hp.1]; exact hk'
        have := h k hk2
        rw [impl_IsEffective_l0_eq, dec_lt_t hk', inside_lt hk', w64_succ hk' (by rw [hp.1]; omega), toNat_n, hp.2 k hk2, decide_eq_false (by omega)]
        exact ih (k + 1) (by omega)
    exact key p.length 0 (by omega)
  rw [impl_PileOk_eq, d2, Option.bind_some, cond_true, within_p, w64_id (n := g.1 - 1) (by omega) (by omega), decide_eq_true (show (0 : Int) ≤ (q : Int) ∧ (q : Int) ≤ g.1 - 1 by omega), Option.bind_some, cond_true, he, Option.bind_some, cond_true, inside_lt (by rw [hp.1]; exact hq), cond_true, toNat_n, hp.2 q hq, h0]
  rfl
theorem makePile_p {l : List Int} (hl : l.length ≤ 1048576) {g : Gr} (hg : GOk g) {q : Nat} (hq : q < N g) : ∃ p P, spec_MakePile l 20 g (q : Int) = some p ∧ vec (N g) p P ∧ (∀ w, w < N g → 0 ≤ P w ∧ P w ≤ 60) ∧ P q = 0 := by
  have hn := gN hg
  obtain ⟨c, c1, c2⟩ := skip_p hl (n := 20) (by omega)
  have c1' : spec_l21New l 20 = some c := c1
  have key : ∀ (m k : Nat) (c : Cur) (x : List Int), k + m = N g → CurOk c → x.length = k → (∀ w, w < k → 0 ≤ x.getD w 0 ∧ x.getD w 0 < 7) → ∃ p c', spec_l10Draw_l0 c (q : Int) g x (k : Int) = some (p, c') ∧ p.length = N g ∧ (∀ w, w < N g → 0 ≤ p.getD w 0 ∧ p.getD w 0 ≤ 60) ∧ p.getD q 0 = 0 := by
    intro m
    induction m with
    | zero =>
      intro k c x hk hc hx hb
      rw [spec_l10Draw_l0_eq, decide_eq_false (by omega), cond_false, decide_eq_true (show (q : Int) ≥ 0 by omega), cond_true, decide_eq_true (by omega), cond_true, inside_lt (by omega), cond_true, toNat_n]
      refine ⟨_, _, rfl, by rw [List.length_set]; omega, fun w hw => ?_, ?_⟩
      · rw [getD_set (by omega)]
        by_cases e : w = q
        · rw [if_pos e]; omega
        · rw [if_neg e]; have := hb w (by omega); omega
      · rw [getD_set (by omega), if_pos rfl]
    | succ m ih =>
      intro k c x hk hc hx hb
      obtain ⟨y, c', y1, y2, y3⟩ := below_p hc (n := 7) (by omega) (by omega)
      rw [spec_l10Draw_l0_eq, decide_eq_true (by omega), cond_true, y1, Option.bind_some]
      simp only
      rw [decide_eq_true (by rw [room, List.length_singleton]; omega), cond_true, w64_id (n := (k : Int) + 1) (by omega) (by omega)]
      refine ih (k + 1) c' _ (by omega) y3 (by rw [List.length_append, List.length_singleton, hx]) fun w hw => ?_
      by_cases e : w < k
      · rw [getD_appL (by omega)]; exact hb w e
      · have : w = x.length := by omega
        subst this
        rw [getD_lt (by rw [List.length_append, List.length_singleton]; omega), List.getElem_append_right (Nat.le_refl _)]
        simp only [Nat.sub_self, List.getElem_singleton]
        exact y2
  obtain ⟨p, c', p1, p2, p3, p4⟩ := key (N g) 0 c [] (by omega) c2 rfl (fun w hw => by omega)
  have p1' : spec_l10Draw_l0 c (q : Int) g [] 0 = some (p, c') := p1
  refine ⟨p, fun w => p.getD w 0, ?_, ⟨p2, fun w hw => rfl⟩, p3, p4⟩
  rw [spec_MakePile_eq, c1', Option.bind_some, spec_l10Draw_eq, p1']; rfl
end Go.Proofs.Ythmddgkpebneoaa.D

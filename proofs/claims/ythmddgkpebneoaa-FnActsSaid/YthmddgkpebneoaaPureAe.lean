/-
  Walkers act on spanning trees as the group does.
-/
import Derived.Test.YthmddgkpebneoaaPureSr
namespace Go.Proofs.Ythmddgkpebneoaa.D
open Go Go.Den
set_option linter.unusedVariables false
set_option linter.unusedSimpArgs false
theorem Sol.cong {g : Gr} {q : Int} {r0 : List Int} {a a' : Nat → Int} {x : List Int} {F H : Nat → Int} (S : Sol g q r0 a x F H) (h : ∀ v, v < N g → a v = a' v) : Sol g q r0 a' x F H :=
  ⟨S.ts, S.bal, S.sink, fun A hA => (S.flow A hA).trans (sm_congr fun v hv => by rw [h v hv])⟩
theorem act_i {g : Gr} {t p r0 : List Int} {q : Nat} {P : Nat → Int} (h0 : TS g r0 (q : Int)) (hs : impl_StateOfTree g t (q : Int) = some (r0, true)) (hp : vec (N g) p P) (hP : ∀ w, w < N g → 0 ≤ P w ∧ P w ≤ 60) (hPq : P q = 0) (hq : q < N g) : ∃ x F H, Sol g (q : Int) r0 P x F H ∧ impl_ActOnTree g t (q : Int) p = impl_TreeOfState g x (q : Int) := by
  have hG := h0.1.1.1
  have hn := gN hG
  have idb : ∀ o : Option (List Int × Bool), (o.bind fun r4 => some (r4.1, r4.2)) = o := fun o => by cases o <;> rfl
  have key : ∀ (m v : Nat) (r : List Int) (F H : Nat → Int), v + m = p.length → Sol g (q : Int) r0 (fun w => if w < v then P w else 0) r F H → ∃ x F H, Sol g (q : Int) r0 P x F H ∧ impl_ActOnTree_l0 (q : Int) g r p (p.length : Int) (v : Int) = impl_TreeOfState g x (q : Int) := by
    intro m
    induction m with
    | zero =>
      intro v r F H hv S
      have : v = p.length := by omega
      subst this
      refine ⟨r, F, H, S.cong fun w hw => if_pos (by rw [hp.1]; exact hw), ?_⟩
      rw [impl_ActOnTree_l0_eq, dec_lt_f]
      exact idb _
    | succ m ih =>
      intro v r F H hv S
      have hv' : v < p.length := by omega
      have hv2 : v < N g := by rw [← hp.1]; exact hv'
      have hc := hP v hv2
      have inner : ∀ (m k : Nat) (r : List Int) (F H : Nat → Int), (k : Int) + (m : Int) = P v → Sol g (q : Int) r0 (fun w => (if w < v then P w else 0) + if w = v then (k : Int) else 0) r F H → ∃ x F H, Sol g (q : Int) r0 P x F H ∧ impl_ActOnTree_l2 (q : Int) g r (v : Int) (P v) (k : Int) p (p.length : Int) (v : Int) = impl_TreeOfState g x (q : Int) := by
        intro m
        induction m with
        | zero =>
          intro k r F H hk S
          rw [impl_ActOnTree_l2_eq, decide_eq_false (by omega), cond_false, w64_succ hv' (by rw [hp.1]; omega)]
          refine ih (v + 1) r F H (by omega) (S.cong fun w hw => ?_)
          by_cases c : w = v
          · subst c; rw [if_neg (Nat.lt_irrefl _), if_pos rfl, if_pos (Nat.lt_succ_self _)]; omega
          · rw [if_neg c]
            by_cases c2 : w < v
            · rw [if_pos c2, if_pos (show w < v + 1 by omega)]; omega
            · rw [if_neg c2, if_neg (show ¬ w < v + 1 by omega)]; rfl
        | succ m ih2 =>
          intro k r F H hk S
          obtain ⟨n, y, F', H', n1, R, S'⟩ := S.more h0 hv2
          have hw := R.walk (by omega) S.ts.1.1 S.ts.1.2 (by omega)
          rw [impl_ActOnTree_l2_eq, decide_eq_true (by omega), cond_true, hw, Option.bind_some]
          simp only [Bool.not_true, cond_false]
          rw [w64_id (n := (k : Int) + 1) (by omega) (by omega)]
          exact ih2 (k + 1) y F' H' (by omega) (S'.cong fun w hw => by
            by_cases c : w = v
            · subst c; rw [if_pos rfl, if_pos rfl, if_pos rfl]; omega
            · rw [if_neg c, if_neg c, if_neg c]; omega)
      rw [impl_ActOnTree_l0_eq, dec_lt_t hv', inside_lt hv', toNat_n, hp.2 v hv2]
      simp only [cond_true]
      exact inner (P v).toNat 0 r F H (by omega) (S.cong fun w hw => by split <;> split <;> omega)
  obtain ⟨x, F, H, x1, x2⟩ := key p.length 0 r0 _ _ (by omega) ((Sol.start h0).cong fun w hw => by rw [if_neg (by omega)])
  refine ⟨x, F, H, x1, ?_⟩
  rw [impl_ActOnTree_eq, hs, Option.bind_some]
  simp only [Bool.not_true, cond_false]
  rw [pile_i hG hq hp hP hPq, Option.bind_some]
  exact x2
theorem sameD_p {a b : List Int} (ha : a.length ≤ 1000) : laws_same a b = some (decide (a = b)) := by
  rw [laws_same_eq]
  by_cases c : a.length = b.length
  · have key : ∀ m k, k + m = a.length → (∀ j, j < k → a.getD j 0 = b.getD j 0) → laws_same_l0 b a (a.length : Int) (k : Int) = some (decide (a = b)) := by
      intro m
      induction m with
      | zero =>
        intro k hk h
        have : k = a.length := by omega
        subst this
        rw [laws_same_l0_eq, dec_lt_f, decide_eq_true (ext_getD (d := 0) c fun j hj => h j hj)]; rfl
      | succ m ih =>
        intro k hk h
        have hk' : k < a.length := by omega
        rw [laws_same_l0_eq, dec_lt_t hk', inside_lt hk', inside_lt (by omega), w64_succ hk' (by omega), toNat_n]
        simp only [cond_true]
        by_cases e : a.getD k 0 = b.getD k 0
        · rw [eq_f e, cond_false]
          exact ih (k + 1) (by omega) fun j hj => by
            by_cases e2 : j = k
            · subst e2; exact e
            · exact h j (by omega)
        · rw [ne_t e, cond_true, decide_eq_false (fun k => e (by rw [k]))]
    rw [eq_f (show (a.length : Int) = (b.length : Int) by omega), cond_false]
    exact key a.length 0 (by omega) (fun j hj => by omega)
  · rw [ne_t (show ¬ (a.length : Int) = (b.length : Int) by omega), cond_true, decide_eq_false (fun k => c (by rw [k]))]
theorem law_Acts {l : List Int} : laws_FnActs l = some true := by
  rw [laws_FnActs_eq]
  by_cases c0 : (l.length : Int) > 1048576
  · rw [decide_eq_true c0]; rfl
  obtain ⟨g, t, g1, hG, g2, hlen, hT⟩ := makeTree_p (l := l) (by omega)
  obtain ⟨a, a1, a2, a3⟩ := num_p (l := l) (by omega) (n := 60) (by omega)
  have a1' : spec_MakeNum l 60 = some a := a1
  have hn := gN hG
  have h12 := hG.1.2.1
  obtain ⟨gE1, gE2, gE3⟩ := gE hG
  rw [decide_eq_false c0, cond_false, g1, Option.bind_some, a1', Option.bind_some]
  simp only
  rw [decide_eq_false (show ¬ g.1 = 0 by omega), cond_false]
  have q0 : 0 ≤ Int.tmod a g.1 := Int.tmod_nonneg _ a2
  have q1 : Int.tmod a g.1 < g.1 := Int.tmod_lt_of_pos _ (by omega)
  generalize Int.tmod a g.1 = qi at q0 q1
  obtain ⟨q, rfl⟩ : ∃ q : Nat, qi = (q : Int) := ⟨qi.toNat, by omega⟩
  have hq : q < N g := by omega
  obtain ⟨p, P, p1, p2, p3, p4⟩ := makePile_p (l := l) (by omega) hG hq
  obtain ⟨r, R, S, r1, r2⟩ := recOf_i hG hq p2 (fun w hw => by have := p3 w hw; omega)
  obtain ⟨s, y, T, s1, s2, s3⟩ := settle_i hG hq p2 (fun w hw => by have := p3 w hw; omega)
  obtain ⟨e, E, U, e1, e2⟩ := recOf_i hG hq (vec.zero (N g)) (fun w hw => by omega)
  have pk := pile_i hG hq p2 p3 p4
  obtain ⟨r0, _, t2, t3, t4⟩ := state_p (g := g) (t := t) (q := (q : Int)) (fun l v h => has_c h) (by omega) (by omega)
  have hr := t4 hG hlen hT q0 q1
  obtain ⟨⟨hR, hRq⟩, hld, hm⟩ := t3 hr
  have hTS : TS g r0.1 (q : Int) := ⟨⟨hR, hRq⟩, fun u h0 h1 => (hld u h0 h1).to.ex⟩
  have hst : impl_StateOfTree g t (q : Int) = some (r0.1, true) := by rw [t2, ← hr]
  have ht0 := treeOf_t hTS hT hlen hm
  have hr1 : (decide (0 ≤ g.1) && decide (g.1 ≤ (room : Int))) = true := by rw [room]; simp; omega
  -- the four walks
  obtain ⟨x1, F1, H1, S1, w1⟩ := act_i hTS hst p2 p3 p4 hq
  obtain ⟨x2, F2, H2, S2, w2⟩ := act_i hTS hst r2.vr (fun w hw => by have := r2.bd w hw; omega) r2.rq hq
  have sb : ∀ w, w < N g → 0 ≤ (if w = q then 0 else P w - lap (Eg g) T w) ∧ (if w = q then 0 else P w - lap (Eg g) T w) ≤ 60 := fun w hw => by
    by_cases c : w = q
    · rw [if_pos c]; omega
    · rw [if_neg c]
      have h1 := s2.nonneg hG hq s3 (fun w hw => (p3 w hw).1) hw c
      have h2 := s2.st w hw c
      have := val_bd w (Eg g)
      omega
  obtain ⟨x3, F3, H3, S3, w3⟩ := act_i hTS hst s2.vx sb (if_pos rfl) hq
  obtain ⟨x4, F4, H4, S4, w4⟩ := act_i hTS hst e2.vr (fun w hw => by have := e2.bd w hw; omega) e2.rq hq
  have off : ∀ {v : Nat}, v < N g → (v : Int) ≠ (q : Int) → v ≠ q := fun hv h c => h (by omega)
  have E12 : x1 = x2 := by
    obtain ⟨F', H', S'⟩ := S1.shift S (by rw [Int.toNat_natCast]; exact r2.q0)
    exact S'.uniq hR (fun v hv hne => (r2.out v hv (off hv hne)).symm) S2
  have E13 : x1 = x3 := by
    obtain ⟨F', H', S'⟩ := S1.shift (fun v => - T v) (by rw [Int.toNat_natCast, s2.q0]; rfl)
    exact S'.uniq hR (fun v hv hne => by rw [lap_neg, if_neg (off hv hne)]; omega) S3
  have E40 : x4 = r0.1 := by
    obtain ⟨F', H', S'⟩ := (Sol.start hTS).shift U (by rw [Int.toNat_natCast]; exact e2.q0)
    exact (S'.uniq hR (fun v hv hne => (e2.out v hv (off hv hne)).symm) S4).symm
  obtain ⟨T1, y1, y2, y3, y4⟩ := treeOf_m S1.ts
  have hl1 := S1.ts.1.1.2.2.2.1
  have hl0 := hR.2.2.2.1
  rw [← E12] at w2
  rw [← E13] at w3
  rw [E40, ht0] at w4
  rw [y1] at w1 w2 w3
  have iff1 : T1 = t ↔ r = e := by
    constructor
    · intro c
      obtain ⟨T0, z1, z2, z3, z4⟩ := treeOf_m hTS
      have hT0 : T0 = t := congrArg Prod.fst (Option.some.inj (z1.symm.trans ht0))
      have hx : x1 = r0.1 := tree_same S1.ts hTS fun u u0 u1 uq => by
        have hi := (y4 (x1.getD u.toNat 0)).2 ⟨u.toNat, by omega, by omega, rfl⟩
        rw [c, ← hT0] at hi
        obtain ⟨v, v1, v2, v3⟩ := (z4 _).1 hi
        exact ⟨(v : Int), by omega, by omega, v2, by rw [v3, Int.toNat_natCast]⟩
      rw [hx] at S1
      obtain ⟨f, f1, f2⟩ := S1.zero
      exact Rec.uniq hG hq r2 e2 (f := f) fun w hw hne => by
        have := f2 w hw (fun k => hne (by omega))
        omega
    · intro c
      have hv' : ∀ v, v < N g → v ≠ q → P v = lap (Eg g) (fun v => U v + - S v) v := fun v hv hne => by
        rw [lap_add, lap_neg]
        have h1 := r2.out v hv hne
        have h2 := e2.out v hv hne
        have h3 := r2.vr.2 v hv
        have h4 := e2.vr.2 v hv
        rw [c] at h3
        omega
      obtain ⟨F', H', S'⟩ := (Sol.start hTS).shift (fun v => U v + - S v) (by rw [Int.toNat_natCast]; have := r2.q0; have := e2.q0; omega)
      have hx : r0.1 = x1 := S'.uniq hR (fun v hv hne => by have h5 := hv' v hv (off hv hne); omega) S1
      rw [← hx, ht0] at y1
      exact (congrArg Prod.fst (Option.some.inj y1)).symm
  have hrl : r.length ≤ 1000 := by rw [r2.vr.1]; omega
  rw [p1, Option.bind_some, impl_RecurrentOf_eq, pk, Option.bind_some]
  simp only [Bool.not_true, cond_false]
  rw [r1, Option.bind_some, Option.bind_some]
  simp only
  rw [impl_Stabilize_eq, pk, Option.bind_some]
  simp only [Bool.not_true, cond_false]
  rw [s1, Option.bind_some, Option.bind_some]
  simp only
  rw [laws_FnActs_c8_eq, w1, Option.bind_some, w2, Option.bind_some, w3, Option.bind_some, impl_IdentityPile_eq, vtx_i hG hq, Option.bind_some]
  simp only [Bool.not_true, cond_false]
  rw [hr1, cond_true, show g.1.toNat = N g from rfl, e1, Option.bind_some, Option.bind_some]
  simp only
  rw [w4, Option.bind_some, laws_FnActs_c13_eq]
  simp only [Bool.not_true, cond_false]
  rw [isTree_m S1.ts y2 y3 y4, Option.bind_some]
  simp only [Bool.not_true, cond_false]
  rw [sameD_p (a := T1) (b := T1) (by omega), decide_eq_true rfl, Option.bind_some, cond_true, Option.bind_some, cond_true, sameD_p (a := t) (b := t) (by omega), decide_eq_true rfl, Option.bind_some, cond_true, sameD_p (a := T1) (b := t) (by omega), Option.bind_some, sameD_p hrl, Option.bind_some]
  rw [decide_eq_decide.2 iff1, beq_self_eq_true]
end Go.Proofs.Ythmddgkpebneoaa.D

/-
  Walkers act on rotors as the group does: classes, and the trees.
-/
import Derived.Test.YthmddgkpebneoaaPureAc
namespace Go.Proofs.Ythmddgkpebneoaa.D
open Go Go.Den
set_option linter.unusedVariables false
set_option linter.unusedSimpArgs false
/-! ### flows of scripts -/
def crA (A : Nat → Bool) (S : Nat → Int) : Es → Int
  | [] => 0
  | e :: E => ((if A e.1 = true then S e.1 - S e.2 else 0) + (if A e.2 = true then S e.2 - S e.1 else 0)) + crA A S E
theorem crA_app (A : Nat → Bool) (S : Nat → Int) (x : Nat × Nat) : ∀ E : Es, crA A S (E ++ [x]) = crA A S E + ((if A x.1 = true then S x.1 - S x.2 else 0) + (if A x.2 = true then S x.2 - S x.1 else 0))
  | [] => by simp [crA]
  | e :: E => by rw [List.cons_append, crA, crA, crA_app A S x E]; omega
theorem crA_sum {n : Nat} (A : Nat → Bool) (S : Nat → Int) : ∀ {E : Es}, GE n E → sm n (fun v => if A v = true then lap E S v else 0) = crA A S E
  | [], _ => by
    rw [sm_congr (g := fun _ => 0) fun v _ => by simp [lap]]
    exact sm_zero n
  | e :: E, hE => by
    have he := hE e List.mem_cons_self
    have ih := crA_sum A S (E := E) hE.tail
    have : sm n (fun v => if A v = true then lap (e :: E) S v else 0) = sm n (fun v => (if v = e.1 then (if A e.1 = true then S e.1 - S e.2 else 0) else if v = e.2 then (if A e.2 = true then S e.2 - S e.1 else 0) else 0) + if A v = true then lap E S v else 0) := sm_congr fun v hv => by
      rw [lap_cons]
      unfold tm
      by_cases c1 : v = e.1
      · subst c1
        rw [if_pos rfl, if_pos rfl]
        split <;> omega
      · rw [if_neg c1, if_neg c1]
        by_cases c2 : v = e.2
        · subst c2
          rw [if_pos rfl, if_pos rfl]
          split <;> omega
        · rw [if_neg c2, if_neg c2]
          split <;> omega
    rw [this, sm_add, ih, sm_pair (by omega) (by omega) he.2]
    rfl
def fA (g : Gr) (f : Nat → Int) (e : Nat) : Int := f (ed g e).1.toNat
def fB (g : Gr) (f : Nat → Int) (e : Nat) : Int := f (ed g e).2.toNat
theorem cross_lap {g : Gr} (hG : GOk g) (A : Int → Bool) (f : Nat → Int) : sm g.2.length (cross A g (fA g f) (fB g f)) = sm (N g) (fun v => if A (v : Int) = true then lap (Eg g) f v else 0) := by
  obtain ⟨gE1, gE2, gE3⟩ := gE hG
  have key : ∀ k, k ≤ g.2.length → sm k (cross A g (fA g f) (fB g f)) = crA (fun v => A (v : Int)) f ((Eg g).take k) := by
    intro k
    induction k with
    | zero => intro _; rw [List.take_zero]; rfl
    | succ k ih =>
      intro hk
      have hk' : k < g.2.length := by omega
      obtain ⟨a, b, e1, e2, hab, hb⟩ := gEk hG hk'
      have et : (Eg g).take (k + 1) = (Eg g).take k ++ [(a, b)] := by
        rw [← e2, List.take_add_one, List.getD_eq_getElem?_getD, List.getElem?_eq_getElem (by omega)]; rfl
      have e1' : ed g k = ((a : Int), (b : Int)) := e1
      rw [sm, ih (by omega), et, crA_app]
      congr 1
      unfold cross fA fB
      rw [e1']
      simp only [Int.toNat_natCast]
      cases h1 : A (a : Int) <;> cases h2 : A (b : Int) <;> simp <;> omega
  rw [key g.2.length (Nat.le_refl _), ← gE3, List.take_length]
  exact (crA_sum (n := N g) (fun v => A (v : Int)) f gE1).symm
theorem cross_add (A : Int → Bool) (g : Gr) (F H F' H' : Nat → Int) (e : Nat) : cross A g (fun e => F e + F' e) (fun e => H e + H' e) e = cross A g F H e + cross A g F' H' e := by
  unfold cross
  cases A (ed g e).1 <;> cases A (ed g e).2 <;> simp <;> omega
/-- full turns of the rotors: another configuration of the class, the same rotors -/
theorem Sol.shift {g : Gr} {q : Int} {r0 : List Int} {a : Nat → Int} {x : List Int} {F H : Nat → Int} (S : Sol g q r0 a x F H) (f : Nat → Int) (hf : f q.toNat = 0) : ∃ F' H', Sol g q r0 (fun v => a v + lap (Eg g) f v) x F' H' := by
  have hG := S.ts.1.1.1
  have oo : ∀ e u, AtN g e u → outs g (fun e => F e + fA g f e) (fun e => H e + fB g f e) e u = outs g F H e u + f u.toNat := fun e u h => by
    unfold outs fA fB
    by_cases c : (ed g e).1 = u
    · rw [if_pos c, if_pos c]; show F e + f (ed g e).1.toNat = _; rw [c]
    · rw [if_neg c, if_neg c]; show H e + f (ed g e).2.toNat = _; rw [h.resolve_left c]
  refine ⟨fun e => F e + fA g f e, fun e => H e + fB g f e, S.ts, fun u u0 u1 uq => ?_, fun e he hae => ?_, fun A hA => ?_⟩
  · obtain ⟨k, hk⟩ := S.bal u u0 u1 uq
    refine ⟨k + f u.toNat, fun e he hae => ?_⟩
    rw [oo e u hae, hk e he hae]; omega
  · rw [oo e q hae, S.sink e he hae, hf]; rfl
  · rw [sm_congr fun e _ => cross_add A g F H (fA g f) (fB g f) e, sm_add, S.flow A hA, cross_lap hG, ← sm_add]
    exact sm_congr fun v _ => by split <;> omega
/-- rotors that stand as they did: the configuration is of the class of nothing -/
theorem Sol.zero {g : Gr} {q : Int} {r0 : List Int} {a : Nat → Int} {F H : Nat → Int} (S : Sol g q r0 a r0 F H) : ∃ f : Nat → Int, f q.toNat = 0 ∧ ∀ v, v < N g → (v : Int) ≠ q → a v = lap (Eg g) f v := by
  classical
  have hG := S.ts.1.1.1
  have hn := gN hG
  obtain ⟨gE1, gE2, gE3⟩ := gE hG
  have hK : ∀ u : Int, ∃ k : Int, 0 ≤ u → u < g.1 → u ≠ q → ∀ e, e < g.2.length → AtN g e u → outs g F H e u = k := fun u => by
    by_cases c : 0 ≤ u ∧ u < g.1 ∧ u ≠ q
    · obtain ⟨k, hk⟩ := S.bal u c.1 c.2.1 c.2.2
      refine ⟨k + 1, fun _ _ _ e he hae => ?_⟩
      have hρ := (S.ts.1.1.atN c.1 c.2.1 c.2.2).1
      have := off_lt (m := g.2.length) (a := rt r0 u) (i := e) (by omega)
      rw [hk e he hae, if_pos (by rw [show off g.2.length (rt r0 u) (rt r0 u) = g.2.length - 1 from off_self hρ]; omega)]
    · exact ⟨0, fun a b d => absurd ⟨a, b, d⟩ c⟩
  let f : Nat → Int := fun v => if (v : Int) = q then 0 else Classical.choose (hK (v : Int))
  have hq0 := S.ts.1.1.2.1
  have hfo : ∀ e u, e < g.2.length → AtN g e u → 0 ≤ u → u < g.1 → outs g F H e u = f u.toNat := fun e u he hae u0 u1 => by
    simp only [f]
    rw [show ((u.toNat : Nat) : Int) = u by omega]
    by_cases c : u = q
    · subst c; rw [if_pos rfl]; exact S.sink e he hae
    · rw [if_neg c]
      exact Classical.choose_spec (hK u) u0 u1 c e he hae
  have hF : ∀ e, e < g.2.length → F e = fA g f e ∧ H e = fB g f e := fun e he => by
    have hee := ed_ok hG he
    have o1 := hfo e (ed g e).1 he (.inl rfl) hee.1 (by omega)
    have o2 := hfo e (ed g e).2 he (.inr rfl) (by omega) hee.2.2
    have p1 : outs g F H e (ed g e).1 = F e := if_pos rfl
    have p2 : outs g F H e (ed g e).2 = H e := if_neg (by omega)
    exact ⟨p1.symm.trans o1, p2.symm.trans o2⟩
  refine ⟨f, ?_, fun v hv hvq => ?_⟩
  · simp only [f]
    rw [show ((q.toNat : Nat) : Int) = q by omega, if_pos rfl]
  · let A : Int → Bool := fun u => decide (u = (v : Int))
    have hA : A q = false := decide_eq_false fun c => hvq c.symm
    have h1 := S.flow A hA
    have h2 := cross_lap hG A f
    have e1 : sm g.2.length (cross A g F H) = sm g.2.length (cross A g (fA g f) (fB g f)) := sm_congr fun e he => by
      unfold cross
      rw [(hF e he).1, (hF e he).2]
    have pick : ∀ b : Nat → Int, sm (N g) (fun w => if A (w : Int) = true then b w else 0) = b v := fun b => by
      have : sm (N g) (fun w => if A (w : Int) = true then b w else 0) = sm (N g) (fun w => if w = v then b v else 0) := sm_congr fun w _ => by
        by_cases c : w = v
        · subst c; rw [if_pos (decide_eq_true rfl), if_pos rfl]
        · rw [if_neg (fun k => c (by have := of_decide_eq_true k; omega)), if_neg c]
      rw [this, sm_one, if_pos hv]
    rw [pick] at h1 h2
    rw [← h1, e1, h2]
/-! ### trees -/
theorem tree_same {g : Gr} {q : Int} {x x' : List Int} (T : TS g x q) (T' : TS g x' q) (h : ∀ u, 0 ≤ u → u < g.1 → u ≠ q → ∃ z, 0 ≤ z ∧ z < g.1 ∧ z ≠ q ∧ x.getD u.toNat 0 = x'.getD z.toNat 0) : x = x' := by
  have hG := T.1.1.1
  have hl := T.1.1.2.2.2.1
  have hl' := T'.1.1.2.2.2.1
  have key : ∀ {k : Nat} {u : Int}, Ex g x q k u → u ≠ q → x'.getD u.toNat 0 = x.getD u.toNat 0 := by
    intro k u hk
    induction hk with
    | sink => exact fun c => absurd rfl c
    | @step k u u0 u1 uq hk ih =>
      intro _
      obtain ⟨z, z0, z1, zq, e⟩ := h u u0 u1 uq
      obtain ⟨he, hae⟩ := T.1.1.atN u0 u1 uq
      have haz := (T'.1.1.atN z0 z1 zq).2
      rw [← e] at haz
      have hee := ed_ok hG he
      generalize hw : oth (ed g (x.getD u.toNat 0).toNat) u = w at ih hk
      have hwne : u ≠ w := by
        rw [← hw]; unfold oth
        rcases hae with a | a <;> omega
      have hz : z = u ∨ z = w := by
        rw [← hw]; unfold oth
        rcases hae with a | a <;> rcases haz with b | b <;> omega
      rcases hz with c | c
      · rw [c] at e; exact e.symm
      · exfalso
        subst c
        have := ih zq
        exact T.inj ⟨u0, u1, uq⟩ ⟨z0, z1, zq⟩ hwne (by rw [e, this])
  refine ext_getD (d := 0) (by omega) fun j hj => ?_
  by_cases c : (j : Int) = q
  · have h1 := T.1.2
    have h2 := T'.1.2
    rw [show q.toNat = j by omega] at h1 h2
    rw [h1, h2]
  · obtain ⟨k, hk⟩ := T.2 (j : Int) (by omega) (by omega)
    have := key hk c
    rw [Int.toNat_natCast] at this
    exact this.symm
theorem treeOf_m {g : Gr} {r : List Int} {q : Int} (h : TS g r q) : ∃ t, impl_TreeOfState g r q = some (t, true) ∧ t.Pairwise (· < ·) ∧ (t.length : Int) = g.1 - 1 ∧ ∀ i, i ∈ t ↔ ∃ v : Nat, v < r.length ∧ ¬ (v : Int) = q ∧ i = r.getD v 0 := by
  have hRO := h.1.1
  obtain ⟨hG, q0, q1, hl, hv⟩ := hRO
  have hn := hG.1.1
  rw [impl_TreeOfState_eq, treeSt_t h]
  simp only [Option.bind_some, Bool.not_true, cond_false]
  have key : ∀ (m k : Nat) (s : List Int), k + m = r.length → s.Nodup → (∀ x, x ∈ s ↔ ∃ v : Nat, v < k ∧ ¬ (v : Int) = q ∧ x = r.getD v 0) → (s.length : Int) = (k : Int) - (if q < (k : Int) then 1 else 0) → ∃ t, impl_TreeOfState_l0 q s r (r.length : Int) (k : Int) = some (t, true) ∧ t.Pairwise (· < ·) ∧ (t.length : Int) = g.1 - 1 ∧ ∀ i, i ∈ t ↔ ∃ v : Nat, v < r.length ∧ ¬ (v : Int) = q ∧ i = r.getD v 0 := by
    intro m
    induction m with
    | zero =>
      intro k s hk hnd hs hc
      have : k = r.length := by omega
      subst this
      rw [if_pos (by omega)] at hc
      obtain ⟨s1, s2⟩ := sort_p (l := s) (by omega)
      have hp := List.mergeSort_perm s (fun a b : Int => decide (a ≤ b))
      have hsrt : (s.mergeSort fun a b => decide (a ≤ b)).Pairwise (fun a b => decide (a ≤ b) = true) := List.pairwise_mergeSort (fun a b c h1 h2 => by simp only [decide_eq_true_eq] at *; omega) (fun a b => by simp only [Bool.or_eq_true, decide_eq_true_eq]; omega) s
      have hnd2 : (s.mergeSort fun a b => decide (a ≤ b)).Pairwise (· ≠ ·) := hp.nodup_iff.2 hnd
      refine ⟨s.mergeSort fun a b => decide (a ≤ b), ?_, (hsrt.and hnd2).imp fun {a b} hab => by have := of_decide_eq_true hab.1; have := hab.2; omega, by rw [List.length_mergeSort]; omega, fun i => hp.mem_iff.trans (hs i)⟩
      rw [impl_TreeOfState_l0_eq, dec_lt_f, s1]; rfl
    | succ m ih =>
      intro k s hk hnd hs hc
      have hk' : k < r.length := by omega
      rw [impl_TreeOfState_l0_eq, dec_lt_t hk', inside_lt hk', w64_succ hk' (by omega)]
      simp only [cond_true]
      by_cases c : (k : Int) = q
      · rw [eq_f c]
        refine ih (k + 1) s (by omega) hnd (fun x => (hs x).trans ⟨fun ⟨v, x1, x2, x3⟩ => ⟨v, by omega, x2, x3⟩, fun ⟨v, x1, x2, x3⟩ => ⟨v, by omega, x2, x3⟩⟩) ?_
        rw [if_neg (by omega)] at hc
        rw [if_pos (by omega)]
        omega
      · rw [ne_t c]
        simp only [cond_true]
        have hsl : s.length ≤ 6 := by
          split at hc <;> omega
        rw [decide_eq_true (by rw [room]; simp only [List.length_singleton]; omega), cond_true, show ((k : Int)).toNat = k by omega]
        refine ih (k + 1) _ (by omega) ?_ (fun x => ?_) ?_
        · rw [List.nodup_append]
          refine ⟨hnd, by simp, fun x hx y hy e => ?_⟩
          rw [List.mem_singleton] at hy
          obtain ⟨v, x2, x3, x4⟩ := (hs x).1 hx
          have := h.inj (u := (v : Int)) (v := (k : Int)) ⟨by omega, by omega, x3⟩ ⟨by omega, by omega, c⟩ (by omega)
          rw [show ((v : Int)).toNat = v by omega, show ((k : Int)).toNat = k by omega] at this
          exact this (by rw [← x4, e, hy])
        · rw [List.mem_append, hs x, List.mem_singleton]
          constructor
          · rintro (⟨v, x1, x2, x3⟩ | hx)
            · exact ⟨v, by omega, x2, x3⟩
            · exact ⟨k, by omega, c, hx⟩
          · rintro ⟨v, x1, x2, x3⟩
            by_cases c2 : v = k
            · subst c2; exact .inr x3
            · exact .inl ⟨v, by omega, x2, x3⟩
        · rw [List.length_append, List.length_singleton]
          by_cases c2 : q < (k : Int)
          · rw [if_pos c2] at hc
            rw [if_pos (by omega)]
            omega
          · rw [if_neg c2] at hc
            rw [if_neg (by omega)]
            omega
  exact key r.length 0 [] (by omega) List.nodup_nil (fun x => ⟨fun k => absurd k List.not_mem_nil, fun ⟨v, x1, _, _⟩ => by omega⟩) (by rw [if_neg (by omega)]; simp)
/-- the tree that a state points along is one -/
theorem isTree_m {g : Gr} {r t : List Int} {q : Int} (h : TS g r q) (h1 : t.Pairwise (· < ·)) (h2 : (t.length : Int) = g.1 - 1) (h3 : ∀ i, i ∈ t ↔ ∃ v : Nat, v < r.length ∧ ¬ (v : Int) = q ∧ i = r.getD v 0) : impl_IsTree g t = some true := by
  have hRO := h.1.1
  obtain ⟨hG, q0, q1, hl, hv⟩ := hRO
  have hn := hG.1.1
  have h12 := hG.1.2.1
  have cn : ∀ u, 0 ≤ u → u < g.1 → u ≠ q → (Conn (eds g t) u ↔ Conn (eds g t) (oth (ed g (r.getD u.toNat 0).toNat) u)) := fun u u0 u1 uq => by
    obtain ⟨he, hae⟩ := h.1.1.atN u0 u1 uq
    have hm : ed g (r.getD u.toNat 0).toNat ∈ eds g t := mem_eds ((h3 _).2 ⟨u.toNat, by omega, by omega, rfl⟩)
    obtain ⟨i, hi, e⟩ := List.getElem_of_mem hm
    have hgi : (eds g t).getD i (0, 0) = ed g (r.getD u.toNat 0).toNat := by rw [getD_lt hi]; exact e
    have fw := Conn.fwd (es := eds g t) hi
    have bw := Conn.bwd (es := eds g t) hi
    rw [hgi] at fw bw
    unfold oth
    rcases hae with a | a
    · rw [show (ed g (r.getD u.toNat 0).toNat).1 + (ed g (r.getD u.toNat 0).toNat).2 - u = (ed g (r.getD u.toNat 0).toNat).2 by omega, ← a]
      rw [a] at fw bw ⊢
      exact ⟨fw, bw⟩
    · rw [show (ed g (r.getD u.toNat 0).toNat).1 + (ed g (r.getD u.toNat 0).toNat).2 - u = (ed g (r.getD u.toNat 0).toNat).1 by omega]
      rw [a] at fw bw
      exact ⟨bw, fw⟩
  have cq : ∀ {k : Nat} {u : Int}, Ex g r q k u → (Conn (eds g t) u ↔ Conn (eds g t) q) := by
    intro k u hk
    induction hk with
    | sink => exact Iff.rfl
    | step u0 u1 uq _ ih => exact (cn _ u0 u1 uq).trans ih
  have hq : Conn (eds g t) q := by
    obtain ⟨k, hk⟩ := h.2 0 (by omega) (by omega)
    exact (cq hk).1 .zero
  obtain ⟨b, _, b2, b3⟩ := isTr_p (g := g) (t := t) (by omega) (by omega)
  have hb := b3.2 ⟨hG, h2, ⟨fun k hk => ?_, fun k hk => ?_⟩, fun v v0 v1 => ?_⟩
  · subst hb; exact b2
  · obtain ⟨v, e1, e2, e3⟩ := (h3 _).1 (getD_mem 0 hk)
    have := hv v e1 e2
    rw [e3]
    exact ⟨this.1, this.2.1⟩
  · rw [getD_lt (by omega), getD_lt hk]
    exact (List.pairwise_iff_getElem.1 h1) k (k + 1) (by omega) hk (by omega)
  · obtain ⟨k, hk⟩ := h.2 v v0 v1
    exact (cq hk).2 hq
end Go.Proofs.Ythmddgkpebneoaa.D

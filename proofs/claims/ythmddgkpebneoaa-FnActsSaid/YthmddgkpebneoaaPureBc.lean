/-
  The rotors lead to the sink, before a walk and after it; the tree of a tree's state is the tree.
-/
import Derived.Test.YthmddgkpebneoaaPureBb
namespace Go.Proofs.Ythmddgkpebneoaa.D
open Go Go.Den
set_option linter.unusedVariables false
set_option linter.unusedSimpArgs false
/-- where the rotors lead from u: to the sink, or to where the walker stands -/
inductive To (g : Gr) (r : List Int) (q v : Int) : Int → Prop
  | sink : To g r q v q
  | here : To g r q v v
  | step {u : Int} : 0 ≤ u → u < g.1 → ¬ u = q → ¬ u = v → To g r q v (oth (ed g (r.getD u.toNat 0).toNat) u) → To g r q v u
theorem Ld.to {g : Gr} {r : List Int} {q v : Int} {k : Nat} {u : Int} (h : Ld g r q k u) : To g r q v u := by
  induction h with
  | sink k => exact .sink
  | @step k u h0 h1 h2 _ ih =>
    by_cases c : u = v
    · subst c; exact .here
    · exact .step h0 h1 h2 c ih
theorem To.turn {g : Gr} {r : List Int} {q v i : Int} (hl : (r.length : Int) = g.1) (hv : 0 ≤ v ∧ v < g.1) (hvq : ¬ v = q) (hw : ¬ oth (ed g i.toNat) v = v) {u : Int} (h : To g r q v u) : To g (r.set v.toNat i) q (oth (ed g i.toNat) v) u := by
  induction h with
  | sink => exact .sink
  | here =>
    refine .step hv.1 hv.2 hvq (fun c => hw c.symm) ?_
    have e : (r.set v.toNat i).getD v.toNat 0 = i := by rw [getD_lt (by rw [List.length_set]; omega), List.getElem_set_self]
    rw [e]
    exact .here
  | @step u h0 h1 h2 h3 _ ih =>
    by_cases c : u = oth (ed g i.toNat) v
    · rw [c]; exact .here
    · refine .step h0 h1 h2 c ?_
      have e : (r.set v.toNat i).getD u.toNat 0 = r.getD u.toNat 0 := by
        rw [getD_lt (by rw [List.length_set]; omega), List.getElem_set_ne (by omega), ← getD_lt (d := 0)]
      rw [e]
      exact ih
/-- just so many steps -/
inductive Ex (g : Gr) (r : List Int) (q : Int) : Nat → Int → Prop
  | sink : Ex g r q 0 q
  | step {k : Nat} {u : Int} : 0 ≤ u → u < g.1 → ¬ u = q → Ex g r q k (oth (ed g (r.getD u.toNat 0).toNat) u) → Ex g r q (k + 1) u
theorem To.ex {g : Gr} {r : List Int} {q u : Int} (h : To g r q q u) : ∃ k, Ex g r q k u := by
  induction h with
  | sink => exact ⟨0, .sink⟩
  | here => exact ⟨0, .sink⟩
  | step h0 h1 h2 _ _ ih =>
    obtain ⟨k, hk⟩ := ih
    exact ⟨k + 1, .step h0 h1 h2 hk⟩
theorem Ex.uniq {g : Gr} {r : List Int} {q u : Int} {k : Nat} (h : Ex g r q k u) : ∀ {k' : Nat}, Ex g r q k' u → k = k' := by
  induction h with
  | sink =>
    intro k' h'
    cases h' with
    | sink => rfl
    | step _ _ c _ => exact absurd rfl c
  | step _ _ c _ ih =>
    intro k' h'
    cases h' with
    | sink => exact absurd rfl c
    | step _ _ _ h' => rw [ih h']
theorem Ex.list {g : Gr} {r : List Int} {q u : Int} {k : Nat} (hq : 0 ≤ q ∧ q < g.1) (h : Ex g r q k u) : ∃ l : List Int, l.length = k + 1 ∧ l.Nodup ∧ ∀ y ∈ l, (0 ≤ y ∧ y < g.1) ∧ ∃ j, j ≤ k ∧ Ex g r q j y := by
  induction h with
  | sink => exact ⟨[q], rfl, by simp, fun y hy => by rw [List.mem_singleton.1 hy]; exact ⟨hq, 0, Nat.le_refl _, .sink⟩⟩
  | @step k u h0 h1 h2 h3 ih =>
    obtain ⟨l, l1, l2, l3⟩ := ih
    refine ⟨u :: l, by rw [List.length_cons, l1], List.nodup_cons.2 ⟨fun c => ?_, l2⟩, fun y hy => ?_⟩
    · obtain ⟨_, j, j1, j2⟩ := l3 u c
      have := j2.uniq (.step h0 h1 h2 h3)
      omega
    · rcases List.mem_cons.1 hy with rfl | hy
      · exact ⟨⟨h0, h1⟩, k + 1, Nat.le_refl _, .step h0 h1 h2 h3⟩
      · obtain ⟨y1, j, y2, y3⟩ := l3 y hy
        exact ⟨y1, j, by omega, y3⟩
theorem Ex.short {g : Gr} {r : List Int} {q u : Int} {k : Nat} (hq : 0 ≤ q ∧ q < g.1) (h : Ex g r q k u) : (k : Int) + 1 ≤ g.1 := by
  obtain ⟨l, l1, l2, l3⟩ := h.list hq
  rcases rng_len l2 (fun y hy => (l3 y hy).1) with c | c
  · omega
  · rw [c] at l1; simp at l1
/-- a state whose rotors lead to the sink from everywhere -/
def TS (g : Gr) (r : List Int) (q : Int) : Prop := (RO g r q ∧ r.getD q.toNat 0 = -1) ∧ ∀ u, 0 ≤ u → u < g.1 → ∃ k, Ex g r q k u
theorem treeSt_t {g : Gr} {r : List Int} {q : Int} (h : TS g r q) : impl_IsTreeState g r q = some true := by
  obtain ⟨⟨hR, hq⟩, hx⟩ := h
  have hRO := hR
  obtain ⟨hG, q0, q1, hl, hv⟩ := hR
  have hn := hG.1.1
  have h12 := hG.1.2.1
  rw [impl_IsTreeState_eq, rotors_t hRO hq]
  simp only [Option.bind_some, Bool.not_true, cond_false]
  have inner : ∀ (m k : Nat) (a v : Int), Ex g r q m a → (k : Int) + (m : Int) < g.1 → impl_IsTreeState_l2 r q g a (k : Int) (r.length : Int) v = impl_IsTreeState_l0 r q g (r.length : Int) (w64 (v + 1)) := by
    intro m
    induction m with
    | zero =>
      intro k a v h hk
      cases h
      rw [impl_IsTreeState_l2_eq, decide_eq_true (by omega), eq_f rfl]; rfl
    | succ m ih =>
      intro k a v h hk
      cases h with
      | @step _ _ h0 h1 h2 h3 =>
        obtain ⟨w, rfl⟩ : ∃ w : Nat, a = (w : Int) := ⟨a.toNat, by omega⟩
        obtain ⟨e0, e1, e2⟩ := hv w (by omega) h2
        obtain ⟨j, hj⟩ : ∃ j : Nat, r.getD w 0 = (j : Int) := ⟨(r.getD w 0).toNat, by omega⟩
        have hjl : j < g.2.length := by omega
        obtain ⟨d1, d2, d3⟩ := hG.1.2.2 j hjl
        rw [hj, show ((j : Int)).toNat = j by omega] at e2
        rw [show ((w : Int)).toNat = w by omega, hj, show ((j : Int)).toNat = j by omega] at h3
        have s1 : w64 ((g.2.getD j (0, 0)).1 + (g.2.getD j (0, 0)).2) = (g.2.getD j (0, 0)).1 + (g.2.getD j (0, 0)).2 := w64_id (by omega) (by omega)
        rw [impl_IsTreeState_l2_eq, decide_eq_true (by omega), ne_t h2]
        simp only [cond_true, impl_across_eq]
        rw [inside_lt (show w < r.length by omega), show ((w : Int)).toNat = w by omega, hj, inside_lt hjl, show ((j : Int)).toNat = j by omega, s1]
        simp only [cond_true, Option.bind_some]
        rw [w64_id (n := (g.2.getD j (0, 0)).1 + (g.2.getD j (0, 0)).2 - (w : Int)) (by omega) (by omega), w64_id (n := (k : Int) + 1) (by omega) (by omega)]
        exact ih (k + 1) _ v h3 (by omega)
  have outer : ∀ (m k : Nat), k + m = r.length → impl_IsTreeState_l0 r q g (r.length : Int) (k : Int) = some true := by
    intro m
    induction m with
    | zero =>
      intro k hk
      rw [impl_IsTreeState_l0_eq, decide_eq_false (by omega)]; rfl
    | succ m ih =>
      intro k hk
      obtain ⟨j, hj⟩ := hx (k : Int) (by omega) (by omega)
      have hs := hj.short ⟨q0, q1⟩
      have i2 := inner j 0 (k : Int) (k : Int) hj (by omega)
      have i2' : impl_IsTreeState_l2 r q g (k : Int) 0 (r.length : Int) (k : Int) = _ := i2
      rw [impl_IsTreeState_l0_eq, decide_eq_true (by omega), cond_true, i2', w64_id (by omega) (by omega)]
      exact ih (k + 1) (by omega)
  exact outer r.length 0 (by omega)
/-! ### the tree of a tree's state -/
theorem incr_eq : ∀ {l t : List Int}, l.Pairwise (· < ·) → t.Pairwise (· < ·) → (∀ x ∈ l, x ∈ t) → l.length = t.length → l = t
  | [], [], _, _, _, _ => rfl
  | [], _ :: _, _, _, _, h => by simp at h
  | _ :: _, [], _, _, _, h => by simp at h
  | a :: l, b :: t, h1, h2, h3, h4 => by
    rw [List.pairwise_cons] at h1 h2
    rcases List.mem_cons.1 (h3 a List.mem_cons_self) with c | c
    · subst c
      rw [incr_eq h1.2 h2.2 (fun x hx => ?_) (by simpa using h4)]
      rcases List.mem_cons.1 (h3 x (List.mem_cons_of_mem _ hx)) with c | c
      · have := h1.1 x hx; omega
      · exact c
    · exfalso
      have hlt := h2.1 a c
      have : (a :: l).length ≤ t.length := nodup_len (List.pairwise_cons.2 ⟨fun x hx => by have := h1.1 x hx; omega, h1.2.imp fun {x y} h => by omega⟩) fun x hx => by
        rcases List.mem_cons.1 (h3 x hx) with k | k
        · rcases List.mem_cons.1 hx with u | u
          · omega
          · have := h1.1 x u; omega
        · exact k
      simp at this h4
      omega
theorem Tr.incr {g : Gr} {t : List Int} (h : Tr g t) : t.Pairwise (· < ·) := by
  rw [List.pairwise_iff_getElem]
  have key : ∀ (d i : Nat), i + d + 1 < t.length → t.getD i 0 < t.getD (i + d + 1) 0 := by
    intro d
    induction d with
    | zero => exact fun i hi => h.1.2 i hi
    | succ d ih =>
      intro i hi
      have a := ih i (by omega)
      have b := h.1.2 (i + d + 1) hi
      rw [show i + (d + 1) + 1 = i + d + 1 + 1 by omega]
      omega
  intro i j hi hj hij
  have := key (j - i - 1) i (by omega)
  rw [show i + (j - i - 1) + 1 = j by omega, getD_lt hi, getD_lt hj] at this
  exact this
/-- two vertices' rotors are two edges -/
theorem TS.inj {g : Gr} {r : List Int} {q : Int} (h : TS g r q) {u v : Int} (hu : 0 ≤ u ∧ u < g.1 ∧ ¬ u = q) (hv : 0 ≤ v ∧ v < g.1 ∧ ¬ v = q) (hne : u ≠ v) : r.getD u.toNat 0 ≠ r.getD v.toNat 0 := by
  intro c
  have au := h.1.1.atN hu.1 hu.2.1 hu.2.2
  have av := h.1.1.atN hv.1 hv.2.1 hv.2.2
  obtain ⟨k, hk⟩ := h.2 u hu.1 hu.2.1
  obtain ⟨l, hl⟩ := h.2 v hv.1 hv.2.1
  rw [← c] at av
  have hed := ed_ok h.1.1.1 au.1
  have ou : oth (ed g (r.getD u.toNat 0).toNat) u = v := by
    unfold oth
    rcases au.2 with a | a <;> rcases av.2 with b | b <;> omega
  have ov : oth (ed g (r.getD v.toNat 0).toNat) v = u := by
    rw [← c]
    unfold oth
    rcases au.2 with a | a <;> rcases av.2 with b | b <;> omega
  cases hk with
  | sink => exact hu.2.2 rfl
  | step _ _ _ hk =>
    cases hl with
    | sink => exact hv.2.2 rfl
    | step _ _ _ hl =>
      rw [ou] at hk
      rw [ov] at hl
      have e1 := hk.uniq (.step hv.1 hv.2.1 hv.2.2 (by rw [ov]; exact hl))
      have e2 := hl.uniq (.step hu.1 hu.2.1 hu.2.2 (by rw [ou]; exact hk))
      omega
theorem treeOf_t {g : Gr} {r t : List Int} {q : Int} (h : TS g r q) (hT : Tr g t) (hlen : (t.length : Int) = g.1 - 1) (hm : ∀ v : Nat, v < r.length → ¬ (v : Int) = q → r.getD v 0 ∈ t) : impl_TreeOfState g r q = some (t, true) := by
  have hRO := h.1.1
  obtain ⟨hG, q0, q1, hl, hv⟩ := hRO
  have hn := hG.1.1
  rw [impl_TreeOfState_eq, treeSt_t h]
  simp only [Option.bind_some, Bool.not_true, cond_false]
  have key : ∀ (m k : Nat) (s : List Int), k + m = r.length → s.Nodup → (∀ x ∈ s, x ∈ t ∧ ∃ v : Nat, v < k ∧ ¬ (v : Int) = q ∧ x = r.getD v 0) → (s.length : Int) = (k : Int) - (if q < (k : Int) then 1 else 0) → impl_TreeOfState_l0 q s r (r.length : Int) (k : Int) = some (t, true) := by
    intro m
    induction m with
    | zero =>
      intro k s hk hnd hs hc
      have : k = r.length := by omega
      subst this
      rw [if_pos (by omega)] at hc
      obtain ⟨s1, s2⟩ := sort_p (l := s) (by omega)
      rw [impl_TreeOfState_l0_eq, dec_lt_f, s1]
      have hp := List.mergeSort_perm s (fun a b : Int => decide (a ≤ b))
      have hsrt : (s.mergeSort fun a b => decide (a ≤ b)).Pairwise (fun a b => decide (a ≤ b) = true) := List.pairwise_mergeSort (fun a b c h1 h2 => by simp only [decide_eq_true_eq] at *; omega) (fun a b => by simp only [Bool.or_eq_true, decide_eq_true_eq]; omega) s
      have e : (s.mergeSort fun a b => decide (a ≤ b)) = t := by
        refine incr_eq ?_ hT.incr (fun x hx => (hs x (hp.mem_iff.1 hx)).1) (by rw [List.length_mergeSort]; omega)
        have hnd2 : (s.mergeSort fun a b => decide (a ≤ b)).Pairwise (· ≠ ·) := hp.nodup_iff.2 hnd
        exact (hsrt.and hnd2).imp fun {a b} hab => by have := of_decide_eq_true hab.1; have := hab.2; omega
      simp only [cond_false, Option.bind_some]
      rw [← e]
    | succ m ih =>
      intro k s hk hnd hs hc
      have hk' : k < r.length := by omega
      rw [impl_TreeOfState_l0_eq, dec_lt_t hk', inside_lt hk', w64_succ hk' (by omega)]
      simp only [cond_true]
      by_cases c : (k : Int) = q
      · rw [eq_f c]
        refine ih (k + 1) s (by omega) hnd (fun x hx => ?_) ?_
        · obtain ⟨x1, v, x2, x3⟩ := hs x hx
          exact ⟨x1, v, by omega, x3⟩
        · rw [if_neg (by omega)] at hc
          rw [if_pos (by omega)]
          omega
      · rw [ne_t c]
        simp only [cond_true]
        have hsl : s.length ≤ 6 := by
          split at hc <;> omega
        rw [decide_eq_true (by rw [room]; simp only [List.length_singleton]; omega), cond_true, show ((k : Int)).toNat = k by omega]
        refine ih (k + 1) _ (by omega) ?_ (fun x hx => ?_) ?_
        · rw [List.nodup_append]
          refine ⟨hnd, by simp, fun x hx y hy e => ?_⟩
          rw [List.mem_singleton] at hy
          obtain ⟨x1, v, x2, x3, x4⟩ := hs x hx
          have := h.inj (u := (v : Int)) (v := (k : Int)) ⟨by omega, by omega, x3⟩ ⟨by omega, by omega, c⟩ (by omega)
          rw [show ((v : Int)).toNat = v by omega, show ((k : Int)).toNat = k by omega] at this
          exact this (by rw [← x4, e, hy])
        · rcases List.mem_append.1 hx with hx | hx
          · obtain ⟨x1, v, x2, x3⟩ := hs x hx
            exact ⟨x1, v, by omega, x3⟩
          · rw [List.mem_singleton] at hx
            exact ⟨hx ▸ hm k hk' c, k, by omega, c, hx⟩
        · rw [List.length_append, List.length_singleton]
          by_cases c2 : q < (k : Int)
          · rw [if_pos c2] at hc
            rw [if_pos (by omega)]
            omega
          · rw [if_neg c2] at hc
            rw [if_neg (by omega)]
            omega
  exact key r.length 0 [] (by omega) List.nodup_nil (fun x hx => absurd hx List.not_mem_nil) (by rw [if_neg (by omega)]; simp)
/-! ### the walk of the program -/
theorem Run.len {g : Gr} {q : Int} {r x : List Int} {v : Int} {n : Nat} (R : Run g q r v n x) : (n = 0 ↔ v = q) ∧ (v = q → x = r) := by
  cases R with
  | done => exact ⟨⟨fun _ => rfl, fun _ => rfl⟩, fun _ => rfl⟩
  | step h _ _ _ => exact ⟨⟨fun k => (by cases k), fun k => absurd k h⟩, fun k => absurd k h⟩
theorem Run.wl {g : Gr} {q : Int} {r x : List Int} {v : Int} {n : Nat} (R : Run g q r v n x) : ∀ t : Nat, t + n ≤ 2000 → RO g r q → r.getD q.toNat 0 = -1 → (0 ≤ v ∧ v < g.1) → impl_WalkToSink_l0 q v g r (t : Int) = some (x, ((t + n : Nat) : Int), true) ∧ RO g x q ∧ x.getD q.toNat 0 = -1 := by
  induction R with
  | done r =>
    intro t ht hR hq hv
    rw [impl_WalkToSink_l0_eq, eq_f rfl]
    exact ⟨rfl, hR, hq⟩
  | @step r x v i n hne hx hnx _ ih =>
    intro t ht hR hq hv
    have hl := hR.2.2.2.1
    have hG := hR.1
    have hg := hG.1.2.1
    have hn6 := hG.1.1
    have hs := hR.step hq hv hne hx.at'
    have n3 := hx.at'
    have hed : EdOk g.1 (g.2.getD i.toNat (0, 0)) := hG.1.2.2 _ (by have := n3.1; have := n3.2.1; omega)
    have hi3 := n3.2.2
    have hxx : (r.set v.toNat i).getD v.toNat 0 = i := by rw [getD_lt (by rw [List.length_set]; omega), List.getElem_set_self]
    obtain ⟨e0, e1, e2⟩ := hed
    have hw : 0 ≤ oth (ed g i.toNat) v ∧ oth (ed g i.toNat) v < g.1 := by
      have hed' := ed_ok hG (e := i.toNat) (by have := n3.1; have := n3.2.1; omega)
      have hi3' : (ed g i.toNat).1 = v ∨ (ed g i.toNat).2 = v := hi3
      unfold oth; omega
    obtain ⟨j1, j2⟩ := ih (t + 1) (by omega) hs.1 hs.2 hw
    refine ⟨?_, j2⟩
    rw [impl_WalkToSink_l0_eq, ne_t hne, cond_true, inside_int hv.1 (by omega), hnx, beq_f (by omega)]
    simp only [cond_true, cond_false, Option.bind_some]
    rw [inside_int hv.1 (by rw [List.length_set]; omega), hxx, impl_across_eq, inside_int n3.1 n3.2.1, w64_id (n := (g.2.getD i.toNat (0, 0)).1 + (g.2.getD i.toNat (0, 0)).2) (by omega) (by omega), w64_id (n := (g.2.getD i.toNat (0, 0)).1 + (g.2.getD i.toNat (0, 0)).2 - v) (by omega) (by omega), w64_id (n := (t : Int) + 1) (by omega) (by omega)]
    have j1' : impl_WalkToSink_l0 q ((g.2.getD i.toNat (0, 0)).1 + (g.2.getD i.toNat (0, 0)).2 - v) g (r.set v.toNat i) ((t : Int) + 1) = _ := j1
    simp only [cond_true, cond_false, Option.bind_some]
    rw [j1', show t + 1 + n = t + (n + 1) by omega]
theorem Run.walk {g : Gr} {q : Int} {r x : List Int} {v : Int} {n : Nat} (R : Run g q r v n x) (hn : n ≤ 2000) (h : RO g r q) (hq : r.getD q.toNat 0 = -1) (hv : 0 ≤ v ∧ v < g.1) : impl_WalkToSink g r q v = some (x, (n : Int), true) := by
  have hn6 := h.1.1.1
  have hl := h.2.2.2.1
  have hr : decide (([] : List Int).length + r.length ≤ room) = true := decide_eq_true (by unfold room; rw [List.length_nil]; omega)
  obtain ⟨w1, _⟩ := R.wl 0 (by omega) h hq hv
  rw [impl_WalkToSink_eq, rotors_t h hq]
  simp only [Option.bind_some, Bool.not_true, cond_false]
  rw [within_p, w64_id (n := g.1 - 1) (by omega) (by omega), decide_eq_true (show 0 ≤ v ∧ v ≤ g.1 - 1 by omega), impl_copyInts_eq, hr]
  simp only [Option.bind_some, Bool.not_true, cond_false, cond_true, List.nil_append]
  rw [Nat.zero_add] at w1
  exact w1
/-- after a walk the rotors lead to the sink again -/
theorem Run.ts {g : Gr} {q : Int} {r x : List Int} {v : Int} {n : Nat} (R : Run g q r v n x) : (RO g r q ∧ r.getD q.toNat 0 = -1) → (0 ≤ v ∧ v < g.1) → (∀ u, 0 ≤ u → u < g.1 → To g r q v u) → TS g x q := by
  induction R with
  | done r => exact fun h _ hT => ⟨h, fun u h0 h1 => (hT u h0 h1).ex⟩
  | @step r x v i n hne hx hnx _ ih =>
    intro h hv hT
    have hG := h.1.1
    have n3 := hx.at'
    have hed := ed_ok hG (e := i.toNat) (by have := n3.1; have := n3.2.1; omega)
    have hi3 : (ed g i.toNat).1 = v ∨ (ed g i.toNat).2 = v := n3.2.2
    have hw : (0 ≤ oth (ed g i.toNat) v ∧ oth (ed g i.toNat) v < g.1) ∧ ¬ oth (ed g i.toNat) v = v := by
      unfold oth; omega
    exact ih (h.1.step h.2 hv hne n3) hw.1 fun u h0 h1 => (hT u h0 h1).turn h.1.2.2.2.1 hv hne hw.2
end Go.Proofs.Ythmddgkpebneoaa.D

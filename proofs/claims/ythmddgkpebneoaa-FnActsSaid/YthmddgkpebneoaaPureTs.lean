/-
  The tree of a rotor state: both programs alike.
-/
import Derived.Test.YthmddgkpebneoaaPureG
namespace Go.Proofs.Ythmddgkpebneoaa.D
open Go Go.Den
set_option linter.unusedVariables false
set_option linter.unusedSimpArgs false
/-! ### the sort -/
theorem ins_p {x : Int} {l : List Int} {i : Nat} : ∀ (k : Nat) (s : List Int) (y : Int), k ≤ s.length → s.length ≤ 1000 → s.Pairwise (· ≤ ·) → (∀ z ∈ s.drop k, x < z) → ∃ k', k' ≤ s.length ∧ (∀ z ∈ s.take k', z ≤ x) ∧ (∀ z ∈ s.drop k', x ≤ z) ∧ spec_l12Sorted_l2 (s.take k ++ y :: s.drop k) x (k : Int) l (l.length : Int) (i : Int) = spec_l12Sorted_l0 (s.take k' ++ x :: s.drop k') l (l.length : Int) (w64 ((i : Int) + 1))
  | 0, s, y, hk, hs, hp, hd => by
    refine ⟨0, Nat.zero_le _, fun z hz => by simp at hz, fun z hz => Int.le_of_lt (hd z hz), ?_⟩
    rw [spec_l12Sorted_l2_eq, decide_eq_false (by omega), cond_false, inside_lt (by simp), cond_true]
    simp
  | k + 1, s, y, hk, hs, hp, hd => by
    have hlen : (s.take (k + 1) ++ y :: s.drop (k + 1)).length = s.length + 1 := by
      rw [List.length_append, List.length_cons, List.length_take, List.length_drop]; omega
    have hkl : k < s.length := by omega
    have htk : (s.take (k + 1)).length = k + 1 := by rw [List.length_take]; omega
    have hget : (s.take (k + 1) ++ y :: s.drop (k + 1)).getD k 0 = s[k] := by
      rw [List.getD_eq_getElem?_getD, List.getElem?_append_left (by omega), List.getElem?_take_of_lt (by omega), List.getElem?_eq_getElem hkl]; rfl
    have hset : ∀ z, (s.take (k + 1) ++ y :: s.drop (k + 1)).set (k + 1) z = s.take (k + 1) ++ z :: s.drop (k + 1) := fun z => by
      rw [List.set_append_right _ _ (by omega), htk, Nat.sub_self, List.set_cons_zero]
    rw [spec_l12Sorted_l2_eq, decide_eq_true (by omega), cond_true, w64_id (n := ((k + 1 : Nat) : Int) - 1) (by omega) (by omega), show ((k + 1 : Nat) : Int) - 1 = (k : Int) by omega, inside_lt (show k < (s.take (k + 1) ++ y :: s.drop (k + 1)).length by omega), cond_true, inside_lt (show k + 1 < (s.take (k + 1) ++ y :: s.drop (k + 1)).length by omega)]
    rw [show ((k : Int)).toNat = k by omega, show ((k + 1 : Nat) : Int).toNat = k + 1 by omega, hget, hset, hset]
    simp only [cond_true]
    by_cases c : s[k] > x
    · rw [decide_eq_true c, cond_true]
      have e : s.take (k + 1) ++ s[k] :: s.drop (k + 1) = s.take k ++ s[k] :: s.drop k := by
        rw [List.take_add_one, List.getElem?_eq_getElem hkl, Option.toList_some, List.append_assoc, List.drop_eq_getElem_cons hkl]; rfl
      rw [e]
      refine ins_p k s s[k] (by omega) hs hp fun z hz => ?_
      rw [List.drop_eq_getElem_cons hkl] at hz
      rcases List.mem_cons.1 hz with hz | hz
      · rw [hz]; exact c
      · exact hd z hz
    · rw [decide_eq_false c, cond_false]
      refine ⟨k + 1, hk, fun z hz => ?_, fun z hz => Int.le_of_lt (hd z hz), rfl⟩
      obtain ⟨j, hj, e⟩ := List.getElem_of_mem hz
      rw [List.getElem_take] at e
      rw [htk] at hj
      rw [← e]
      rcases Nat.lt_or_ge j k with q | q
      · have := (List.pairwise_iff_getElem.1 hp) j k (by omega) hkl q
        omega
      · have : j = k := by omega
        subst this; omega
theorem sorted_i : ∀ {l m : List Int}, l.Perm m → l.Pairwise (· ≤ ·) → m.Pairwise (· ≤ ·) → l = m
  | [], m, hp, _, _ => by rw [List.nil_perm] at hp; exact hp.symm
  | a :: l, [], hp, _, _ => by rw [List.perm_nil] at hp; exact hp
  | a :: l, b :: m, hp, h1, h2 => by
    rw [List.pairwise_cons] at h1 h2
    have ha : a ∈ b :: m := hp.subset List.mem_cons_self
    have hb : b ∈ a :: l := hp.symm.subset List.mem_cons_self
    have e : a = b := by
      rcases List.mem_cons.1 ha with k | k
      · exact k
      · rcases List.mem_cons.1 hb with j | j
        · exact j.symm
        · have := h1.1 b j
          have := h2.1 a k
          omega
    subst e
    rw [sorted_i ((List.perm_cons a).1 hp) h1.2 h2.2]
theorem sort_p {l : List Int} (h : l.length ≤ 500) : slices_Sort_int_int l = some (l.mergeSort fun x y => decide (x ≤ y)) ∧ spec_l12Sorted l = some (l.mergeSort fun x y => decide (x ≤ y)) := by
  have hm : (l.mergeSort fun x y => decide (x ≤ y)).Pairwise (· ≤ ·) := (List.pairwise_mergeSort (le := fun x y : Int => decide (x ≤ y)) (fun a b c h1 h2 => by simp only [decide_eq_true_eq] at *; omega) (fun a b => by simp only [Bool.or_eq_true, decide_eq_true_eq]; omega) l).imp fun {a b} hab => by simpa using hab
  constructor
  · rw [slices_Sort_int_int_eq]
    unfold Lb.sortInts
    rw [if_pos (by omega)]
  · rw [spec_l12Sorted_eq]
    have key : ∀ (m k : Nat) (s : List Int), k + m = l.length → s.length = k → s.Pairwise (· ≤ ·) → s.Perm (l.take k) → ∃ r, spec_l12Sorted_l0 s l (l.length : Int) (k : Int) = some r ∧ r.Pairwise (· ≤ ·) ∧ r.Perm l := by
      intro m
      induction m with
      | zero =>
        intro k s hk hs hp hpm
        have : k = l.length := by omega
        subst this
        rw [List.take_length] at hpm
        rw [spec_l12Sorted_l0_eq, dec_lt_f]
        exact ⟨s, rfl, hp, hpm⟩
      | succ m ih =>
        intro k s hk hs hp hpm
        have hk' : k < l.length := by omega
        obtain ⟨k', a1, a2, a3, a4⟩ := ins_p (x := l.getD k 0) (l := l) (i := k) s.length s 0 (Nat.le_refl _) (by omega) hp (fun z hz => by rw [List.drop_length] at hz; cases hz)
        rw [spec_l12Sorted_l0_eq, dec_lt_t hk', inside_lt hk', show ((k : Int)).toNat = k by omega]
        simp only [cond_true]
        rw [decide_eq_true (by rw [room]; simp only [List.length_singleton]; omega), cond_true, show w64 (((s ++ ([0] : List Int)).length : Int) - 1) = (s.length : Int) by
          rw [List.length_append]
          simp only [List.length_singleton]
          rw [w64_id (by omega) (by omega)]; omega]
        rw [List.take_length, List.drop_length] at a4
        rw [a4, w64_succ hk' (by omega)]
        refine ih (k + 1) _ (by omega) (by rw [List.length_append, List.length_cons, List.length_take, List.length_drop]; omega) ?_ ?_
        · rw [List.pairwise_append, List.pairwise_cons]
          refine ⟨hp.sublist (List.take_sublist _ _), ⟨a3, hp.sublist (List.drop_sublist _ _)⟩, fun u hu v hv => ?_⟩
          rcases List.mem_cons.1 hv with hv | hv
          · rw [hv]; exact a2 u hu
          · have := a2 u hu
            have := a3 v hv
            omega
        · have e1 : (s.take k' ++ l.getD k 0 :: s.drop k').Perm (l.getD k 0 :: s) := by
            refine List.perm_middle.trans ?_
            rw [List.take_append_drop]
          have e2 : l.take (k + 1) = l.take k ++ [l.getD k 0] := by
            rw [List.take_add_one, List.getElem?_eq_getElem hk', Option.toList_some, getD_lt hk']
          rw [e2]
          exact e1.trans ((List.Perm.cons _ hpm).trans (List.perm_append_singleton _ _).symm)
    obtain ⟨r, r1, r2, r3⟩ := key l.length 0 [] (by omega) rfl List.Pairwise.nil (by simp)
    have r1' : spec_l12Sorted_l0 [] l (l.length : Int) 0 = some r := r1
    rw [r1', sorted_i (r3.trans (List.mergeSort_perm l _).symm) r2 hm]
/-! ### rotors -/
def RO (g : Gr) (r : List Int) (q : Int) : Prop := GOk g ∧ 0 ≤ q ∧ q < g.1 ∧ (r.length : Int) = g.1 ∧ ∀ v, v < r.length → ¬ (v : Int) = q → 0 ≤ r.getD v 0 ∧ r.getD v 0 < (g.2.length : Int) ∧ ((g.2.getD (r.getD v 0).toNat (0, 0)).1 = (v : Int) ∨ (g.2.getD (r.getD v 0).toNat (0, 0)).2 = (v : Int))
theorem rotorsOk_p {g : Gr} {r : List Int} {q : Int} (hg : g.2.length ≤ 1048576) (hr : r.length ≤ 1048576) : ∃ b, spec_RotorsOk g r q = some b ∧ impl_RotorsOk g r q = some b ∧ (b = true → RO g r q) := by
  obtain ⟨b, p1, p2, p3⟩ := graphOk_p (g := g) (by omega)
  rw [spec_RotorsOk_eq, impl_RotorsOk_eq, impl_isVertex_eq, p1, p2]
  cases b with
  | false => exact ⟨false, rfl, rfl, fun h => by cases h⟩
  | true =>
    have hG := p3.1 rfl
    have hn := hG.1.1
    simp only [Option.bind_some, Bool.not_true, cond_false, cond_true]
    rw [in_p, within_p, w64_id (by omega) (by omega)]
    simp only [Option.bind_some]
    by_cases c1 : 0 ≤ q ∧ q ≤ g.1 - 1
    · rw [decide_eq_true c1]
      simp only [Bool.not_true, cond_false]
      by_cases c2 : (r.length : Int) = g.1
      · rw [eq_f c2, cond_false, cond_false, inside_int c1.1 (by omega), cond_true, cond_true]
        by_cases c3 : r.getD q.toNat 0 = -1
        · rw [eq_f c3, cond_false, cond_false]
          have key : ∀ (m k : Nat), k + m = r.length → (∀ v, v < k → ¬ (v : Int) = q → 0 ≤ r.getD v 0 ∧ r.getD v 0 < (g.2.length : Int) ∧ ((g.2.getD (r.getD v 0).toNat (0, 0)).1 = (v : Int) ∨ (g.2.getD (r.getD v 0).toNat (0, 0)).2 = (v : Int))) → ∃ b, spec_RotorsOk_l0 q g r (r.length : Int) (k : Int) = some b ∧ impl_RotorsOk_l0 q g r (r.length : Int) (k : Int) = some b ∧ (b = true → RO g r q) := by
            intro m
            induction m with
            | zero =>
              intro k hk hp
              have : k = r.length := by omega
              subst this
              rw [spec_RotorsOk_l0_eq, impl_RotorsOk_l0_eq, dec_lt_f]
              exact ⟨true, rfl, rfl, fun _ => ⟨hG, c1.1, by omega, c2, hp⟩⟩
            | succ m ih =>
              intro k hk hp
              have hk' : k < r.length := by omega
              rw [spec_RotorsOk_l0_eq, impl_RotorsOk_l0_eq, dec_lt_t hk', inside_lt hk', show ((k : Int)).toNat = k by omega]
              simp only [cond_true, spec_RotorsOk_c8_eq, impl_isAt_eq, in_p, within_p, Option.bind_some, w64_succ hk' (show r.length ≤ 9223372036854775807 by omega)]
              rw [w64_id (n := (g.2.length : Int) - 1) (by omega) (by omega)]
              by_cases c4 : (k : Int) = q
              · rw [eq_f c4, cond_false, cond_false]
                exact ih (k + 1) (by omega) fun v hv hne => hp v (by omega) hne
              · rw [ne_t c4, cond_true, cond_true]
                by_cases c5 : 0 ≤ r.getD k 0 ∧ r.getD k 0 ≤ (g.2.length : Int) - 1
                · rw [decide_eq_true c5]
                  simp only [Bool.not_true, cond_false, cond_true]
                  rw [inside_int c5.1 (by omega)]
                  simp only [cond_true]
                  have next : ((g.2.getD (r.getD k 0).toNat (0, 0)).1 = (k : Int) ∨ (g.2.getD (r.getD k 0).toNat (0, 0)).2 = (k : Int)) → _ := fun h => ih (k + 1) (by omega) fun v hv hne => by
                    rcases Nat.lt_or_ge v k with u | u
                    · exact hp v u hne
                    · have : v = k := by omega
                      subst this
                      exact ⟨c5.1, by omega, h⟩
                  by_cases c6 : (g.2.getD (r.getD k 0).toNat (0, 0)).1 = (k : Int)
                  · rw [eq_f c6, beq_t c6]
                    simp only [cond_false, cond_true, Option.bind_some, Bool.not_true]
                    exact next (.inl c6)
                  · rw [ne_t c6, beq_f c6]
                    by_cases c7 : (g.2.getD (r.getD k 0).toNat (0, 0)).2 = (k : Int)
                    · rw [eq_f c7, beq_t c7]
                      simp only [cond_false, cond_true, Option.bind_some, Bool.not_true]
                      exact next (.inr c7)
                    · rw [ne_t c7, beq_f c7]
                      exact ⟨false, rfl, rfl, fun h => by cases h⟩
                · rw [decide_eq_false c5]
                  exact ⟨false, rfl, rfl, fun h => by cases h⟩
          exact key r.length 0 (by omega) (fun v hv => by omega)
        · rw [ne_t c3]; exact ⟨false, rfl, rfl, fun h => by cases h⟩
      · rw [ne_t c2]; exact ⟨false, rfl, rfl, fun h => by cases h⟩
    · rw [decide_eq_false c1]; exact ⟨false, rfl, rfl, fun h => by cases h⟩
theorem isTree_p {g : Gr} {r : List Int} {q : Int} (hg : g.2.length ≤ 1048576) (hr : r.length ≤ 1048576) : ∃ b, spec_IsTreeState g r q = some b ∧ impl_IsTreeState g r q = some b ∧ (b = true → RO g r q) := by
  obtain ⟨b, p1, p2, p3⟩ := rotorsOk_p (q := q) hg hr
  rw [spec_IsTreeState_eq, impl_IsTreeState_eq, p1, p2]
  cases b with
  | false => exact ⟨false, rfl, rfl, fun h => by cases h⟩
  | true =>
    have hR := p3 rfl
    obtain ⟨hG, q0, q1, hl, hv⟩ := hR
    have hn := hG.1.1
    have h12 := hG.1.2.1
    simp only [Option.bind_some, Bool.not_true, cond_false]
    have inner : ∀ (m k : Nat) (a v : Int), (k : Int) + (m : Int) = g.1 → 0 ≤ a → a < g.1 → ∃ c : Bool, spec_IsTreeState_l2 r q g v a (k : Int) = cond c (spec_IsTreeState_l0 r q g (w64 (v + 1))) (some false) ∧ impl_IsTreeState_l2 r q g a (k : Int) (r.length : Int) v = cond c (impl_IsTreeState_l0 r q g (r.length : Int) (w64 (v + 1))) (some false) := by
      intro m
      induction m with
      | zero =>
        intro k a v hk ha0 ha1
        rw [spec_IsTreeState_l2_eq, impl_IsTreeState_l2_eq, decide_eq_false (by omega)]
        by_cases c : a = q
        · rw [eq_f c]; exact ⟨true, rfl, rfl⟩
        · rw [ne_t c]; exact ⟨false, rfl, rfl⟩
      | succ m ih =>
        intro k a v hk ha0 ha1
        rw [spec_IsTreeState_l2_eq, impl_IsTreeState_l2_eq, decide_eq_true (by omega)]
        by_cases c : a = q
        · rw [eq_f c]; exact ⟨true, rfl, rfl⟩
        · obtain ⟨w, rfl⟩ : ∃ w : Nat, a = (w : Int) := ⟨a.toNat, by omega⟩
          obtain ⟨e0, e1, e2⟩ := hv w (by omega) c
          obtain ⟨j, hj⟩ : ∃ j : Nat, r.getD w 0 = (j : Int) := ⟨(r.getD w 0).toNat, by omega⟩
          have hjl : j < g.2.length := by omega
          obtain ⟨d1, d2, d3⟩ := hG.1.2.2 j hjl
          rw [hj, show ((j : Int)).toNat = j by omega] at e2
          have s1 : w64 ((g.2.getD j (0, 0)).1 + (g.2.getD j (0, 0)).2) = (g.2.getD j (0, 0)).1 + (g.2.getD j (0, 0)).2 := w64_id (by omega) (by omega)
          rw [ne_t c]
          simp only [cond_true, spec_l15Other_eq, impl_across_eq]
          rw [inside_lt (show w < r.length by omega), show ((w : Int)).toNat = w by omega, hj, inside_lt hjl, show ((j : Int)).toNat = j by omega, s1]
          simp only [cond_true, Option.bind_some]
          rw [w64_id (n := (g.2.getD j (0, 0)).1 + (g.2.getD j (0, 0)).2 - (w : Int)) (by omega) (by omega), w64_id (n := (k : Int) + 1) (by omega) (by omega)]
          exact ih (k + 1) _ v (by omega) (by omega) (by omega)
    have outer : ∀ (m k : Nat), k + m = r.length → ∃ b, spec_IsTreeState_l0 r q g (k : Int) = some b ∧ impl_IsTreeState_l0 r q g (r.length : Int) (k : Int) = some b := by
      intro m
      induction m with
      | zero =>
        intro k hk
        rw [spec_IsTreeState_l0_eq, impl_IsTreeState_l0_eq, decide_eq_false (by omega), decide_eq_false (by omega)]
        exact ⟨true, rfl, rfl⟩
      | succ m ih =>
        intro k hk
        obtain ⟨c, i1, i2⟩ := inner g.1.toNat 0 (k : Int) (k : Int) (by omega) (by omega) (by omega)
        have i1' : spec_IsTreeState_l2 r q g (k : Int) (k : Int) 0 = _ := i1
        have i2' : impl_IsTreeState_l2 r q g (k : Int) 0 (r.length : Int) (k : Int) = _ := i2
        rw [spec_IsTreeState_l0_eq, impl_IsTreeState_l0_eq, decide_eq_true (by omega), decide_eq_true (by omega), cond_true, cond_true, i1', i2', w64_id (by omega) (by omega)]
        cases c with
        | true => exact ih (k + 1) (by omega)
        | false => exact ⟨false, rfl, rfl⟩
    obtain ⟨b, b1, b2⟩ := outer r.length 0 (by omega)
    exact ⟨b, b1, b2, fun _ => ⟨hG, q0, q1, hl, hv⟩⟩
theorem treeOf_p {g : Gr} {r : List Int} {q : Int} (hg : g.2.length ≤ 1048576) (hr : r.length ≤ 1048576) : ∃ x, spec_TreeOfState g r q = some x ∧ impl_TreeOfState g r q = some x ∧ x.1.length ≤ 6 := by
  obtain ⟨b, p1, p2, p3⟩ := isTree_p (q := q) hg hr
  rw [spec_TreeOfState_eq, impl_TreeOfState_eq, p1, p2]
  cases b with
  | false => exact ⟨([], false), rfl, rfl, Nat.zero_le _⟩
  | true =>
    obtain ⟨hG, q0, q1, hl, hv⟩ := p3 rfl
    have hn := hG.1.1
    simp only [Option.bind_some, Bool.not_true, cond_false]
    have key : ∀ (m k : Nat) (s : List Int), k + m = r.length → s.length ≤ k → ∃ x, spec_TreeOfState_l0 q s r (r.length : Int) (k : Int) = some x ∧ impl_TreeOfState_l0 q s r (r.length : Int) (k : Int) = some x ∧ x.1.length ≤ 6 := by
      intro m
      induction m with
      | zero =>
        intro k s hk hs
        have : k = r.length := by omega
        subst this
        obtain ⟨s1, s2⟩ := sort_p (l := s) (by omega)
        rw [spec_TreeOfState_l0_eq, impl_TreeOfState_l0_eq, dec_lt_f, s1, s2]
        exact ⟨_, rfl, rfl, by show (s.mergeSort _).length ≤ 6; rw [List.length_mergeSort]; omega⟩
      | succ m ih =>
        intro k s hk hs
        have hk' : k < r.length := by omega
        rw [spec_TreeOfState_l0_eq, impl_TreeOfState_l0_eq, dec_lt_t hk', inside_lt hk', w64_succ hk' (by omega)]
        simp only [cond_true]
        cases ((k : Int) != q) with
        | false => exact ih (k + 1) s (by omega) (by omega)
        | true =>
          simp only [cond_true]
          rw [decide_eq_true (by rw [room]; simp only [List.length_singleton]; omega), cond_true, cond_true]
          exact ih (k + 1) _ (by omega) (by rw [List.length_append]; simp only [List.length_singleton]; omega)
    exact key r.length 0 [] (by omega) (Nat.le_refl _)
theorem law_TreeOfState {g : Gr} {d : List Int} {q : Int} (hg : g.2.length ≤ 9223372036854775807) : laws_FnExactTreeOfState g d q = some true := by
  rw [laws_FnExactTreeOfState_eq]
  by_cases c0 : (d.length : Int) > 1048576
  · rw [decide_eq_true c0]; rfl
  obtain ⟨r, k1, k2⟩ := szGraph_p hg (m := 1048576) (by omega) (by omega)
  rw [decide_eq_false c0, k1]
  simp only [cond_false, Option.bind_some]
  by_cases c : r < 0
  · rw [decide_eq_true c]; rfl
  have hl : g.2.length ≤ 1048576 := by have := k2 (by omega); omega
  have t1 := toGraph_p (a := g) hl
  have t2 := toIntS_p (a := d) (by omega)
  have e1 : laws_eqGraph g g = some true := true_of (eqGraph_p hg) rfl
  have e2 : laws_eqIntS d d = some true := true_of (eqIntS_p (by omega)) rfl
  obtain ⟨x, p1, p2, p3⟩ := treeOf_p hl (r := d) (q := q) (by omega)
  have e3 : laws_eqIntS x.1 x.1 = some true := true_of (eqIntS_p (by omega)) rfl
  obtain ⟨q1, m1, n1⟩ := markGraph_p (a := g) (m := 1) (by omega) (by omega)
  have m2 := markIntS_p (a := d) (m := q1.1) (by omega) (by omega)
  have m3 := markIntS_p (a := x.1) (m := 1) (by omega) (by omega)
  have m4 := heldIntS_p (m := 1) (n := x.1.length) (by omega) (by omega)
  have z1 : ¬ q1.1 + (d.length : Int) < 0 := by omega
  have z2 : ¬ (1 : Int) + (x.1.length : Int) < 0 := by omega
  rw [decide_eq_false c]
  simp only [t1, t2, e1, e2, e3, p1, p2, Option.bind_some, cond_false, Bool.not_true, beq_self_eq_true, bne_self_eq_false, laws_FnExactTreeOfState_c13_eq, m1, m2, m3, m4, decide_eq_false z1, decide_eq_false z2, laws_FnExactTreeOfState_c26_eq]
end Go.Proofs.Ythmddgkpebneoaa.D

/-
  The action on trees: both programs alike (first part: what is a tree).
-/
import Derived.Test.YthmddgkpebneoaaPureTs
namespace Go.Proofs.Ythmddgkpebneoaa.D
open Go Go.Den
set_option linter.unusedVariables false
set_option linter.unusedSimpArgs false
/-- the edges of a list of numbers -/
def eds (g : Gr) (t : List Int) : List (Int × Int) := t.map fun i => g.2.getD i.toNat (0, 0)
def InE (g : Gr) (t : List Int) : Prop := ∀ k, k < t.length → 0 ≤ t.getD k 0 ∧ t.getD k 0 < (g.2.length : Int)
theorem eds_step {g : Gr} {t : List Int} {k : Nat} (hk : k < t.length) : eds g (t.take (k + 1)) = eds g (t.take k) ++ [g.2.getD (t.getD k 0).toNat (0, 0)] := by
  unfold eds
  rw [List.take_add_one, List.getElem?_eq_getElem hk, Option.toList_some, List.map_append, getD_lt hk]; rfl
theorem eds_ok {g : Gr} {t : List Int} (hg : EOk g) (h : InE g t) (hl : t.length ≤ 12) : EOk (g.1, eds g t) := by
  refine ⟨hg.1, by unfold eds; rw [List.length_map]; exact hl, fun j hj => ?_⟩
  have hj' : j < t.length := by unfold eds at hj; rw [List.length_map] at hj; exact hj
  have e : (eds g t).getD j (0, 0) = g.2.getD (t.getD j 0).toNat (0, 0) := by
    have hj2 : j < (eds g t).length := hj
    rw [getD_lt hj2, getD_lt hj']
    exact List.getElem_map _
  show EdOk g.1 ((eds g t).getD j (0, 0))
  rw [e]
  have := h j hj'
  exact hg.2.2 _ (by omega)
theorem roomE {l : List (Int × Int)} {v : Int × Int} (h : l.length ≤ 1048576) : decide (l.length + ([v] : List (Int × Int)).length ≤ room) = true := by
  refine decide_eq_true ?_
  unfold room
  rw [List.length_singleton]
  omega
theorem joins_p {g : Gr} {t : List Int} (hg : EOk g) (h : InE g t) (hl : t.length ≤ 12) : ∃ b, spec_l12Joins g t = some b ∧ (b = true ↔ All (g.1, eds g t)) := by
  have key : ∀ m k, k + m = t.length → spec_l12Joins_l0 g (g.1, eds g (t.take k)) t (t.length : Int) (k : Int) = (spec_l02Reach (g.1, eds g t)).bind fun r => some ((r.length : Int) == g.1) := by
    intro m
    induction m with
    | zero =>
      intro k hk
      have : k = t.length := by omega
      subst this
      rw [spec_l12Joins_l0_eq, dec_lt_f, List.take_length]; rfl
    | succ m ih =>
      intro k hk
      have hk' : k < t.length := by omega
      have := h k hk'
      rw [spec_l12Joins_l0_eq, dec_lt_t hk', inside_lt hk', show ((k : Int)).toNat = k by omega, inside_int this.1 this.2]
      simp only [cond_true]
      rw [roomE (by unfold eds; rw [List.length_map, List.length_take]; omega), w64_succ hk' (by omega), cond_true, ← eds_step hk']
      exact ih (k + 1) (by omega)
  obtain ⟨l, r1, r2⟩ := reach_p (eds_ok hg h hl)
  refine ⟨_, ?_, r2⟩
  rw [spec_l12Joins_eq]
  have := key t.length 0 (by omega)
  rw [List.take_zero] at this
  have e : spec_l12Joins_l0 g (g.1, []) t (t.length : Int) 0 = _ := this
  rw [e, r1]; rfl
theorem edgesOf_p {g : Gr} {t : List Int} (h : InE g t) (hl : t.length ≤ 12) : impl_edgesOf g t = some (eds g t) := by
  have key : ∀ m k, k + m = t.length → impl_edgesOf_l0 g (eds g (t.take k)) t (t.length : Int) (k : Int) = some (eds g t) := by
    intro m
    induction m with
    | zero =>
      intro k hk
      have : k = t.length := by omega
      subst this
      rw [impl_edgesOf_l0_eq, dec_lt_f, List.take_length]; rfl
    | succ m ih =>
      intro k hk
      have hk' : k < t.length := by omega
      have := h k hk'
      rw [impl_edgesOf_l0_eq, dec_lt_t hk', inside_lt hk', show ((k : Int)).toNat = k by omega, inside_int this.1 this.2]
      simp only [cond_true]
      rw [roomE (by unfold eds; rw [List.length_map, List.length_take]; omega), w64_succ hk' (by omega), cond_true, ← eds_step hk']
      exact ih (k + 1) (by omega)
  rw [impl_edgesOf_eq]
  have := key t.length 0 (by omega)
  rw [List.take_zero] at this
  exact this
/-- a tree: increasing numbers of edges that join all vertices -/
def Tr (g : Gr) (t : List Int) : Prop := (InE g t ∧ ∀ k, k + 1 < t.length → t.getD k 0 < t.getD (k + 1) 0) ∧ All (g.1, eds g t)
theorem isTr_p {g : Gr} {t : List Int} (hg : g.2.length ≤ 1048576) (ht : t.length ≤ 1048576) : ∃ b, spec_IsTree g t = some b ∧ impl_IsTree g t = some b ∧ (b = true ↔ GOk g ∧ (t.length : Int) = g.1 - 1 ∧ Tr g t) := by
  obtain ⟨b, p1, p2, p3⟩ := graphOk_p (g := g) (by omega)
  rw [spec_IsTree_eq, impl_IsTree_eq, p1, p2]
  cases b with
  | false => exact ⟨false, rfl, rfl, ⟨fun h => (by cases h), fun h => by have := p3.2 h.1; cases this⟩⟩
  | true =>
    have hG := p3.1 rfl
    have hn := hG.1.1
    simp only [Option.bind_some, Bool.not_true, cond_false]
    rw [w64_id (n := g.1 - 1) (by omega) (by omega), w64_id (n := (g.2.length : Int) - 1) (by omega) (by omega)]
    by_cases c : (t.length : Int) = g.1 - 1
    · rw [eq_f c, cond_false, cond_false]
      have hl : t.length ≤ 12 := by omega
      have K1 : ∀ m k, k + m = t.length → (∀ j, j < k → 0 ≤ t.getD j 0 ∧ t.getD j 0 < (g.2.length : Int)) → (∀ j, j + 1 < k → t.getD j 0 < t.getD (j + 1) 0) → ∃ b, spec_IsTree_l0 t g t (t.length : Int) (k : Int) = some b ∧ (b = true ↔ Tr g t) := by
        intro m
        induction m with
        | zero =>
          intro k hk h1 h2
          have : k = t.length := by omega
          subst this
          obtain ⟨b, q1, q2⟩ := joins_p hG.1 h1 hl
          rw [spec_IsTree_l0_eq, dec_lt_f, cond_false, q1]
          exact ⟨b, rfl, q2.trans ⟨fun h => ⟨⟨h1, h2⟩, h⟩, fun h => h.2⟩⟩
        | succ m ih =>
          intro k hk h1 h2
          have hk' : k < t.length := by omega
          rw [spec_IsTree_l0_eq, dec_lt_t hk', inside_lt hk', show ((k : Int)).toNat = k by omega, in_p, w64_id (n := (g.2.length : Int) - 1) (by omega) (by omega)]
          simp only [cond_true, Option.bind_some]
          by_cases c1 : 0 ≤ t.getD k 0 ∧ t.getD k 0 ≤ (g.2.length : Int) - 1
          · rw [decide_eq_true c1]
            simp only [Bool.not_true, cond_false]
            have h1' : ∀ j, j < k + 1 → 0 ≤ t.getD j 0 ∧ t.getD j 0 < (g.2.length : Int) := fun j hj => by
              rcases Nat.lt_or_ge j k with u | u
              · exact h1 j u
              · have : j = k := by omega
                subst this
                exact ⟨c1.1, by omega⟩
            rw [w64_succ hk' (by omega)]
            cases k with
            | zero =>
              rw [decide_eq_false (by omega), cond_false]
              exact ih 1 (by omega) h1' fun j hj => by omega
            | succ k =>
              rw [decide_eq_true (by omega), cond_true, w64_id (n := ((k + 1 : Nat) : Int) - 1) (by omega) (by omega), show ((k + 1 : Nat) : Int) - 1 = (k : Int) by omega, inside_lt (show k < t.length by omega), cond_true, show ((k : Int)).toNat = k by omega]
              by_cases c2 : t.getD (k + 1) 0 ≤ t.getD k 0
              · rw [decide_eq_true c2, cond_true]
                exact ⟨false, rfl, fun h => (by cases h), fun h => absurd (h.1.2 k hk') (by omega)⟩
              · rw [decide_eq_false c2, cond_false]
                refine ih (k + 2) (by omega) h1' fun j hj => ?_
                rcases Nat.lt_or_ge (j + 1) (k + 1) with u | u
                · exact h2 j u
                · have : j = k := by omega
                  subst this
                  omega
          · rw [decide_eq_false c1]
            exact ⟨false, rfl, fun h => (by cases h), fun h => absurd (h.1.1 k hk') (by omega)⟩
      have K3 : InE g t → ∀ m k, 1 ≤ k → (k + m = t.length ∨ (m = 0 ∧ t.length ≤ k)) → (∀ j, j + 1 < k → j + 1 < t.length → t.getD j 0 < t.getD (j + 1) 0) → ∃ b, impl_IsTree_l0 t g (k : Int) = some b ∧ (b = true ↔ Tr g t) := by
        intro h1 m
        induction m with
        | zero =>
          intro k hk0 hk h2
          obtain ⟨b, q1, q2⟩ := connected_p (eds_ok hG.1 h1 hl)
          have q1' : impl_connected g.1 (eds g t) = some b := q1
          rw [impl_IsTree_l0_eq, decide_eq_false (by omega), cond_false, edgesOf_p h1 hl, Option.bind_some, q1']
          exact ⟨b, rfl, q2.trans ⟨fun h => ⟨⟨h1, fun j hj => h2 j (by omega) hj⟩, h⟩, fun h => h.2⟩⟩
        | succ m ih =>
          intro k hk0 hk h2
          obtain ⟨k, rfl⟩ : ∃ j, k = j + 1 := ⟨k - 1, by omega⟩
          have hk' : k + 1 < t.length := by omega
          rw [impl_IsTree_l0_eq, dec_lt_t hk', w64_id (n := ((k + 1 : Nat) : Int) - 1) (by omega) (by omega), show ((k + 1 : Nat) : Int) - 1 = (k : Int) by omega, inside_lt (show k < t.length by omega), inside_lt hk', show ((k : Int)).toNat = k by omega, show ((k + 1 : Nat) : Int).toNat = k + 1 by omega]
          simp only [cond_true]
          by_cases c2 : t.getD k 0 ≥ t.getD (k + 1) 0
          · rw [decide_eq_true c2, cond_true]
            exact ⟨false, rfl, fun h => (by cases h), fun h => absurd (h.1.2 k hk') (by omega)⟩
          · rw [decide_eq_false c2, cond_false, w64_succ hk' (by omega)]
            refine ih (k + 2) (by omega) (by omega) fun j hj hj' => ?_
            rcases Nat.lt_or_ge (j + 1) (k + 1) with u | u
            · exact h2 j u hj'
            · have : j = k := by omega
              subst this
              omega
      obtain ⟨b1, s1, s2⟩ := K1 t.length 0 (by omega) (fun j hj => by omega) (fun j hj => by omega)
      have s1' : spec_IsTree_l0 t g t (t.length : Int) 0 = some b1 := s1
      obtain ⟨b2, a1, a2⟩ := allWithin_p (l := t) (lo := 0) (hi := (g.2.length : Int) - 1) (by omega)
      rw [a1, s1', Option.bind_some]
      cases b2 with
      | false =>
        cases b1 with
        | false => exact ⟨false, rfl, rfl, ⟨fun h => (by cases h), fun h => by have := s2.2 h.2.2; cases this⟩⟩
        | true =>
          have := a2.2 fun j hj => by have := (s2.1 rfl).1.1 j hj; omega
          cases this
      | true =>
        have h1 : InE g t := fun j hj => by have := a2.1 rfl j hj; omega
        obtain ⟨b3, u1, u2⟩ := K3 h1 (t.length - 1) 1 (by omega) (by omega) (fun j hj => by omega)
        have u1' : impl_IsTree_l0 t g 1 = some b3 := u1
        have e : b1 = b3 := by
          cases b1 <;> cases b3 <;> first | rfl | exact absurd (u2.2 (s2.1 rfl)) (by decide) | exact absurd (s2.2 (u2.1 rfl)) (by decide)
        subst e
        exact ⟨b1, rfl, u1', ⟨fun h => ⟨hG, c, s2.1 h⟩, fun h => s2.2 h.2.2⟩⟩
    · rw [ne_t c, cond_true, cond_true]; exact ⟨false, rfl, rfl, ⟨fun h => (by cases h), fun h => absurd h.2.1 c⟩⟩
end Go.Proofs.Ythmddgkpebneoaa.D

/-
  The action on trees: both programs alike (second part: the state of a tree).
-/
import Derived.Test.YthmddgkpebneoaaPureAt
namespace Go.Proofs.Ythmddgkpebneoaa.D
open Go Go.Den
set_option linter.unusedVariables false
set_option linter.unusedSimpArgs false
def At (g : Gr) (i : Int) (v : Int) : Prop := 0 ≤ i ∧ i < (g.2.length : Int) ∧ ((g.2.getD i.toNat (0, 0)).1 = v ∨ (g.2.getD i.toNat (0, 0)).2 = v)
theorem isAt_p {g : Gr} {i v : Int} (hg : g.2.length ≤ 1048576) (h0 : 0 ≤ i) (h1 : i < (g.2.length : Int)) : impl_isAt g i v = some (decide ((g.2.getD i.toNat (0, 0)).1 = v ∨ (g.2.getD i.toNat (0, 0)).2 = v)) := by
  simp only [impl_isAt_eq, within_p, Option.bind_some]
  rw [w64_id (n := (g.2.length : Int) - 1) (by omega) (by omega), decide_eq_true (⟨h0, by omega⟩ : 0 ≤ i ∧ i ≤ (g.2.length : Int) - 1)]
  rw [inside_int h0 h1]
  by_cases c6 : (g.2.getD i.toNat (0, 0)).1 = v
  · rw [beq_t c6, decide_eq_true (.inl c6)]; rfl
  · rw [beq_f c6]
    by_cases c7 : (g.2.getD i.toNat (0, 0)).2 = v
    · rw [beq_t c7, decide_eq_true (.inr c7)]; rfl
    · rw [beq_f c7, decide_eq_false (fun h => by cases h <;> contradiction)]; rfl
abbrev ed (g : Gr) (i : Nat) : Int × Int := g.2.getD i (0, 0)
/-- the other end -/
def oth (e : Int × Int) (v : Int) : Int := e.1 + e.2 - v
/-- the rotors lead from u to the sink in at most k steps -/
inductive Ld (g : Gr) (r : List Int) (q : Int) : Nat → Int → Prop
  | sink (k : Nat) : Ld g r q k q
  | step {k : Nat} {u : Int} : 0 ≤ u → u < g.1 → ¬ u = q → Ld g r q k (oth (ed g (r.getD u.toNat 0).toNat) u) → Ld g r q (k + 1) u
theorem Ld.mono {g : Gr} {r : List Int} {q : Int} {k : Nat} {u : Int} (h : Ld g r q k u) : ∀ {k' : Nat}, k ≤ k' → Ld g r q k' u := by
  induction h with
  | sink k => exact fun _ => .sink _
  | step h0 h1 h2 _ ih =>
    intro k' hk
    obtain ⟨j, rfl⟩ : ∃ j, k' = j + 1 := ⟨k' - 1, by omega⟩
    exact .step h0 h1 h2 (ih (by omega))
/-- what the search has got: a queue without repeats, and an edge for each vertex but the sink -/
structure Qu (g : Gr) (t : List Int) (q : Int) (l o : List Int) : Prop where
  nd : l.Nodup
  rng : ∀ v ∈ l, 0 ≤ v ∧ v < g.1
  sink : q ∈ l
  len : (o.length : Int) = g.1
  at' : ∀ v : Nat, v < o.length → ¬ (v : Int) = q → (v : Int) ∈ l → At g (o.getD v 0) v
  none : o.getD q.toNat 0 = -1
  tm : ∀ v : Nat, v < o.length → ¬ (v : Int) = q → (v : Int) ∈ l → o.getD v 0 ∈ t
  up : ∀ j, j < l.length → ¬ l.getD j 0 = q → ∃ i, i < j ∧ oth (ed g (o.getD (l.getD j 0).toNat 0).toNat) (l.getD j 0) = l.getD i 0
theorem Qu.le {g : Gr} {t : List Int} {q : Int} {l o : List Int} (h : Qu g t q l o) (hg : g.1 ≤ 6) : l.length ≤ 6 := by
  rcases rng_len h.nd h.rng with k | k
  · omega
  · rw [k]; simp
theorem Qu.push {g : Gr} {t : List Int} {q : Int} {l o : List Int} (h : Qu g t q l o) {w i : Int} (hw : 0 ≤ w ∧ w < g.1) (hn : ¬ w ∈ l) (hi : At g i w) (ht : i ∈ t) (hu : ∃ x, x < l.length ∧ oth (ed g i.toNat) w = l.getD x 0) : Qu g t q (l ++ [w]) (o.set w.toNat i) := by
  have hq := h.rng q h.sink
  have hwq : ¬ w = q := fun e => hn (e ▸ h.sink)
  have hl := h.len
  have hset : ∀ v : Nat, v < o.length → v ≠ w.toNat → (o.set w.toNat i).getD v 0 = o.getD v 0 := fun v hv c => by
    rw [getD_lt (by rw [List.length_set]; omega), List.getElem_set_ne (by omega), ← getD_lt (d := 0)]
  have hself : (o.set w.toNat i).getD w.toNat 0 = i := by rw [getD_lt (by rw [List.length_set]; omega), List.getElem_set_self]
  refine ⟨?_, ?_, List.mem_append_left _ h.sink, by rw [List.length_set]; exact h.len, ?_, ?_, ?_, ?_⟩
  · rw [List.nodup_append]
    refine ⟨h.nd, List.nodup_cons.2 ⟨List.not_mem_nil, List.nodup_nil⟩, fun a ha b hb => ?_⟩
    rw [List.mem_singleton.1 hb]
    exact fun c => hn (c ▸ ha)
  · intro x hx
    rcases List.mem_append.1 hx with hx | hx
    · exact h.rng x hx
    · rw [List.mem_singleton.1 hx]; exact hw
  · intro v hv hne hm
    rw [List.length_set] at hv
    by_cases c : v = w.toNat
    · rw [c, getD_lt (by rw [List.length_set]; omega), List.getElem_set_self]
      rw [show ((w.toNat : Nat) : Int) = w by omega]
      exact hi
    · rw [getD_lt (by rw [List.length_set]; omega), List.getElem_set_ne (by omega), ← getD_lt (d := 0)]
      refine h.at' v hv hne ?_
      rcases List.mem_append.1 hm with hm | hm
      · exact hm
      · rw [List.mem_singleton] at hm; omega
  · have := h.none
    rw [getD_lt (by omega)] at this
    rw [getD_lt (by rw [List.length_set]; omega), List.getElem_set_ne (by omega)]
    exact this
  · intro v hv hne hm
    rw [List.length_set] at hv
    by_cases c : v = w.toNat
    · rw [c, hself]; exact ht
    · rw [hset v hv c]
      refine h.tm v hv hne ?_
      rcases List.mem_append.1 hm with hm | hm
      · exact hm
      · rw [List.mem_singleton] at hm; omega
  · intro j hj hne
    rw [List.length_append, List.length_singleton] at hj
    rcases Nat.lt_or_ge j l.length with c | c
    · rw [getD_app c] at hne ⊢
      have hm : l.getD j 0 ∈ l := by rw [getD_lt c]; exact List.getElem_mem _
      have hr := h.rng _ hm
      have hw2 : l.getD j 0 ≠ w := fun k => hn (k ▸ hm)
      obtain ⟨x, x1, x2⟩ := h.up j c hne
      refine ⟨x, x1, ?_⟩
      rw [hset _ (by omega) (by omega), getD_app (show x < l.length by omega)]
      exact x2
    · have e : j = l.length := by omega
      subst e
      have e2 : (l ++ [w]).getD l.length 0 = w := by
        rw [List.getD_eq_getElem?_getD, List.getElem?_append_right (Nat.le_refl _), Nat.sub_self]; rfl
      obtain ⟨x, x1, x2⟩ := hu
      refine ⟨x, x1, ?_⟩
      rw [e2, hself, getD_app x1]
      exact x2
def Clo (g : Gr) (t l : List Int) (x : Int) (j : Nat) : Prop := ((g.2.getD (t.getD j 0).toNat (0, 0)).1 = x → (g.2.getD (t.getD j 0).toNat (0, 0)).2 ∈ l) ∧ ((g.2.getD (t.getD j 0).toNat (0, 0)).2 = x → (g.2.getD (t.getD j 0).toNat (0, 0)).1 ∈ l)
theorem Clo.app {g : Gr} {t l s : List Int} {x : Int} {j : Nat} (h : Clo g t l x j) : Clo g t (l ++ s) x j := ⟨fun e => List.mem_append_left _ (h.1 e), fun e => List.mem_append_left _ (h.2 e)⟩
theorem st4_p {g : Gr} {t : List Int} {q : Int} (hG : EOk g) (hE : InE g t) (hl : t.length ≤ 12) (hC : ∀ (l : List Int) (v : Int), l.length ≤ 1000 → slices_Contains_int_int l v = some (decide (v ∈ l))) : ∀ (m k : Nat) (l o : List Int) (i : Nat), k + m = t.length → Qu g t q l o → i < l.length → (∀ j, j < k → Clo g t l (l.getD i 0) j) → ∃ l' o', Qu g t q l' o' ∧ (∃ s, l' = l ++ s) ∧ (∀ j, j < t.length → Clo g t l' (l.getD i 0) j) ∧ spec_l15State_l4 t g o l (i : Int) t (t.length : Int) (k : Int) = spec_l15State_l2 t g o' l' ((i + 1 : Nat) : Int) ∧ impl_StateOfTree_l4 t g o l (i : Int) t (t.length : Int) (k : Int) = impl_StateOfTree_l2 t g o' l' ((i + 1 : Nat) : Int) := by
  intro m
  induction m with
  | zero =>
    intro k l o i hk hQ hi hc
    have : k = t.length := by omega
    subst this
    have := hQ.le hG.1.2
    refine ⟨l, o, hQ, ⟨[], by simp⟩, hc, ?_, ?_⟩
    · rw [spec_l15State_l4_eq, dec_lt_f, cond_false, w64_succ hi (by omega)]
    · rw [impl_StateOfTree_l4_eq, dec_lt_f, cond_false, w64_succ hi (by omega)]
  | succ m ih =>
    intro k l o i hk hQ hi hc
    have hk' : k < t.length := by omega
    have hr := hE k hk'
    have hle := hQ.le hG.1.2
    have hn := hG.1
    have hlen := hQ.len
    have hg := hG.2.1
    have hed : EdOk g.1 (g.2.getD (t.getD k 0).toNat (0, 0)) := hG.2.2 _ (by omega)
    have hx := hQ.rng (l.getD i 0) (by rw [getD_lt hi]; exact List.getElem_mem _)
    have hat : ∀ v, ((g.2.getD (t.getD k 0).toNat (0, 0)).1 = v ∨ (g.2.getD (t.getD k 0).toNat (0, 0)).2 = v) → At g (t.getD k 0) v := fun v h => ⟨hr.1, hr.2, h⟩
    rw [spec_l15State_l4_eq, impl_StateOfTree_l4_eq, dec_lt_t hk', inside_lt hk', show ((k : Int)).toNat = k by omega, inside_int hr.1 hr.2, inside_lt hi, show ((i : Int)).toNat = i by omega, w64_succ hk' (by omega)]
    simp only [cond_true]
    rw [isAt_p (by omega) hr.1 hr.2]
    simp only [Option.bind_some, spec_l15Other_eq, impl_across_eq]
    rw [inside_int hr.1 hr.2]
    generalize hE' : g.2.getD (t.getD k 0).toNat (0, 0) = e at *
    obtain ⟨e0, e1, e2⟩ := hed
    simp only [cond_true, Option.bind_some]
    rw [w64_id (n := e.1 + e.2) (by omega) (by omega), w64_id (n := e.1 + e.2 - l.getD i 0) (by omega) (by omega), has_p (by omega), hC _ _ (by omega)]
    simp only [Option.bind_some]
    have go : ∀ w, (w = e.1 ∧ e.2 = l.getD i 0 ∨ w = e.2 ∧ e.1 = l.getD i 0) → ∃ l' o', Qu g t q l' o' ∧ (∃ s, l' = l ++ s) ∧ (∀ j, j < t.length → Clo g t l' (l.getD i 0) j) ∧
        cond (!decide (w ∈ l)) (cond (inside w o.length) (spec_l15State_c18 t g (o.set w.toNat (t.getD k 0)) l (i : Int) w t (t.length : Int) (k : Int)) none) (spec_l15State_l4 t g o l (i : Int) t (t.length : Int) ((k + 1 : Nat) : Int)) = spec_l15State_l2 t g o' l' ((i + 1 : Nat) : Int) ∧
        cond (!decide (w ∈ l)) (cond (inside w o.length) (cond (decide (l.length + ([w] : List Int).length ≤ room)) (impl_StateOfTree_l4 t g (o.set w.toNat (t.getD k 0)) (l ++ ([w] : List Int)) (i : Int) t (t.length : Int) ((k + 1 : Nat) : Int)) none) none) (impl_StateOfTree_l4 t g o l (i : Int) t (t.length : Int) ((k + 1 : Nat) : Int)) = impl_StateOfTree_l2 t g o' l' ((i + 1 : Nat) : Int) := by
      intro w hw
      have hcl : ∀ l2 : List Int, w ∈ l2 → Clo g t l2 (l.getD i 0) k := fun l2 h2 => by
        unfold Clo
        rw [hE']
        rcases hw with ⟨a, b⟩ | ⟨a, b⟩
        · exact ⟨fun c => by omega, fun _ => a ▸ h2⟩
        · exact ⟨fun _ => a ▸ h2, fun c => by omega⟩
      have hwr : 0 ≤ w ∧ w < g.1 := by omega
      by_cases c : w ∈ l
      · rw [decide_eq_true c]
        exact ih (k + 1) l o i (by omega) hQ hi fun j hj => by
          rcases Nat.lt_or_ge j k with u | u
          · exact hc j u
          · have : j = k := by omega
            subst this
            exact hcl l c
      · rw [decide_eq_false c]
        simp only [Bool.not_false, cond_true]
        rw [inside_int hwr.1 (by omega), spec_l15State_c18_eq, room1 (by omega), cond_true, cond_true, cond_true, cond_true, w64_succ hk' (by omega)]
        have hQ' := hQ.push (i := t.getD k 0) hwr c (hat w (by rcases hw with ⟨a, _⟩ | ⟨a, _⟩ <;> simp [a])) (by rw [getD_lt hk']; exact List.getElem_mem _) ⟨i, hi, by
          show oth (g.2.getD (t.getD k 0).toNat (0, 0)) w = _
          rw [hE']
          unfold oth
          rcases hw with ⟨a, b⟩ | ⟨a, b⟩ <;> omega⟩
        obtain ⟨l', o', r1, ⟨s, r2⟩, r3, r4, r5⟩ := ih (k + 1) (l ++ [w]) (o.set w.toNat (t.getD k 0)) i (by omega) hQ' (by rw [List.length_append]; omega) fun j hj => by
          rw [getD_app hi]
          rcases Nat.lt_or_ge j k with u | u
          · exact (hc j u).app
          · have : j = k := by omega
            subst this
            exact hcl _ (by simp)
        rw [getD_app hi] at r3
        exact ⟨l', o', r1, ⟨w :: s, by rw [r2, List.append_assoc]; rfl⟩, r3, r4, r5⟩
    by_cases c1 : e.1 = l.getD i 0
    · rw [eq_f c1, decide_eq_true (show e.1 = l.getD i 0 ∨ e.2 = l.getD i 0 from .inl c1)]
      exact go _ (.inr ⟨by omega, c1⟩)
    · rw [ne_t c1]
      by_cases c2 : e.2 = l.getD i 0
      · rw [eq_f c2, decide_eq_true (show e.1 = l.getD i 0 ∨ e.2 = l.getD i 0 from .inr c2)]
        exact go _ (.inl ⟨by omega, c2⟩)
      · rw [ne_t c2, decide_eq_false (show ¬ (e.1 = l.getD i 0 ∨ e.2 = l.getD i 0) from fun h => by cases h <;> contradiction)]
        exact ih (k + 1) l o i (by omega) hQ hi fun j hj => by
          rcases Nat.lt_or_ge j k with u | u
          · exact hc j u
          · have : j = k := by omega
            subst this
            unfold Clo
            rw [hE']
            exact ⟨fun h => absurd h c1, fun h => absurd h c2⟩
theorem st2_p {g : Gr} {t : List Int} {q : Int} (hG : EOk g) (hE : InE g t) (hl : t.length ≤ 12) (hC : ∀ (l : List Int) (v : Int), l.length ≤ 1000 → slices_Contains_int_int l v = some (decide (v ∈ l))) : ∀ (m i : Nat) (l o : List Int), i + m = 6 → i ≤ l.length → Qu g t q l o → (∀ x, x < i → ∀ j, j < t.length → Clo g t l (l.getD x 0) j) → ∃ l' o', Qu g t q l' o' ∧ (∀ x, x < l'.length → ∀ j, j < t.length → Clo g t l' (l'.getD x 0) j) ∧ spec_l15State_l2 t g o l (i : Int) = some o' ∧ impl_StateOfTree_l2 t g o l (i : Int) = some (o', true) := by
  intro m
  have fin : ∀ (i : Nat) (l o : List Int), i = l.length → Qu g t q l o → (∀ x, x < i → ∀ j, j < t.length → Clo g t l (l.getD x 0) j) → ∃ l' o', Qu g t q l' o' ∧ (∀ x, x < l'.length → ∀ j, j < t.length → Clo g t l' (l'.getD x 0) j) ∧ spec_l15State_l2 t g o l (i : Int) = some o' ∧ impl_StateOfTree_l2 t g o l (i : Int) = some (o', true) := fun i l o e hQ hc => by
    subst e
    exact ⟨l, o, hQ, hc, by rw [spec_l15State_l2_eq, dec_lt_f]; rfl, by rw [impl_StateOfTree_l2_eq, dec_lt_f]; rfl⟩
  induction m with
  | zero =>
    intro i l o hk hi hQ hc
    have := hQ.le hG.1.2
    exact fin i l o (by omega) hQ hc
  | succ m ih =>
    intro i l o hk hi hQ hc
    rcases Nat.lt_or_ge i l.length with u | u
    · obtain ⟨l', o', r1, ⟨s, r2⟩, r3, r4, r5⟩ := st4_p hG hE hl hC t.length 0 l o i (by omega) hQ u (fun j hj => by omega)
      have r4' : spec_l15State_l4 t g o l (i : Int) t (t.length : Int) 0 = _ := r4
      have r5' : impl_StateOfTree_l4 t g o l (i : Int) t (t.length : Int) 0 = _ := r5
      rw [spec_l15State_l2_eq, impl_StateOfTree_l2_eq, dec_lt_t u, cond_true, cond_true, r4', r5']
      refine ih (i + 1) l' o' (by omega) (by rw [r2, List.length_append]; omega) r1 fun x hx j hj => ?_
      have hxl : x < l.length := by omega
      have e : l'.getD x 0 = l.getD x 0 := by rw [r2, getD_app hxl]
      rw [e]
      rcases Nat.lt_or_ge x i with v | v
      · rw [r2]; exact (hc x v j hj).app
      · have : x = i := by omega
        subst this
        exact r3 j hj
    · exact fin i l o (by omega) hQ hc
theorem Qu.ld {g : Gr} {t l o : List Int} {q : Int} (hQ : Qu g t q l o) : ∀ k j, j < k → j < l.length → Ld g o q j (l.getD j 0) := by
  intro k
  induction k with
  | zero => intro j hj; omega
  | succ k ih =>
    intro j hj hl
    by_cases c : l.getD j 0 = q
    · rw [c]; exact .sink _
    · obtain ⟨i, i1, i2⟩ := hQ.up j hl c
      have hr := hQ.rng (l.getD j 0) (by rw [getD_lt hl]; exact List.getElem_mem _)
      obtain ⟨j', rfl⟩ : ∃ j', j = j' + 1 := ⟨j - 1, by omega⟩
      refine .step hr.1 hr.2 c ?_
      rw [i2]
      exact (ih i (by omega) (by omega)).mono (by omega)
/-- a queue that is closed over the tree's edges holds every vertex -/
theorem Qu.all {g : Gr} {t l o : List Int} {q : Int} (hQ : Qu g t q l o) (hc : ∀ x, x < l.length → ∀ j, j < t.length → Clo g t l (l.getD x 0) j) (hA : All (g.1, eds g t)) {v : Int} (h0 : 0 ≤ v) (h1 : v < g.1) : v ∈ l := by
  have cl : ∀ x, x ∈ l → ∀ j, j < t.length → Clo g t l x j := fun x hx j hj => by
    obtain ⟨i, hi, e⟩ := List.getElem_of_mem hx
    have := hc i hi j hj
    rw [getD_lt hi, e] at this
    exact this
  have ee : ∀ j, j < (eds g t).length → j < t.length ∧ (eds g t).getD j (0, 0) = g.2.getD (t.getD j 0).toNat (0, 0) := fun j hj => by
    have hj' : j < t.length := by unfold eds at hj; rw [List.length_map] at hj; exact hj
    refine ⟨hj', ?_⟩
    rw [getD_lt hj, getD_lt hj']
    exact List.getElem_map _
  have key : ∀ v, Conn (eds g t) v → (v ∈ l ↔ (0 : Int) ∈ l) := by
    intro v h
    induction h with
    | zero => exact Iff.rfl
    | fwd hj _ ih =>
      obtain ⟨a, b⟩ := ee _ hj
      rw [b] at ih ⊢
      exact ⟨fun h => ih.1 ((cl _ h _ a).2 rfl), fun h => (cl _ (ih.2 h) _ a).1 rfl⟩
    | bwd hj _ ih =>
      obtain ⟨a, b⟩ := ee _ hj
      rw [b] at ih ⊢
      exact ⟨fun h => ih.1 ((cl _ h _ a).1 rfl), fun h => (cl _ (ih.2 h) _ a).2 rfl⟩
  have hq := hQ.rng q hQ.sink
  exact (key v (hA v h0 h1)).2 ((key q (hA q hq.1 hq.2)).1 hQ.sink)
end Go.Proofs.Ythmddgkpebneoaa.D

/-
  The reference's lists of sets: all sets of so many numbers below a bound, each once.
-/
import Derived.Test.YtgncajnfphlgeaaDoorPureR
namespace Go.Proofs.YtgncajnfphlgeaaDoor.D
open Go Go.Den
set_option linter.unusedVariables false
set_option linter.unusedSimpArgs false
/-! ### sets -/
def SetOk (n k : Nat) (s : List Int) : Prop := s.length = k ∧ s.Pairwise (· < ·) ∧ ∀ x ∈ s, 0 ≤ x ∧ x < (n : Int)
theorem set_last {n k : Nat} {s : List Int} (h : SetOk n (k + 1) s) : ∃ u x, s = u ++ [x] ∧ SetOk n k u ∧ (∀ y ∈ u, y < x) ∧ 0 ≤ x ∧ x < (n : Int) := by
  have hne : s ≠ [] := fun c => by rw [c] at h; exact absurd h.1 (by simp)
  refine ⟨s.dropLast, s.getLast hne, (List.dropLast_concat_getLast hne).symm, ?_, ?_, h.2.2 _ (List.getLast_mem hne)⟩
  · refine ⟨by rw [List.length_dropLast, h.1]; rfl, h.2.1.sublist (List.dropLast_sublist s), fun x hx => h.2.2 x ((List.dropLast_sublist s).subset hx)⟩
  · intro y hy
    have hp := h.2.1
    rw [← List.dropLast_concat_getLast hne, List.pairwise_append] at hp
    exact hp.2.2 y hy _ (by simp)
theorem sets2_p {n : Nat} (hn : n ≤ 12) {s : List Int} {S : List (List Int)} {j : Nat} (hs : s.length ≤ 12) (hj : j < S.length) (hSl : S.length ≤ 1000000) : ∀ (m i : Nat) (O : List (List Int)), (i + m = n ∨ (m = 0 ∧ n ≤ i)) → i ≤ 13 → O.length + m ≤ 20000000 →
    ∃ O', spec_l03Sets_l2 (n : Int) O s (i : Int) S (S.length : Int) (j : Int) = spec_l03Sets_l0 (n : Int) O' S (S.length : Int) ((j + 1 : Nat) : Int) ∧ O'.length ≤ O.length + m ∧ ∀ t, t ∈ O' ↔ t ∈ O ∨ ∃ x : Int, (i : Int) ≤ x ∧ x < (n : Int) ∧ t = s ++ [x] := by
  intro m
  induction m with
  | zero =>
    intro i O hi h12 hO
    rw [spec_l03Sets_l2_eq, decide_eq_false (by omega), cond_false, w64_succ hj (by omega)]
    exact ⟨O, rfl, by omega, fun t => ⟨fun h => .inl h, fun h => h.elim id fun ⟨x, h1, h2, _⟩ => by omega⟩⟩
  | succ m ih =>
    intro i O hi h12 hO
    have hi' : i < n := by omega
    rw [spec_l03Sets_l2_eq, dec_lt_t hi', cond_true, decide_eq_true (by rw [room]; simp only [List.length_nil]; omega), cond_true, decide_eq_true (by rw [room]; simp only [List.nil_append, List.length_singleton]; omega), cond_true, decide_eq_true (by rw [room]; simp only [List.length_singleton]; omega), cond_true, w64_succ hi' (by omega), List.nil_append]
    obtain ⟨O', h1, h2, h3⟩ := ih (i + 1) (O ++ [s ++ [(i : Int)]]) (by omega) (by omega) (by rw [List.length_append, List.length_singleton]; omega)
    rw [List.length_append, List.length_singleton] at h2
    refine ⟨O', h1, by omega, fun t => (h3 t).trans ?_⟩
    constructor
    · rintro (h | ⟨x, x1, x2, x3⟩)
      · rcases List.mem_append.1 h with h | h
        · exact .inl h
        · exact .inr ⟨(i : Int), by omega, by omega, List.mem_singleton.1 h⟩
      · exact .inr ⟨x, by omega, x2, x3⟩
    · rintro (h | ⟨x, x1, x2, x3⟩)
      · exact .inl (List.mem_append_left _ h)
      · by_cases c : x = (i : Int)
        · exact .inl (List.mem_append_right _ (List.mem_singleton.2 (by rw [x3, c])))
        · exact .inr ⟨x, by omega, x2, x3⟩
theorem incr_last {s : List Int} (h : s.Pairwise (· < ·)) (hn : 0 < s.length) {x : Int} : (∀ y ∈ s, y < x) ↔ s.getD (s.length - 1) 0 < x := by
  have hl : s.length - 1 < s.length := by omega
  rw [getD_lt hl]
  constructor
  · exact fun k => k _ (List.getElem_mem _)
  · intro k y hy
    obtain ⟨i, hi, rfl⟩ := List.getElem_of_mem hy
    by_cases c : i = s.length - 1
    · subst c; exact k
    · have := (List.pairwise_iff_getElem.1 h) i (s.length - 1) hi hl (by omega)
      omega
theorem sets0_p {n k : Nat} (hn : n ≤ 12) (hk : k ≤ 12) {S : List (List Int)} (hS : ∀ s ∈ S, SetOk n k s) (hSl : S.length ≤ 1000000) : ∀ (m j : Nat) (O : List (List Int)), j + m = S.length → O.length ≤ 12 * j →
    ∃ O', spec_l03Sets_l0 (n : Int) O S (S.length : Int) (j : Int) = some O' ∧ O'.length ≤ 12 * S.length ∧ ∀ t, t ∈ O' ↔ t ∈ O ∨ ∃ i, j ≤ i ∧ i < S.length ∧ ∃ x : Int, t = S.getD i [] ++ [x] ∧ (∀ y ∈ S.getD i [], y < x) ∧ 0 ≤ x ∧ x < (n : Int) := by
  intro m
  induction m with
  | zero =>
    intro j O hj hO
    have : j = S.length := by omega
    subst this
    rw [spec_l03Sets_l0_eq, dec_lt_f]
    exact ⟨O, rfl, hO, fun t => ⟨fun h => .inl h, fun h => h.elim id fun ⟨i, h1, h2, _⟩ => by omega⟩⟩
  | succ m ih =>
    intro j O hj hO
    have hj' : j < S.length := by omega
    have hs := hS _ (getD_mem [] hj')
    rw [spec_l03Sets_l0_eq, dec_lt_t hj', inside_lt hj', toNat_n]
    simp only [cond_true]
    generalize hsd : S.getD j [] = s at hs
    have fin : ∀ i : Nat, i ≤ 13 → (∀ x : Int, 0 ≤ x → (((i : Int) ≤ x) ↔ ∀ y ∈ s, y < x)) → ∃ O', spec_l03Sets_l2 (n : Int) O s (i : Int) S (S.length : Int) (j : Int) = some O' ∧ O'.length ≤ 12 * S.length ∧ ∀ t, t ∈ O' ↔ t ∈ O ∨ ∃ i, j ≤ i ∧ i < S.length ∧ ∃ x : Int, t = S.getD i [] ++ [x] ∧ (∀ y ∈ S.getD i [], y < x) ∧ 0 ≤ x ∧ x < (n : Int) := by
      intro i hi hx
      obtain ⟨O1, a1, a2, a3⟩ := sets2_p hn (s := s) (by rw [hs.1]; exact hk) hj' hSl (n - i) i O (by omega) hi (by omega)
      obtain ⟨O2, b1, b2, b3⟩ := ih (j + 1) O1 (by omega) (by omega)
      refine ⟨O2, by rw [a1, b1], b2, fun t => (b3 t).trans ?_⟩
      constructor
      · rintro (h | ⟨i', i1, i2, x, x1, x2, x3⟩)
        · rcases (a3 t).1 h with h | ⟨x, x1, x2, x3⟩
          · exact .inl h
          · have x0 : 0 ≤ x := by omega
            exact .inr ⟨j, Nat.le_refl _, hj', x, by rw [hsd]; exact x3, by rw [hsd]; exact (hx x x0).1 x1, x0, x2⟩
        · exact .inr ⟨i', by omega, i2, x, x1, x2, x3⟩
      · rintro (h | ⟨i', i1, i2, x, x1, x2, x3, x4⟩)
        · exact .inl ((a3 t).2 (.inl h))
        · by_cases c : i' = j
          · subst c
            rw [hsd] at x1 x2
            exact .inl ((a3 t).2 (.inr ⟨x, (hx x x3).2 x2, x4, x1⟩))
          · exact .inr ⟨i', by omega, i2, x, x1, x2, x3, x4⟩
    by_cases c : 0 < s.length
    · rw [decide_eq_true (by omega), cond_true, w64_id (n := (s.length : Int) - 1) (by omega) (by rw [hs.1]; omega), show (s.length : Int) - 1 = ((s.length - 1 : Nat) : Int) by omega, inside_lt (show s.length - 1 < s.length by omega), cond_true, toNat_n]
      have hr := hs.2.2 (s.getD (s.length - 1) 0) (getD_mem 0 (by omega))
      rw [w64_id (n := s.getD (s.length - 1) 0 + 1) (by omega) (by omega)]
      have e : s.getD (s.length - 1) 0 + 1 = (((s.getD (s.length - 1) 0).toNat + 1 : Nat) : Int) := by omega
      rw [e]
      refine fin _ (by omega) fun x hx => ?_
      rw [incr_last hs.2.1 c]
      omega
    · have hs0 : s = [] := List.eq_nil_of_length_eq_zero (by omega)
      rw [decide_eq_false (by omega), cond_false]
      exact fin 0 (by omega) fun x hx => ⟨fun _ y hy => by rw [hs0] at hy; exact absurd hy List.not_mem_nil, fun _ => by omega⟩
theorem sets_p {n : Nat} (hn : n ≤ 12) : ∀ k : Nat, k ≤ 5 → ∃ S, spec_l03Sets (n : Int) (k : Int) = some S ∧ S.length ≤ 12 ^ k ∧ ∀ s, s ∈ S ↔ SetOk n k s := by
  intro k
  induction k with
  | zero =>
    intro _
    refine ⟨[[]], by rw [spec_l03Sets_eq]; rfl, by decide, fun s => ?_⟩
    rw [List.mem_singleton]
    constructor
    · rintro rfl; exact ⟨rfl, List.Pairwise.nil, fun x hx => absurd hx List.not_mem_nil⟩
    · exact fun h => List.eq_nil_of_length_eq_zero h.1
  | succ k ih =>
    intro hk
    obtain ⟨S, s1, s2, s3⟩ := ih (by omega)
    have h5 : 12 ^ k ≤ 12 ^ 4 := Nat.pow_le_pow_right (by decide) (by omega)
    obtain ⟨O, o1, o2, o3⟩ := sets0_p hn (k := k) (by omega) (fun s hs => (s3 s).1 hs) (Nat.le_trans s2 (Nat.le_trans h5 (by decide))) S.length 0 [] (by omega) (by simp)
    refine ⟨O, ?_, by rw [Nat.pow_succ]; omega, fun s => ?_⟩
    · have o1' : spec_l03Sets_l0 (n : Int) [] S (S.length : Int) 0 = some O := o1
      rw [spec_l03Sets_eq, beq_f (by omega), cond_false, w64_id (n := ((k + 1 : Nat) : Int) - 1) (by omega) (by omega), show ((k + 1 : Nat) : Int) - 1 = (k : Int) by omega, s1, Option.bind_some, o1']
    · rw [o3 s]
      constructor
      · rintro (h | ⟨i, _, i2, x, x1, x2, x3, x4⟩)
        · exact absurd h List.not_mem_nil
        · have hu := (s3 _).1 (getD_mem [] i2)
          subst x1
          refine ⟨by rw [List.length_append, hu.1]; rfl, ?_, fun y hy => ?_⟩
          · rw [List.pairwise_append]
            exact ⟨hu.2.1, List.pairwise_singleton _ _, fun y hy z hz => by rw [List.mem_singleton.1 hz]; exact x2 y hy⟩
          · rcases List.mem_append.1 hy with hy | hy
            · exact hu.2.2 y hy
            · rw [List.mem_singleton.1 hy]; exact ⟨x3, x4⟩
      · intro h
        obtain ⟨u, x, rfl, u1, u2, u3, u4⟩ := set_last h
        obtain ⟨i, hi, e⟩ := List.getElem_of_mem ((s3 u).2 u1)
        refine .inr ⟨i, Nat.zero_le _, hi, x, ?_, ?_, u3, u4⟩
        · rw [getD_lt hi, e]
        · rw [getD_lt hi, e]; exact u2
end Go.Proofs.YtgncajnfphlgeaaDoor.D

/-
  The action on trees: both programs alike (third part: the state of a tree is one of rotors).
-/
import Derived.Test.YthmddgkpebneoaaPureAu
namespace Go.Proofs.Ythmddgkpebneoaa.D
open Go Go.Den
set_option linter.unusedVariables false
set_option linter.unusedSimpArgs false
theorem sInit_p {g : Gr} {t : List Int} {q : Int} {n : Nat} (hn : g.1 = (n : Int)) (h6 : n ≤ 6) : ∀ m k, k + m = n → spec_l15State_l0 t q g (List.replicate k (-1)) (k : Int) = spec_l15State_l2 t g (List.replicate n (-1)) [q] 0 := by
  intro m
  induction m with
  | zero =>
    intro k hk
    have : k = n := by omega
    subst this
    rw [spec_l15State_l0_eq, hn, dec_lt_f]; rfl
  | succ m ih =>
    intro k hk
    have hk' : k < n := by omega
    rw [spec_l15State_l0_eq, hn, dec_lt_t hk', room1 (by rw [List.length_replicate]; omega), w64_succ hk' (by omega), cond_true, cond_true]
    have e : List.replicate k (-1 : Int) ++ [-1] = List.replicate (k + 1) (-1) := List.replicate_succ'.symm
    rw [e]
    exact ih (k + 1) (by omega)
theorem iInit_p {g : Gr} {t : List Int} {q : Int} {n : Nat} (h6 : n ≤ 6) : ∀ m k, k + m = n → impl_StateOfTree_l0 t q g (List.replicate k (-1) ++ List.replicate (n - k) 0) (n : Int) (k : Int) = impl_StateOfTree_l2 t g (List.replicate n (-1)) [q] 0 := by
  intro m
  induction m with
  | zero =>
    intro k hk
    have : k = n := by omega
    subst this
    rw [impl_StateOfTree_l0_eq, dec_lt_f, Nat.sub_self, List.replicate_zero, List.append_nil]; rfl
  | succ m ih =>
    intro k hk
    have hk' : k < n := by omega
    rw [impl_StateOfTree_l0_eq, dec_lt_t hk', inside_lt (by rw [List.length_append, List.length_replicate, List.length_replicate]; omega), w64_succ hk' (by omega), show ((k : Int)).toNat = k by omega, cond_true, cond_true]
    have e : (List.replicate k (-1 : Int) ++ List.replicate (n - k) 0).set k (-1) = List.replicate (k + 1) (-1) ++ List.replicate (n - (k + 1)) 0 := by
      rw [List.set_append_right _ _ (by rw [List.length_replicate]; omega), List.length_replicate, Nat.sub_self, show n - k = (n - (k + 1)) + 1 by omega, List.replicate_succ, List.set_cons_zero, List.replicate_succ', List.append_assoc]; rfl
    rw [e]
    exact ih (k + 1) (by omega)
theorem state_p {g : Gr} {t : List Int} {q : Int} (hC : ∀ (l : List Int) (v : Int), l.length ≤ 1000 → slices_Contains_int_int l v = some (decide (v ∈ l))) (hg : g.2.length ≤ 1048576) (ht : t.length ≤ 1048576) : ∃ r, spec_StateOfTree g t q = some r ∧ impl_StateOfTree g t q = some r ∧ (r.2 = true → (RO g r.1 q ∧ r.1.getD q.toNat 0 = -1) ∧ (∀ u, 0 ≤ u → u < g.1 → Ld g r.1 q 6 u) ∧ ∀ v : Nat, v < r.1.length → ¬ (v : Int) = q → r.1.getD v 0 ∈ t) ∧ (GOk g → (t.length : Int) = g.1 - 1 → Tr g t → 0 ≤ q → q < g.1 → r.2 = true) := by
  obtain ⟨b, p1, p2, p3⟩ := isTr_p hg ht
  rw [spec_StateOfTree_eq, impl_StateOfTree_eq, p1, p2]
  cases b with
  | false => exact ⟨_, rfl, rfl, fun h => (by cases h), fun h1 h2 h3 _ _ => by have := p3.2 ⟨h1, h2, h3⟩; cases this⟩
  | true =>
    obtain ⟨hG, hlen, hT⟩ := p3.1 rfl
    have hn := hG.1.1
    simp only [Option.bind_some, Bool.not_true, cond_false]
    rw [in_p, within_p, w64_id (n := g.1 - 1) (by omega) (by omega)]
    simp only [Option.bind_some]
    by_cases c : 0 ≤ q ∧ q ≤ g.1 - 1
    · rw [decide_eq_true c]
      simp only [Bool.not_true, cond_false]
      have hr : (decide (0 ≤ g.1) && decide (g.1 ≤ (room : Int))) = true := by
        rw [decide_eq_true (by omega), decide_eq_true (by unfold room; omega)]; rfl
      obtain ⟨n, hN⟩ : ∃ n : Nat, g.1 = (n : Int) := ⟨g.1.toNat, by omega⟩
      have hQ : Qu g t q [q] (List.replicate n (-1)) := by
        refine ⟨by simp, fun v hv => ?_, by simp, by rw [List.length_replicate]; omega, fun v hv hne hm => ?_, ?_, fun v hv hne hm => ?_, fun j hj hne => ?_⟩
        · rw [List.mem_singleton.1 hv]; omega
        · exact absurd (List.mem_singleton.1 hm) hne
        · rw [getD_lt (by rw [List.length_replicate]; omega), List.getElem_replicate]
        · exact absurd (List.mem_singleton.1 hm) hne
        · rw [List.length_singleton] at hj
          have : j = 0 := by omega
          subst this
          exact absurd rfl hne
      obtain ⟨l', o', r1, r2, r3, r4⟩ := st2_p hG.1 hT.1.1 (by omega) hC 6 0 [q] (List.replicate n (-1)) rfl (Nat.zero_le _) hQ (fun x hx => by omega)
      have r3' : spec_l15State_l2 t g (List.replicate n (-1)) [q] 0 = some o' := r3
      have r4' : impl_StateOfTree_l2 t g (List.replicate n (-1)) [q] 0 = some (o', true) := r4
      have s1 := sInit_p (t := t) (q := q) hN (by omega) n 0 (by omega)
      have s2 := iInit_p (g := g) (t := t) (q := q) (n := n) (by omega) n 0 (by omega)
      have s1' : spec_l15State_l0 t q g [] 0 = some o' := s1.trans r3'
      have s2' : impl_StateOfTree_l0 t q g (List.replicate n 0) (n : Int) 0 = some (o', true) := s2.trans r4'
      have all : ∀ u, 0 ≤ u → u < g.1 → u ∈ l' := fun u h0 h1 => r1.all r2 hT.2 h0 h1
      refine ⟨(o', true), ?_, ?_, fun _ => ⟨⟨⟨hG, c.1, by omega, r1.len, fun v hv hne => ?_⟩, r1.none⟩, fun u h0 h1 => ?_, fun v hv hne => ?_⟩, fun _ _ _ _ _ => rfl⟩
      · rw [spec_l15State_eq, s1']; rfl
      · rw [hr, cond_true, hN, Int.toNat_natCast, List.length_replicate, s2']
      · have hl := r1.len
        have hv : v < o'.length := hv
        exact r1.at' v hv hne (r1.all r2 hT.2 (by omega) (by omega))
      · obtain ⟨j, hj, e⟩ := List.getElem_of_mem (all u h0 h1)
        have := r1.ld (j + 1) j (by omega) hj
        rw [getD_lt hj, e] at this
        exact this.mono (by have := r1.le (by omega); omega)
      · have hl := r1.len
        have hv : v < o'.length := hv
        exact r1.tm v hv hne (all v (by omega) (by omega))
    · rw [decide_eq_false c]; exact ⟨_, rfl, rfl, fun h => (by cases h), fun _ _ _ h0 h1 => absurd ⟨h0, by omega⟩ c⟩
end Go.Proofs.Ythmddgkpebneoaa.D

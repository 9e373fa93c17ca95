/-
  The action on trees: both programs alike.
-/
import Derived.Test.YthmddgkpebneoaaPureAy
namespace Go.Proofs.Ythmddgkpebneoaa.D
open Go Go.Den
set_option linter.unusedVariables false
set_option linter.unusedSimpArgs false
def DO (g : Gr) (d : List Int) : Prop := GOk g ∧ (d.length : Int) = g.1 ∧ ∀ j, j < d.length → -60 ≤ d.getD j 0 ∧ d.getD j 0 ≤ 60
theorem divOk_p {g : Gr} {d : List Int} (hg : g.2.length ≤ 1048576) (hd : d.length ≤ 1048576) : ∃ b, spec_DivisorOk g d = some b ∧ impl_DivisorOk g d = some b ∧ (b = true ↔ DO g d) := by
  obtain ⟨b, p1, p2, p3⟩ := graphOk_p (g := g) (by omega)
  rw [spec_DivisorOk_eq, impl_DivisorOk_eq, p1, p2]
  cases b with
  | false => exact ⟨false, rfl, rfl, ⟨fun k => (by cases k), fun k => (by have := p3.2 k.1; cases this)⟩⟩
  | true =>
    simp only [Option.bind_some, Bool.not_true, cond_false, cond_true]
    by_cases c : (d.length : Int) = g.1
    · rw [eq_f c, beq_t c]
      obtain ⟨b, q1, q2⟩ := allWithin_p (l := d) (lo := -60) (hi := 60) (by omega)
      obtain ⟨b', r1, r2⟩ := upAll (n := d.length) (f := fun i => spec_DivisorOk_l0 d (d.length : Int) i) (p := fun k => decide (-60 ≤ d.getD k 0 ∧ d.getD k 0 ≤ 60)) (fun k hk => by
        rw [spec_DivisorOk_l0_eq, dec_lt_t hk, inside_lt hk, w64_succ hk (by omega)]
        simp only [cond_true, Int.toNat_natCast, in_p, Option.bind_some]
        cases decide (-60 ≤ d.getD k 0 ∧ d.getD k 0 ≤ 60) <;> rfl) (by rw [spec_DivisorOk_l0_eq, dec_lt_f]; rfl)
      have : b' = b := by
        rw [Bool.eq_iff_iff, q2, r2]
        exact ⟨fun h j hj => of_decide_eq_true (h j hj), fun h j hj => decide_eq_true (h j hj)⟩
      subst this
      refine ⟨b', r1, ?_, q2.trans ⟨fun h => ⟨p3.1 rfl, c, h⟩, fun h => h.2.2⟩⟩
      rw [q1]; rfl
    · rw [ne_t c, beq_f c]
      exact ⟨false, rfl, rfl, ⟨fun k => (by cases k), fun k => absurd k.2.1 c⟩⟩
theorem has_c {l : List Int} {v : Int} (h : l.length ≤ 1000) : slices_Contains_int_int l v = some (decide (v ∈ l)) := by
  rw [slices_Contains_int_int_eq, slices_Index_int_int_eq]
  have key : ∀ (m k : Nat), k + m = l.length → (∀ j, j < k → l.getD j 0 ≠ v) → ∃ r, slices_Index_int_int_l0 l v (l.length : Int) (k : Int) = some r ∧ (0 ≤ r ↔ v ∈ l) := by
    intro m
    induction m with
    | zero =>
      intro k hk hp
      have : k = l.length := by omega
      subst this
      rw [slices_Index_int_int_l0_eq, dec_lt_f]
      refine ⟨-1, rfl, ⟨fun q => by omega, fun hv => ?_⟩⟩
      obtain ⟨i, hi, rfl⟩ := List.mem_iff_getElem.1 hv
      exact absurd (getD_lt hi) (hp i hi)
    | succ m ih =>
      intro k hk hp
      have hk' : k < l.length := by omega
      rw [slices_Index_int_int_l0_eq, dec_lt_t hk', inside_lt hk', Int.toNat_natCast, w64_succ hk' (by omega)]
      simp only [cond_true]
      by_cases c : l.getD k 0 = v
      · rw [beq_t c.symm, cond_true]
        exact ⟨_, rfl, ⟨fun _ => by rw [← c]; exact (by rw [getD_lt hk']; exact List.getElem_mem _), fun _ => by omega⟩⟩
      · rw [beq_f (fun q => c q.symm), cond_false]
        exact ih (k + 1) (by omega) fun j hj => by
          by_cases e : j = k
          · subst e; exact c
          · exact hp j (by omega)
  obtain ⟨r, h1, h2⟩ := key l.length 0 (by omega) fun j hj => by omega
  have h1' : slices_Index_int_int_l0 l v (l.length : Int) 0 = some r := h1
  rw [h1', Option.bind_some]
  congr 1
  exact decide_eq_decide.2 h2
theorem effA_p {d : List Int} (h : d.length ≤ 1048576) : ∃ b, spec_IsEffective d = some b ∧ impl_IsEffective d = some b := by
  rw [spec_IsEffective_eq, impl_IsEffective_eq]
  have key : ∀ m k, k + m = d.length → ∃ b, spec_IsEffective_l0 d (d.length : Int) (k : Int) = some b ∧ impl_IsEffective_l0 d (d.length : Int) (k : Int) = some b := by
    intro m
    induction m with
    | zero =>
      intro k hk
      have : k = d.length := by omega
      subst this
      rw [spec_IsEffective_l0_eq, impl_IsEffective_l0_eq, dec_lt_f]
      exact ⟨true, rfl, rfl⟩
    | succ m ih =>
      intro k hk
      have hk' : k < d.length := by omega
      rw [spec_IsEffective_l0_eq, impl_IsEffective_l0_eq, dec_lt_t hk', inside_lt hk', w64_succ hk' (by omega)]
      simp only [cond_true]
      cases decide (d.getD (k : Int).toNat 0 < 0) with
      | true => exact ⟨false, rfl, rfl⟩
      | false => exact ih (k + 1) (by omega)
  exact key d.length 0 (by omega)
theorem plOk_p {g : Gr} {p : List Int} {q : Int} (hg : g.2.length ≤ 1048576) (hp : p.length ≤ 1048576) : ∃ b, spec_PileOk g p q = some b ∧ impl_PileOk g p q = some b ∧ (b = true → DO g p) := by
  obtain ⟨b, p1, p2, p3⟩ := divOk_p hg hp
  rw [impl_PileOk_eq, spec_PileOk_eq, p1, p2]
  cases b with
  | false => exact ⟨false, rfl, rfl, fun h => by cases h⟩
  | true =>
    have hD := p3.1 rfl
    have hn := hD.1.1.1
    have hl := hD.2.1
    simp only [Option.bind_some, cond_true]
    rw [in_p, within_p, w64_id (n := g.1 - 1) (by omega) (by omega)]
    simp only [Option.bind_some]
    by_cases c : 0 ≤ q ∧ q ≤ g.1 - 1
    · rw [decide_eq_true c]
      obtain ⟨e, e1, e2⟩ := effA_p (d := p) (by omega)
      simp only [cond_true, e1, e2, Option.bind_some]
      cases e with
      | false => exact ⟨false, rfl, rfl, fun h => by cases h⟩
      | true =>
        rw [inside_int c.1 (by omega)]
        exact ⟨_, rfl, rfl, fun _ => hD⟩
    · rw [decide_eq_false c]; exact ⟨false, rfl, rfl, fun h => by cases h⟩
theorem walk_p {g : Gr} {q v : Int} {r : List Int} (h : RO g r q) (hq : r.getD q.toNat 0 = -1) (hv : 0 ≤ v ∧ v < g.1) : ∃ x, spec_l15Walk g r q v = some x ∧ impl_WalkToSink g r q v = some x ∧ (x.2.2 = true → RO g x.1 q ∧ x.1.getD q.toNat 0 = -1) := by
  obtain ⟨x, w1, w2, w3⟩ := wl_p 2000 0 r v rfl h hq hv
  have hn := h.1.1.1
  have hl := h.2.2.2.1
  have hr : decide (([] : List Int).length + r.length ≤ room) = true := decide_eq_true (by unfold room; rw [List.length_nil]; omega)
  refine ⟨x, ?_, ?_, w3⟩
  · rw [spec_l15Walk_eq, hr, cond_true, List.nil_append]; exact w1
  · rw [impl_WalkToSink_eq, rotors_t h hq]
    simp only [Option.bind_some, Bool.not_true, cond_false]
    rw [within_p, w64_id (n := g.1 - 1) (by omega) (by omega), decide_eq_true (show 0 ≤ v ∧ v ≤ g.1 - 1 by omega), impl_copyInts_eq, hr]
    simp only [Option.bind_some, Bool.not_true, cond_false, cond_true, List.nil_append]
    exact w2
end Go.Proofs.Ythmddgkpebneoaa.D

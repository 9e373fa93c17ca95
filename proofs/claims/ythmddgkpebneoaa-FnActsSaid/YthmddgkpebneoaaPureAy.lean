/-
  The action on trees: both programs alike (sixth part: the walk to the sink).
-/
import Derived.Test.YthmddgkpebneoaaPureAx
namespace Go.Proofs.Ythmddgkpebneoaa.D
open Go Go.Den
set_option linter.unusedVariables false
set_option linter.unusedSimpArgs false
theorem RO.step {g : Gr} {r : List Int} {q v i : Int} (h : RO g r q) (hq : r.getD q.toNat 0 = -1) (hv : 0 ≤ v ∧ v < g.1) (hne : ¬ v = q) (hi : At g i v) : RO g (r.set v.toNat i) q ∧ (r.set v.toNat i).getD q.toNat 0 = -1 := by
  obtain ⟨hG, q0, q1, hl, ha⟩ := h
  refine ⟨⟨hG, q0, q1, by rw [List.length_set]; exact hl, fun w hw hwq => ?_⟩, ?_⟩
  · rw [List.length_set] at hw
    by_cases c : w = v.toNat
    · have e : (r.set v.toNat i).getD w 0 = i := by rw [c, getD_lt (by rw [List.length_set]; omega), List.getElem_set_self]
      rw [e, show (w : Int) = v by omega]
      exact hi
    · have e : (r.set v.toNat i).getD w 0 = r.getD w 0 := by rw [getD_lt (by rw [List.length_set]; omega), List.getElem_set_ne (by omega), ← getD_lt (d := 0)]
      rw [e]
      exact ha w hw hwq
  · rw [getD_lt (by omega)] at hq
    rw [getD_lt (by rw [List.length_set]; omega), List.getElem_set_ne (by omega)]
    exact hq
theorem wl_p {g : Gr} {q : Int} : ∀ (m n : Nat) (r : List Int) (v : Int), n + m = 2000 → RO g r q → r.getD q.toNat 0 = -1 → (0 ≤ v ∧ v < g.1) → ∃ x, spec_l15Walk_l0 q v g r (n : Int) = some x ∧ impl_WalkToSink_l0 q v g r (n : Int) = some x ∧ (x.2.2 = true → RO g x.1 q ∧ x.1.getD q.toNat 0 = -1) := by
  have step : ∀ (n : Nat) (r : List Int) (v : Int), n ≤ 2000 → RO g r q → r.getD q.toNat 0 = -1 → (0 ≤ v ∧ v < g.1) → ¬ v = q → ∃ r' v', RO g r' q ∧ r'.getD q.toNat 0 = -1 ∧ (0 ≤ v' ∧ v' < g.1) ∧ spec_l15Walk_l0 q v g r (n : Int) = spec_l15Walk_l0 q v' g r' ((n + 1 : Nat) : Int) ∧ impl_WalkToSink_l0 q v g r (n : Int) = cond ((n : Int) == 2000) (some (([] : List Int), 0, false)) (impl_WalkToSink_l0 q v' g r' ((n + 1 : Nat) : Int)) := by
    intro n r v hn h hq hv hne
    have hl := h.2.2.2.1
    have hG := h.1
    have hg := hG.1.2.1
    have hn6 := hG.1.1
    have hat : At g (r.getD v.toNat 0) v := by
      have := h.2.2.2.2 v.toNat (by omega) (by omega)
      rw [show ((v.toNat : Nat) : Int) = v by omega] at this
      exact this
    obtain ⟨i, n1, n2, n3⟩ := next_p hG hat hv
    have hs := h.step hq hv hne n3
    have hed : EdOk g.1 (g.2.getD i.toNat (0, 0)) := hG.1.2.2 _ (by have := n3.1; have := n3.2.1; omega)
    have hx : (r.set v.toNat i).getD v.toNat 0 = i := by rw [getD_lt (by rw [List.length_set]; omega), List.getElem_set_self]
    have hi3 := n3.2.2
    obtain ⟨e0, e1, e2⟩ := hed
    refine ⟨r.set v.toNat i, (g.2.getD i.toNat (0, 0)).1 + (g.2.getD i.toNat (0, 0)).2 - v, hs.1, hs.2, by omega, ?_, ?_⟩
    · rw [spec_l15Walk_l0_eq, decide_eq_true (by omega), beq_f hne, inside_int hv.1 (by omega), n1]
      simp only [cond_true, cond_false, Option.bind_some]
      rw [inside_int hv.1 (by rw [List.length_set]; omega), hx, inside_int n3.1 n3.2.1, spec_l15Other_eq, w64_id (n := (g.2.getD i.toNat (0, 0)).1 + (g.2.getD i.toNat (0, 0)).2) (by omega) (by omega), w64_id (n := (g.2.getD i.toNat (0, 0)).1 + (g.2.getD i.toNat (0, 0)).2 - v) (by omega) (by omega), w64_id (n := (n : Int) + 1) (by omega) (by omega)]
      rfl
    · rw [impl_WalkToSink_l0_eq, ne_t hne, cond_true, inside_int hv.1 (by omega), n2]
      simp only [cond_true, cond_false, Option.bind_some]
      rw [inside_int hv.1 (by rw [List.length_set]; omega), hx, impl_across_eq, inside_int n3.1 n3.2.1, w64_id (n := (g.2.getD i.toNat (0, 0)).1 + (g.2.getD i.toNat (0, 0)).2) (by omega) (by omega), w64_id (n := (g.2.getD i.toNat (0, 0)).1 + (g.2.getD i.toNat (0, 0)).2 - v) (by omega) (by omega), w64_id (n := (n : Int) + 1) (by omega) (by omega)]
      rfl
  have done : ∀ (n : Nat) (r : List Int) (v : Int), n ≤ 2000 → RO g r q → r.getD q.toNat 0 = -1 → v = q → ∃ x, spec_l15Walk_l0 q v g r (n : Int) = some x ∧ impl_WalkToSink_l0 q v g r (n : Int) = some x ∧ (x.2.2 = true → RO g x.1 q ∧ x.1.getD q.toNat 0 = -1) := fun n r v hn h hq e => by
    refine ⟨(r, (n : Int), true), ?_, ?_, fun _ => ⟨h, hq⟩⟩
    · rw [spec_l15Walk_l0_eq, decide_eq_true (by omega), beq_t e]; rfl
    · rw [impl_WalkToSink_l0_eq, eq_f e]; rfl
  intro m
  induction m with
  | zero =>
    intro n r v hk h hq hv
    by_cases c : v = q
    · exact done n r v (by omega) h hq c
    · obtain ⟨r', v', h1, h2, h3, h4, h5⟩ := step n r v (by omega) h hq hv c
      refine ⟨([], 0, false), ?_, ?_, fun h => by cases h⟩
      · rw [h4, spec_l15Walk_l0_eq, decide_eq_false (by omega)]; rfl
      · rw [h5, beq_t (by omega)]; rfl
  | succ m ih =>
    intro n r v hk h hq hv
    by_cases c : v = q
    · exact done n r v (by omega) h hq c
    · obtain ⟨r', v', h1, h2, h3, h4, h5⟩ := step n r v (by omega) h hq hv c
      rw [h4, h5, beq_f (by omega), cond_false]
      exact ih (n + 1) r' v' (by omega) h1 h2 h3
end Go.Proofs.Ythmddgkpebneoaa.D

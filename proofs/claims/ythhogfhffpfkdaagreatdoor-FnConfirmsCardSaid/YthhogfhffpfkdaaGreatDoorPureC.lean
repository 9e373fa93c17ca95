/-
  Graphs: both say alike whether a graph is one.
-/
import Derived.Test.YthhogfhffpfkdaaGreatDoorPureB
namespace Go.Proofs.YthhogfhffpfkdaaGreatDoor.D
open Go Go.Den
set_option linter.unusedVariables false
set_option linter.unusedSimpArgs false
abbrev Gr : Type := Int × List (Int × Int)
theorem within_p {a lo hi : Int} : impl_within a lo hi = some (decide (lo ≤ a ∧ a ≤ hi)) := by
  rw [impl_within_eq]
  by_cases c : lo ≤ a
  · rw [decide_eq_true (show a ≥ lo from c)]
    simp [c]
  · rw [decide_eq_false (show ¬ a ≥ lo from c)]
    simp [c]
def EdOk (n : Int) (e : Int × Int) : Prop := 0 ≤ e.1 ∧ e.1 < e.2 ∧ e.2 < n
instance (n : Int) (e : Int × Int) : Decidable (EdOk n e) := by unfold EdOk; infer_instance
def EOk (g : Gr) : Prop := (1 ≤ g.1 ∧ g.1 ≤ 6) ∧ g.2.length ≤ 12 ∧ ∀ j, j < g.2.length → EdOk g.1 (g.2.getD j (0, 0))
theorem impl_EdgesOk_p {g : Gr} (h : g.2.length ≤ 9223372036854775807) : ∃ b, impl_EdgesOk g = some b ∧ (b = true ↔ EOk g) := by
  rw [impl_EdgesOk_eq, within_p]
  simp only [Option.bind_some]
  by_cases c1 : 1 ≤ g.1 ∧ g.1 ≤ 6
  · rw [decide_eq_true c1]
    by_cases c2 : g.2.length ≤ 12
    · have c3 : ¬ ((g.2.length : Int) > 12) := by omega
      rw [decide_eq_false c3]
      simp only [Bool.not_true, cond_false]
      obtain ⟨b, h1, h2⟩ := upAll (n := g.2.length) (f := fun i => impl_EdgesOk_l0 g g.2 (g.2.length : Int) i) (p := fun k => decide (EdOk g.1 (g.2.getD k (0, 0)))) (fun k hk => by
        rw [impl_EdgesOk_l0_eq, dec_lt_t hk, inside_lt hk, w64_succ hk h]
        simp only [cond_true, Int.toNat_natCast]
        obtain ⟨⟨a, b⟩, hab⟩ : ∃ e, g.2.getD k (0, 0) = e := ⟨_, rfl⟩
        simp only [hab]
        by_cases d1 : a < 0
        · rw [decide_eq_true d1, decide_eq_false (show ¬ EdOk g.1 (a, b) from fun k => by unfold EdOk at k; simp only at k; omega)]; rfl
        · rw [decide_eq_false d1]
          by_cases d2 : a ≥ b
          · rw [decide_eq_true d2, decide_eq_false (show ¬ EdOk g.1 (a, b) from fun k => by unfold EdOk at k; simp only at k; omega)]; rfl
          · rw [decide_eq_false d2]
            by_cases d3 : b ≥ g.1
            · rw [decide_eq_true d3, decide_eq_false (show ¬ EdOk g.1 (a, b) from fun k => by unfold EdOk at k; simp only at k; omega)]; rfl
            · rw [decide_eq_false d3, decide_eq_true (show EdOk g.1 (a, b) from ⟨by simp only; omega, by simp only; omega, by simp only; omega⟩)]; rfl) (by rw [impl_EdgesOk_l0_eq, dec_lt_f]; rfl)
      refine ⟨b, h1, h2.trans ⟨fun k => ⟨c1, c2, fun j hj => of_decide_eq_true (k j hj)⟩, fun k j hj => decide_eq_true (k.2.2 j hj)⟩⟩
    · have c3 : (g.2.length : Int) > 12 := by omega
      rw [decide_eq_true c3]
      exact ⟨false, rfl, ⟨fun k => (by cases k), fun k => absurd k.2.1 c2⟩⟩
  · rw [decide_eq_false c1]
    exact ⟨false, rfl, ⟨fun k => (by cases k), fun k => absurd k.1 c1⟩⟩
/-! ### the order of the edges -/
def Lt (a b : Int × Int) : Prop := a.1 < b.1 ∨ (a.1 = b.1 ∧ a.2 < b.2)
instance (a b : Int × Int) : Decidable (Lt a b) := by unfold Lt; infer_instance
def Srt (l : List (Int × Int)) : Prop := ∀ j, j + 1 < l.length → ¬ Lt (l.getD (j + 1) (0, 0)) (l.getD j (0, 0))
theorem cmp_p {a b : Int} : cmp_Compare_int a b = some (if a < b then -1 else if a > b then 1 else 0) := by
  rw [cmp_Compare_int_eq, cmp_isNaN_int_eq, cmp_isNaN_int_eq]
  simp only [bne_self_eq_false, Option.bind_some, cond_false]
  by_cases c1 : a < b
  · simp [c1]
  · by_cases c2 : b < a <;> simp [c1, c2]
theorem compareEdges_p {a b : Int × Int} : ∃ c, impl_compareEdges a b = some c ∧ (c < 0 ↔ Lt a b) := by
  rw [impl_compareEdges_eq, cmp_p]
  simp only [Option.bind_some]
  unfold Lt
  by_cases c1 : a.1 < b.1
  · refine ⟨-1, by simp [c1], by simp [c1]⟩
  · by_cases c2 : a.1 > b.1
    · refine ⟨1, by simp [c1, c2], ?_⟩
      have : ¬ a.1 = b.1 := by omega
      simp [c1, this]
    · have c3 : a.1 = b.1 := by omega
      rw [cmp_p]
      refine ⟨_, by simp only [c1, c2, if_false]; rfl, ?_⟩
      by_cases c4 : a.2 < b.2
      · simp [c4, c3]
      · by_cases c5 : a.2 > b.2 <;> simp [c4, c5, c3]
theorem impl_sorted_p {l : List (Int × Int)} (h : l.length ≤ 9223372036854775807) : ∃ b, impl_Edge__compareEdges l = some b ∧ (b = true ↔ Srt l) := by
  rw [impl_Edge__compareEdges_eq]
  by_cases c : l.length = 0
  · rw [c, w64_id (by omega) (by omega), impl_Edge__compareEdges_l0_eq]
    refine ⟨true, by simp, ⟨fun _ j hj => (by omega), fun _ => rfl⟩⟩
  · rw [w64_id (by omega) (by omega), show ((l.length : Int) - 1) = ((l.length - 1 : Nat) : Int) by omega]
    obtain ⟨b, h1, h2⟩ := downAll (n := l.length - 1) (f := fun i => impl_Edge__compareEdges_l0 l i) (p := fun k => !decide (Lt (l.getD (k + 1) (0, 0)) (l.getD k (0, 0)))) (fun k hk => by
      rw [impl_Edge__compareEdges_l0_eq, show (((k + 1 : Nat) : Int) - 1) = (k : Int) by omega, w64_id (n := (k : Int)) (by omega) (by omega), inside_lt (show k + 1 < l.length by omega), inside_lt (show k < l.length by omega),
        decide_eq_true (show ((k + 1 : Nat) : Int) > 0 by omega)]
      simp only [cond_true, Int.toNat_natCast]
      obtain ⟨r, k1, k2⟩ := compareEdges_p (a := l.getD (k + 1) (0, 0)) (b := l.getD k (0, 0))
      rw [k1]
      simp only [Option.bind_some]
      by_cases d : r < 0
      · rw [decide_eq_true d, decide_eq_true (k2.1 d)]; rfl
      · rw [decide_eq_false d, decide_eq_false (fun q => d (k2.2 q))]; rfl) (by rw [impl_Edge__compareEdges_l0_eq]; rfl)
    refine ⟨b, h1, h2.trans ⟨fun k j hj => by simpa using k j (by omega), fun k j hj => by simpa using k j (by omega)⟩⟩
end Go.Proofs.YthhogfhffpfkdaaGreatDoor.D

/-
  The laws of rank.
-/
import Derived.Test.YtfpccehboifkbaaGreatDoorPureV
namespace Go.Proofs.YtfpccehboifkbaaGreatDoor.D
open Go Go.Den
set_option linter.unusedVariables false
set_option linter.unusedSimpArgs false
theorem lessAt {g : Gr} {d : List Int} (hD : DOk g d) {v : Nat} (hv : v < N g) : vec (N g) (d.set v (fn d v - 1)) (fun w => if w = v then fn d v - 1 else fn d w) ∧ Bd (N g) 61 (fun w => if w = v then fn d v - 1 else fn d w) := by
  obtain ⟨h1, h2⟩ := hD.vec
  refine ⟨h1.set hv _, fun w hw => ?_⟩
  have := h2 w hw
  have := h2 v hv
  show -61 ≤ (if w = v then fn d v - 1 else fn d w) ∧ (if w = v then fn d v - 1 else fn d w) ≤ 61
  split <;> omega
theorem lessAt_sum {g : Gr} {d : List Int} {v : Nat} (hv : v < N g) : sm (N g) (fun w => if w = v then fn d v - 1 else fn d w) = sm (N g) (fn d) - 1 := by
  have e : sm (N g) (fun w => if w = v then fn d v - 1 else fn d w) = sm (N g) (fun w => fn d w + if w = v then -1 else 0) := sm_congr fun w _ => by
    by_cases c : w = v
    · rw [if_pos c, if_pos c, c]; omega
    · rw [if_neg c, if_neg c]; omega
  rw [e, sm_add, sm_one, if_pos hv]; omega
theorem oneAt_k {g : Gr} (hg : GOk g) {v : Nat} (hv : v < N g) (k : Int) : impl_oneAt g (v : Int) k = some ((List.replicate (N g) (0 : Int)).set v k) := by
  have hn := gN hg
  rw [impl_oneAt_eq, decide_eq_true (by omega), decide_eq_true (show g.1 ≤ (room : Int) by rw [room]; omega)]
  simp only [Bool.and_self, cond_true, toNat_n]
  rw [show inside (v : Int) (List.replicate g.1.toNat (0 : Int)).length = true from inside_lt (by rw [List.length_replicate]; exact hv), cond_true]
  rfl
/-- chips at one vertex -/
def at1 (v : Nat) (k : Int) (w : Nat) : Int := if w = v then k else 0
theorem at1_vec {n v : Nat} (hv : v < n) (k : Int) : vec n ((List.replicate n (0 : Int)).set v k) (at1 v k) := (vec.zero _).set hv _
theorem at1_sum {n v : Nat} (hv : v < n) (k : Int) : sm n (at1 v k) = k := (sm_one n).trans (if_pos hv)
theorem at1_bd {n v : Nat} {k : Int} (h : -10 ≤ k ∧ k ≤ 10) : Bd n 10 (at1 v k) := fun w _ => by unfold at1; split <;> omega
theorem ranksAt_p {g : Gr} {a : Int} (hg : g.2.length ≤ 1048576) : ∃ x, spec_RanksAt g a = some x ∧ impl_RanksAt g a = some x ∧ x.1.length ≤ 8 ∧ (x.2 = true ↔ GOk g ∧ 0 ≤ a ∧ a < g.1) ∧ (x.2 = true → x.1.length = 8 ∧ ∀ k : Nat, k < 8 → ∃ (r : Nat) (w : List Int), x.1.getD k 0 = (r : Int) - 1 ∧ RK g (at1 a.toNat k) r w) := by
  obtain ⟨b, p1, p2, p3⟩ := graphOk_p (g := g) (by omega)
  rw [spec_RanksAt_eq, impl_RanksAt_eq, impl_isVertex_eq, p1, p2]
  cases b with
  | false => exact ⟨([], false), rfl, rfl, Nat.zero_le _, ⟨fun k => (by cases k), fun k => (by have := p3.2 k.1; cases this)⟩, fun k => (by cases k)⟩
  | true =>
    have hG := p3.1 rfl
    have hn := gN hG
    simp only [Option.bind_some, Bool.not_true, cond_false, cond_true]
    rw [in_p, within_p, w64_id (by omega) (by omega)]
    simp only [Option.bind_some]
    by_cases c : 0 ≤ a ∧ a ≤ g.1 - 1
    · rw [decide_eq_true c]
      simp only [Bool.not_true, cond_false]
      obtain ⟨v, rfl⟩ : ∃ v : Nat, a = (v : Int) := ⟨a.toNat, by omega⟩
      have hv : v < N g := by omega
      have key : ∀ (m k : Nat) (s : List Int), k + m = 8 → s.length = k → (∀ j, j < k → ∃ (r : Nat) (w : List Int), s.getD j 0 = (r : Int) - 1 ∧ RK g (at1 v j) r w) → ∃ x, spec_RanksAt_l0 (v : Int) g s (k : Int) = some (x, true) ∧ impl_RanksAt_l0 (v : Int) g s (k : Int) = some (x, true) ∧ x.length = 8 ∧ ∀ j, j < 8 → ∃ (r : Nat) (w : List Int), x.getD j 0 = (r : Int) - 1 ∧ RK g (at1 v j) r w := by
        intro m
        induction m with
        | zero =>
          intro k s hk hs hr
          rw [spec_RanksAt_l0_eq, impl_RanksAt_l0_eq, decide_eq_false (by omega)]
          exact ⟨s, rfl, rfl, by omega, fun j hj => hr j (by omega)⟩
        | succ m ih =>
          intro k s hk hs hr
          obtain ⟨q, w, q1, q2, q3, _⟩ := rank_p hG (at1_vec hv (k : Int)) ((at1_bd (by omega)).mono (by omega)) (by rw [at1_sum hv]; omega)
          have hr1 : (decide (0 ≤ g.1) && decide (g.1 ≤ (room : Int))) = true := by rw [room]; simp; omega
          rw [spec_RanksAt_l0_eq, impl_RanksAt_l0_eq, decide_eq_true (by omega), cond_true, cond_true, hr1, cond_true, show inside (v : Int) (List.replicate g.1.toNat (0 : Int)).length = true from inside_lt (by rw [List.length_replicate]; exact hv), cond_true, oneAt_k hG hv, show g.1.toNat = N g from rfl, toNat_n, q2]
          simp only [Option.bind_some, q1]
          rw [decide_eq_true (by rw [room]; simp only [List.length_singleton]; omega), cond_true, cond_true, w64_id (by omega) (by omega)]
          refine ih (k + 1) _ (by omega) (by rw [List.length_append, hs]; rfl) fun j hj => ?_
          rcases Nat.lt_or_ge j k with c | c
          · rw [getD_appL (by omega)]; exact hr j c
          · have : j = k := by omega
            subst this
            refine ⟨q, w, ?_, q3⟩
            rw [List.getD_eq_getElem?_getD, List.getElem?_append_right (by omega), hs, Nat.sub_self]; rfl
      obtain ⟨x, x1, x2, x3, x4⟩ := key 8 0 [] rfl rfl (fun j hj => by omega)
      exact ⟨(x, true), x1, x2, by show x.length ≤ 8; omega, ⟨fun _ => ⟨hG, by omega, by omega⟩, fun _ => rfl⟩, fun _ => ⟨x3, x4⟩⟩
    · rw [decide_eq_false c]
      exact ⟨([], false), rfl, rfl, Nat.zero_le _, ⟨fun k => (by cases k), fun k => (by omega)⟩, fun k => (by cases k)⟩
/-! ### the laws -/
theorem law_pre {g : Gr} {d : List Int} (hg : g.2.length ≤ 9223372036854775807) {r : Int} {k2 : 0 ≤ r → (g.2.length : Int) + r = 1048576} (c0 : ¬ (d.length : Int) > 1048576) (c : ¬ r < 0) : g.2.length ≤ 1048576 ∧ laws_toGraph g = some g ∧ laws_toIntS d = some d ∧ laws_eqGraph g g = some true ∧ laws_eqIntS d d = some true := by
  have := k2 (by omega)
  exact ⟨by omega, toGraph_p (by omega), toIntS_p (by omega), true_of (eqGraph_p hg) rfl, true_of (eqIntS_p (by omega)) rfl⟩
end Go.Proofs.YtfpccehboifkbaaGreatDoor.D

/-
  The laws of rank.
-/
import Derived.Test.YtafgbjhojkgbjaaGreatDoorPureV
namespace Go.Proofs.YtafgbjhojkgbjaaGreatDoor.D
open Go Go.Den
set_option linter.unusedVariables false
set_option linter.unusedSimpArgs false
theorem lessAt {g : Gr} {d : List Int} (hD : DOk g d) {v : Nat} (hv : v < N g) : vec (N g) (d.set v (fn d v - 1)) (fun w => if w = v then fn d v - 1 else fn d w) ∧ Bd (N g) 61 (fun w => if w = v then fn d v - 1 else fn d w) := by
  obtain ⟨h1, h2⟩ := hD.vec
  refine ⟨h1.set hv _, fun w hw => ?_⟩
  have := h2 w hw
  have := h2 v hv
  show -61 ≤ (if w = v then fn d v - 1 else fn d w) ∧ (if w = v then fn d v - 1 else fn d w) ≤ 61
  split <;> omega
theorem lessAt_sum {g : Gr} {d : List Int} {v : Nat} (hv : v < N g) : sm (N g) (fun w => if w = v then fn d v - 1 else fn d w) = sm (N g) (fn d) - 1 := by
  have e : sm (N g) (fun w => if w = v then fn d v - 1 else fn d w) = sm (N g) (fun w => fn d w + if w = v then -1 else 0) := sm_congr fun w _ => by
    by_cases c : w = v
    · rw [if_pos c, if_pos c, c]; omega
    · rw [if_neg c, if_neg c]; omega
  rw [e, sm_add, sm_one, if_pos hv]; omega
/-- chips at one vertex -/
def at1 (v : Nat) (k : Int) (w : Nat) : Int := if w = v then k else 0
theorem at1_vec {n v : Nat} (hv : v < n) (k : Int) : vec n ((List.replicate n (0 : Int)).set v k) (at1 v k) := (vec.zero _).set hv _
theorem at1_sum {n v : Nat} (hv : v < n) (k : Int) : sm n (at1 v k) = k := (sm_one n).trans (if_pos hv)
theorem at1_bd {n v : Nat} {k : Int} (h : -10 ≤ k ∧ k ≤ 10) : Bd n 10 (at1 v k) := fun w _ => by unfold at1; split <;> omega
end Go.Proofs.YtafgbjhojkgbjaaGreatDoor.D

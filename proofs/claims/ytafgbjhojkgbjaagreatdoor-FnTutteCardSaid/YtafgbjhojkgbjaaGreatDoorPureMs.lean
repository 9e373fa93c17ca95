/-
  Chips on a graph: burning from a vertex, by the other program.
-/
import Derived.Test.YtafgbjhojkgbjaaGreatDoorPureM
namespace Go.Proofs.YtafgbjhojkgbjaaGreatDoor.D
open Go Go.Den
set_option linter.unusedVariables false
set_option linter.unusedSimpArgs false
def bv (L : List Nat) (n : Nat) : List Bool := (List.range n).map fun w => decide (w ∈ L)
theorem bv_len (L : List Nat) (n : Nat) : (bv L n).length = n := by unfold bv; simp
theorem bv_getD {L : List Nat} {n w : Nat} (h : w < n) : (bv L n).getD w false = decide (w ∈ L) := getD_range_map _ h
theorem bv_set {L : List Nat} {n v : Nat} (h : v < n) : (bv L n).set v true = bv (L ++ [v]) n := by
  refine ext_getD (d := false) (by simp [bv_len]) fun j hj => ?_
  have hj' : j < n := by simpa [bv_len] using hj
  rw [bv_getD hj']
  by_cases c : j = v
  · subst c
    rw [List.getD_eq_getElem?_getD, List.getElem?_set_self (by rw [bv_len]; exact h)]
    simp
  · rw [List.getD_eq_getElem?_getD, List.getElem?_set_ne (fun k => c k.symm), ← List.getD_eq_getElem?_getD, bv_getD hj']
    exact decide_eq_decide.2 (by simp [c])
theorem sm_mulL {n v : Nat} {L : List Nat} (hv : v ∉ L) : ∀ {E : Es}, GE n E → sm n (fun w => if w ∈ L then mul E v w else 0) = outd E (cmp L) v
  | [], _ => by
    have : sm n (fun w => if w ∈ L then mul [] v w else 0) = sm n (fun _ => 0) := sm_congr fun w _ => by unfold mul; split <;> rfl
    rw [this, sm_zero]; rfl
  | e :: E, hE => by
    have he := hE e List.mem_cons_self
    have : sm n (fun w => if w ∈ L then mul (e :: E) v w else 0) = sm n (fun w => (if w ∈ L then hit e v w else 0) + (if w ∈ L then mul E v w else 0)) := sm_congr fun w _ => by
      rw [mul_cons]
      split <;> omega
    rw [this, sm_add, sm_mulL hv hE.tail, outd_cons]
    congr 1
    by_cases c1 : v = e.1
    · rw [if_pos c1]
      have : sm n (fun w => if w ∈ L then hit e v w else 0) = sm n (fun w => if w = e.2 then (if e.2 ∈ L then 1 else 0) else 0) := sm_congr fun w hw => by
        unfold hit
        by_cases c : w = e.2
        · have h1 : (v = e.1 ∧ w = e.2) ∨ (v = e.2 ∧ w = e.1) := .inl ⟨c1, c⟩
          rw [if_pos h1, if_pos c, c]
        · have : ¬ ((v = e.1 ∧ w = e.2) ∨ (v = e.2 ∧ w = e.1)) := by omega
          rw [if_neg this, if_neg c]; split <;> rfl
      rw [this, sm_one, if_pos he.2]
      unfold cmp
      by_cases c : e.2 ∈ L <;> simp [c]
    · rw [if_neg c1]
      by_cases c2 : v = e.2
      · rw [if_pos c2]
        have : sm n (fun w => if w ∈ L then hit e v w else 0) = sm n (fun w => if w = e.1 then (if e.1 ∈ L then 1 else 0) else 0) := sm_congr fun w hw => by
          unfold hit
          by_cases c : w = e.1
          · have h1 : (v = e.1 ∧ w = e.2) ∨ (v = e.2 ∧ w = e.1) := .inr ⟨c2, c⟩
            rw [if_pos h1, if_pos c, c]
          · have : ¬ ((v = e.1 ∧ w = e.2) ∨ (v = e.2 ∧ w = e.1)) := by omega
            rw [if_neg this, if_neg c]; split <;> rfl
        rw [this, sm_one, if_pos (by omega)]
        unfold cmp
        by_cases c : e.1 ∈ L <;> simp [c]
      · rw [if_neg c2]
        have : sm n (fun w => if w ∈ L then hit e v w else 0) = sm n (fun _ => 0) := sm_congr fun w hw => by
          unfold hit
          have : ¬ ((v = e.1 ∧ w = e.2) ∨ (v = e.2 ∧ w = e.1)) := by omega
          rw [if_neg this]; split <;> rfl
        rw [this, sm_zero]
theorem sm_bd {f : Nat → Int} {c : Int} (h : ∀ v, 0 ≤ f v ∧ f v ≤ c) : ∀ n, 0 ≤ sm n f ∧ sm n f ≤ (n : Int) * c
  | 0 => by simp [sm]
  | n + 1 => by
    have := sm_bd h n
    have := h n
    rw [sm, show ((n + 1 : Nat) : Int) = (n : Int) + 1 by omega, Int.add_mul]
    omega
end Go.Proofs.YtafgbjhojkgbjaaGreatDoor.D

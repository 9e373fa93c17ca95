/-
  The law file's own helpers, told plainly: sizes, copies, comparisons, marks.
-/
import Derived.Test.YthhogfhffpfkdaaGreatDoorPureA
import Derived.Test.YthhogfhffpfkdaaGreatDoorEqs
namespace Go.Proofs.YthhogfhffpfkdaaGreatDoor.D
open Go Go.Den
set_option linter.unusedVariables false
set_option linter.unusedSimpArgs false
theorem map_getD {α : Type} (d : α) (a : List α) : (List.range a.length).map (fun k => a.getD k d) = a := by
  refine ext_getD (d := d) (by simp) fun j hj => ?_
  rw [getD_range_map _ (by simpa using hj)]
theorem room_ok {n : Nat} (h : n ≤ 1048576) : (decide (0 ≤ (n : Int)) && decide ((n : Int) ≤ (room : Int))) = true := by
  have h1 : (0 : Int) ≤ (n : Int) := by omega
  have h2 : (n : Int) ≤ (room : Int) := by unfold room; omega
  rw [decide_eq_true h1, decide_eq_true h2]; rfl
theorem bne_int {a b : Int} : (a != b) = !(a == b) := rfl
theorem ne_t {a b : Int} (h : ¬ a = b) : (a != b) = true := bne_iff_ne.2 h
theorem eq_f {a b : Int} (h : a = b) : (a != b) = false := by rw [h]; simp
/-- marks: a row's places are numbered -/
def run (m : Int) (n : Nat) : List Int := (List.range n).map fun (k : Nat) => m + (k : Int)
end Go.Proofs.YthhogfhffpfkdaaGreatDoor.D

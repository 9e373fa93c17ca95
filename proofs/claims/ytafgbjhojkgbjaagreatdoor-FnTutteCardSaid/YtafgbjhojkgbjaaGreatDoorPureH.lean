/-
  Harmonic morphisms: both say alike whether a morphism is harmonic, how it multiplies, and its degree.
-/
import Derived.Test.YtafgbjhojkgbjaaGreatDoorPureG
namespace Go.Proofs.YtafgbjhojkgbjaaGreatDoor.D
open Go Go.Den
set_option linter.unusedVariables false
set_option linter.unusedSimpArgs false
def cAt (e : Int × Int) (v : Int) : Bool := e.1 == v || e.2 == v
def cEq (g : Gr) (m : Mo) (v k : Int) (i : Nat) : Bool := cAt (g.2.getD i (0, 0)) v && m.2.getD i 0 == k
def ovr (g : Gr) (m : Mo) (v k : Int) : Nat := itr (fun i n => if cEq g m v k i then n + 1 else n) g.2.length 0
theorem w64_nat {k : Nat} (h : k ≤ 9223372036854775806) : w64 ((k : Int) + 1) = ((k + 1 : Nat) : Int) := w64_succ (n := k + 1) (by omega) (by omega)
def mult (g h : Gr) (m : Mo) (v : Nat) (n : Nat) : List Int := itr (fun k (L : List Int) => if cAt (h.2.getD k (0, 0)) (m.1.getD v 0) then L ++ [((ovr g m (v : Int) (k : Int) : Nat) : Int)] else L) n []
theorem mult_len (g h : Gr) (m : Mo) (v : Nat) : ∀ n, (mult g h m v n).length ≤ n
  | 0 => by simp [mult, itr]
  | n + 1 => by
    have := mult_len g h m v n
    unfold mult at this ⊢
    rw [itr]
    split
    · rw [List.length_append]; simp only [List.length_cons, List.length_nil]; omega
    · omega
theorem mult_nn (g h : Gr) (m : Mo) (v : Nat) : ∀ n x, x ∈ mult g h m v n → 0 ≤ x
  | 0, x, hx => by simp [mult, itr] at hx
  | n + 1, x, hx => by
    have ih := mult_nn g h m v n
    unfold mult at ih hx
    rw [itr] at hx
    split at hx
    · rcases List.mem_append.1 hx with hx | hx
      · exact ih x hx
      · rw [List.mem_singleton.1 hx]; omega
    · exact ih x hx
def allE (l : List Int) : Bool := l.all fun x => l.all fun y => decide (x = y)
theorem allE_iff {l : List Int} : allE l = true ↔ ∀ x ∈ l, ∀ y ∈ l, x = y := by simp [allE, List.all_eq_true]
/-- the reference's own multiplicity: the one that all are, or -1 -/
def hor (l : List Int) : Int := if allE l = true then l.headD 0 else -1
theorem allE_pre {a b : List Int} (h : allE (a ++ b) = true) : allE a = true := by
  rw [allE_iff] at h ⊢
  exact fun x hx y hy => h x (List.mem_append_left _ hx) y (List.mem_append_left _ hy)
theorem mult_pre (g h : Gr) (m : Mo) (v : Nat) (k : Nat) : ∀ d, ∃ t, mult g h m v (k + d) = mult g h m v k ++ t
  | 0 => ⟨[], by simp⟩
  | d + 1 => by
    obtain ⟨t, ht⟩ := mult_pre g h m v k d
    unfold mult at ht ⊢
    rw [show k + (d + 1) = (k + d) + 1 from rfl, itr, ht]
    split
    · exact ⟨t ++ _, by rw [List.append_assoc]⟩
    · exact ⟨t, rfl⟩
theorem hor_neg {l : List Int} (h : ∀ x ∈ l, 0 ≤ x) : (hor l < 0) ↔ ¬ allE l = true := by
  unfold hor
  split
  · rename_i c
    refine ⟨fun k => ?_, fun k => absurd c k⟩
    cases l with
    | nil => simp at k
    | cons a l => have := h a List.mem_cons_self; simp only [List.headD_cons] at k; omega
  · rename_i c; exact ⟨fun _ => c, fun _ => by omega⟩
def HOk (g h : Gr) (m : Mo) : Prop := MOk g h m ∧ ∀ v, v < m.1.length → allE (mult g h m v h.2.length) = true
end Go.Proofs.YtafgbjhojkgbjaaGreatDoor.D

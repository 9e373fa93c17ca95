/-
  The law file's helpers, more; morphisms of graphs: both say alike whether it is one.
-/
import Derived.Test.YthhogfhffpfkdaaGreatDoorPureF
namespace Go.Proofs.YthhogfhffpfkdaaGreatDoor.D
open Go Go.Den
set_option linter.unusedVariables false
set_option linter.unusedSimpArgs false
abbrev Mo : Type := List Int × List Int
theorem allWithin_p {l : List Int} {lo hi : Int} (h : l.length ≤ 9223372036854775807) : ∃ b, impl_allWithin l lo hi = some b ∧ (b = true ↔ ∀ j, j < l.length → lo ≤ l.getD j 0 ∧ l.getD j 0 ≤ hi) := by
  rw [impl_allWithin_eq]
  obtain ⟨b, h1, h2⟩ := upAll (n := l.length) (f := fun i => impl_allWithin_l0 lo hi l (l.length : Int) i) (p := fun k => decide (lo ≤ l.getD k 0 ∧ l.getD k 0 ≤ hi)) (fun k hk => by
    rw [impl_allWithin_l0_eq, dec_lt_t hk, inside_lt hk, w64_succ hk h]
    simp only [cond_true, Int.toNat_natCast, within_p, Option.bind_some]
    cases decide (lo ≤ l.getD k 0 ∧ l.getD k 0 ≤ hi) <;> rfl) (by rw [impl_allWithin_l0_eq, dec_lt_f]; rfl)
  exact ⟨b, h1, h2.trans ⟨fun q j hj => of_decide_eq_true (q j hj), fun q j hj => decide_eq_true (q j hj)⟩⟩
/-- an edge goes where its ends go -/
def EC (h : Gr) (m : Mo) (e : Int × Int) (k : Int) : Prop :=
  (k = -1 ∧ m.1.getD e.1.toNat 0 = m.1.getD e.2.toNat 0) ∨ ((0 ≤ k ∧ k ≤ (h.2.length : Int) - 1) ∧ (h.2.getD k.toNat (0, 0)).1 = imin (m.1.getD e.1.toNat 0) (m.1.getD e.2.toNat 0) ∧ (h.2.getD k.toNat (0, 0)).2 = imax (m.1.getD e.1.toNat 0) (m.1.getD e.2.toNat 0))
instance (h : Gr) (m : Mo) (e : Int × Int) (k : Int) : Decidable (EC h m e k) := by unfold EC; infer_instance
def MOk (g h : Gr) (m : Mo) : Prop := GOk g ∧ GOk h ∧ (m.1.length : Int) = g.1 ∧ m.2.length = g.2.length ∧ (∀ j, j < m.1.length → 0 ≤ m.1.getD j 0 ∧ m.1.getD j 0 ≤ h.1 - 1) ∧ ∀ j, j < g.2.length → EC h m (g.2.getD j (0, 0)) (m.2.getD j 0)
theorem inside_int {n : Int} {l : Nat} (h0 : 0 ≤ n) (h1 : n < (l : Int)) : inside n l = true := by
  have : n = ((n.toNat : Nat) : Int) := by omega
  rw [this]; exact inside_lt (by omega)
end Go.Proofs.YthhogfhffpfkdaaGreatDoor.D

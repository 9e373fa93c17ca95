/-
  What is told through the rank: both programs alike.
-/
import Derived.Test.YtgncajnfphlgeaaGreatDoorPureU
namespace Go.Proofs.YtgncajnfphlgeaaGreatDoor.D
open Go Go.Den
set_option linter.unusedVariables false
set_option linter.unusedSimpArgs false
/-- a row as a divisor -/
def fn (d : List Int) (w : Nat) : Int := d.getD w 0
theorem DOk.vec {g : Gr} {d : List Int} (h : DOk g d) : vec (N g) d (fn d) ∧ Bd (N g) 60 (fn d) := by
  have hn := gN h.1
  have hl : d.length = N g := by have := h.2.1; omega
  exact ⟨⟨hl, fun _ _ => rfl⟩, fun w hw => h.2.2 w (by omega)⟩
theorem deg_p {g : Gr} {d : List Int} (h : DOk g d) : spec_DegreeOf d = some (sm (N g) (fn d)) ∧ impl_DegreeOf d = some (sm (N g) (fn d)) := by
  obtain ⟨h1, h2⟩ := h.vec
  have hn := gN h.1
  have hs := sumLoop (d := d) (by rw [h1.1]; omega) (fun k hk => by
    rw [h1.1] at hk
    have := h2 k hk
    unfold fn at this
    omega)
  rw [h1.1] at hs
  rw [impl_DegreeOf_eq, hs.1]
  exact ⟨hs.2, rfl⟩
theorem Bd.mono {n : Nat} {B C : Int} {f : Nat → Int} (h : Bd n B f) (hBC : B ≤ C) : Bd n C f := fun w hw => by have := h w hw; omega
theorem deg_bd {g : Gr} (hg : GOk g) {f : Nat → Int} {B : Int} (h0 : 0 ≤ B) (h : Bd (N g) B f) : -(6 * B) ≤ sm (N g) f ∧ sm (N g) f ≤ 6 * B := by
  have hn := gN hg
  have key : ∀ n, n ≤ N g → -((n : Int) * B) ≤ sm n f ∧ sm n f ≤ (n : Int) * B := fun n => by
    induction n with
    | zero => intro _; simp [sm]
    | succ n ih =>
      intro hk
      have := ih (by omega)
      have := h n (by omega)
      rw [sm, show (((n + 1 : Nat) : Int)) * B = (n : Int) * B + B by rw [Int.natCast_succ, Int.add_mul, Int.one_mul]]
      omega
  have := key (N g) (Nat.le_refl _)
  have : (N g : Int) * B ≤ 6 * B := Int.mul_le_mul_of_nonneg_right (by omega) h0
  omega
/-! ### all effective divisors -/
open Classical in
/-- the canonical divisor -/
def Kn (g : Gr) (v : Nat) : Int := val (Eg g) v - 2
/-- what is left of the canonical divisor -/
def Rs (g : Gr) (d : List Int) (v : Nat) : Int := Kn g v - fn d v
theorem DOk.nil {g : Gr} (h : DOk g []) : False := by
  have := gN h.1
  have := h.2.1
  simp only [List.length_nil] at this
  omega
end Go.Proofs.YtgncajnfphlgeaaGreatDoor.D

/-
  What is told through the rank: both programs alike.
-/
import Derived.Test.YtafgbjhojkgbjaaGreatDoorPureU
namespace Go.Proofs.YtafgbjhojkgbjaaGreatDoor.D
open Go Go.Den
set_option linter.unusedVariables false
set_option linter.unusedSimpArgs false
/-- a row as a divisor -/
def fn (d : List Int) (w : Nat) : Int := d.getD w 0
theorem DOk.vec {g : Gr} {d : List Int} (h : DOk g d) : vec (N g) d (fn d) ∧ Bd (N g) 60 (fn d) := by
  have hn := gN h.1
  have hl : d.length = N g := by have := h.2.1; omega
  exact ⟨⟨hl, fun _ _ => rfl⟩, fun w hw => h.2.2 w (by omega)⟩
theorem Bd.mono {n : Nat} {B C : Int} {f : Nat → Int} (h : Bd n B f) (hBC : B ≤ C) : Bd n C f := fun w hw => by have := h w hw; omega
theorem deg_bd {g : Gr} (hg : GOk g) {f : Nat → Int} {B : Int} (h0 : 0 ≤ B) (h : Bd (N g) B f) : -(6 * B) ≤ sm (N g) f ∧ sm (N g) f ≤ 6 * B := by
  have hn := gN hg
  have key : ∀ n, n ≤ N g → -((n : Int) * B) ≤ sm n f ∧ sm n f ≤ (n : Int) * B := fun n => by
    induction n with
    | zero => intro _; simp [sm]
    | succ n ih =>
      intro hk
      have := ih (by omega)
      have := h n (by omega)
      rw [sm, show (((n + 1 : Nat) : Int)) * B = (n : Int) * B + B by rw [Int.natCast_succ, Int.add_mul, Int.one_mul]]
      omega
  have := key (N g) (Nat.le_refl _)
  have : (N g : Int) * B ≤ 6 * B := Int.mul_le_mul_of_nonneg_right (by omega) h0
  omega
/-! ### all effective divisors -/
open Classical in
/-- the canonical divisor -/
def Kn (g : Gr) (v : Nat) : Int := val (Eg g) v - 2
theorem neg_p {n : Nat} (hn : n ≤ 6) {d : List Int} {D : Nat → Int} (hd : vec n d D) (hD : Bd n 100000 D) : ∃ r, impl_NegateDivisor d = some r ∧ vec n r (fun v => - D v) := by
  rw [impl_NegateDivisor_eq, impl_copyInts_eq, decide_eq_true (by rw [hd.1, room]; simp only [List.length_nil]; omega), cond_true, Option.bind_some, List.nil_append, hd.1]
  have := upFold (n := n) (f := fun s i => impl_NegateDivisor_l0 s (n : Int) i) (g := fun k s => s.set k (- D k)) (fun k s => vec n s (fun w => if w < k then - D w else D w)) (fun k s hk hs => ⟨by
    have i1 : inside (k : Int) s.length = true := inside_lt (by rw [hs.1]; exact hk)
    have e : s.getD k 0 = D k := (hs.2 k hk).trans (if_neg (Nat.lt_irrefl k))
    have b1 := hD k hk
    rw [impl_NegateDivisor_l0_eq, dec_lt_t hk, i1, toNat_n, e, w64_succ hk (by omega), w64_id (by omega) (by omega), Int.zero_sub]
    rfl, (hs.set hk _).congr fun w hw => by
      by_cases c : w = k
      · subst c; rw [if_pos rfl, if_pos (by omega)]
      · rw [if_neg c]
        by_cases c2 : w < k
        · rw [if_pos c2, if_pos (by omega)]
        · rw [if_neg c2, if_neg (by omega)]⟩) (s := d) (hd.congr fun w hw => by rw [if_neg (by omega)])
  refine ⟨_, this.1.trans ?_, this.2.congr fun w hw => by rw [if_pos hw]⟩
  rw [impl_NegateDivisor_l0_eq, dec_lt_f]; rfl
/-- what is left of the canonical divisor -/
def Rs (g : Gr) (d : List Int) (v : Nat) : Int := Kn g v - fn d v
theorem DOk.nil {g : Gr} (h : DOk g []) : False := by
  have := gN h.1
  have := h.2.1
  simp only [List.length_nil] at this
  omega
end Go.Proofs.YtafgbjhojkgbjaaGreatDoor.D

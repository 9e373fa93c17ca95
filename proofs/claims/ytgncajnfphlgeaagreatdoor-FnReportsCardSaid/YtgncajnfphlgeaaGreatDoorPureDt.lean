/-
  Determinants: both programs expand by the first row, over lists of columns or over bits; divisors in common.
-/
import Derived.Test.YtgncajnfphlgeaaGreatDoorPureLs
namespace Go.Proofs.YtgncajnfphlgeaaGreatDoor.D
open Go Go.Den
set_option linter.unusedVariables false
set_option linter.unusedSimpArgs false
/-- an expansion by a row: f tells the determinants of what is left -/
def exs (f : List Nat → Int) (e : Nat → Int) : List Nat → List Nat → Int → Int
  | _, [], _ => 0
  | pre, c :: suf, s => s * e c * f (pre ++ suf) + exs f e (pre ++ [c]) suf (-s)
def dts (E : Nat → Nat → Int) : List Nat → List Nat → Int
  | [], _ => 1
  | r :: rs, cols => exs (dts E rs) (E r) [] cols 1
def ent (M : List (List Int)) (r c : Nat) : Int := (M.getD r []).getD c 0
theorem exs_bd {f : List Nat → Int} {e : Nat → Int} {B : Int} (h0 : 0 ≤ B) (he : ∀ c, -12 ≤ e c ∧ e c ≤ 12) : ∀ (suf pre : List Nat) (s : Int), (s = 1 ∨ s = -1) → (∀ l : List Nat, l.length + 1 = pre.length + suf.length → -B ≤ f l ∧ f l ≤ B) →
    -((suf.length : Int) * (12 * B)) ≤ exs f e pre suf s ∧ exs f e pre suf s ≤ (suf.length : Int) * (12 * B)
  | [], _, _, _, _ => by simp [exs]
  | c :: suf, pre, s, hs, hf => by
    obtain ⟨i1, i2⟩ := exs_bd h0 he suf (pre ++ [c]) (-s) (by omega) (fun l hl => hf l (by simp at hl ⊢; omega))
    obtain ⟨f1, f2⟩ := hf (pre ++ suf) (by simp; omega)
    have ht := he c
    have hm : -(12 * B) ≤ e c * f (pre ++ suf) ∧ e c * f (pre ++ suf) ≤ 12 * B := by
      generalize f (pre ++ suf) = y at f1 f2
      generalize e c = x at ht
      have h1 : 0 ≤ (12 - x) * (B - y) := Int.mul_nonneg (by omega) (by omega)
      have h2 : 0 ≤ (12 - x) * (B + y) := Int.mul_nonneg (by omega) (by omega)
      have h3 : 0 ≤ (12 + x) * (B - y) := Int.mul_nonneg (by omega) (by omega)
      have h4 : 0 ≤ (12 + x) * (B + y) := Int.mul_nonneg (by omega) (by omega)
      rw [Int.sub_mul, Int.mul_sub, Int.mul_sub] at h1
      rw [Int.sub_mul, Int.mul_add, Int.mul_add] at h2
      rw [Int.add_mul, Int.mul_sub, Int.mul_sub] at h3
      rw [Int.add_mul, Int.mul_add, Int.mul_add] at h4
      generalize x * y = z at *
      generalize x * B = w at *
      generalize 12 * y = v at *
      omega
    rw [exs, List.length_cons, Int.natCast_add, Int.add_mul, Int.natCast_one, Int.one_mul]
    rcases hs with rfl | rfl
    · rw [Int.one_mul]; omega
    · rw [Int.neg_one_mul, Int.neg_mul]; omega
theorem dts_bd {E : Nat → Nat → Int} (hE : ∀ r c, -12 ≤ E r c ∧ E r c ≤ 12) : ∀ (rows cols : List Nat), cols.length ≤ 5 → -(60 ^ rows.length : Int) ≤ dts E rows cols ∧ dts E rows cols ≤ 60 ^ rows.length
  | [], _, _ => by simp [dts]
  | r :: rs, cols, hc => by
    have h0 : (0 : Int) ≤ 60 ^ rs.length := Int.pow_nonneg (by decide)
    have := exs_bd (f := dts E rs) (e := E r) (B := 60 ^ rs.length) h0 (hE r) cols [] 1 (.inl rfl) (fun l hl => dts_bd hE rs l (by simp at hl; omega))
    rw [dts, List.length_cons, Int.pow_succ]
    have h1 : (cols.length : Int) * (12 * 60 ^ rs.length) ≤ 5 * (12 * 60 ^ rs.length) := Int.mul_le_mul_of_nonneg_right (by omega) (by omega)
    omega
theorem pow60 {k : Nat} (h : k ≤ 5) : (0 : Int) ≤ 60 ^ k ∧ (60 ^ k : Int) ≤ 777600000 := by
  match k, h with
  | 0, _ => decide
  | 1, _ => decide
  | 2, _ => decide
  | 3, _ => decide
  | 4, _ => decide
  | 5, _ => decide
/-- one more term -/
theorem exs_step {f : List Nat → Int} {e : Nat → Int} {pre suf : List Nat} {c : Nat} {s : Int} : exs f e pre (c :: suf) s = s * e c * f (pre ++ suf) + exs f e (pre ++ [c]) suf (-s) := rfl
structure MxOk (M : List (List Int)) (n : Nat) : Prop where
  len : M.length = n
  row : ∀ r, r < n → (M.getD r []).length = n
  bd : ∀ r c, -12 ≤ ent M r c ∧ ent M r c ≤ 12
  n5 : n ≤ 5
theorem w_term {s x y : Int} (hs : s = 1 ∨ s = -1) (hx : -12 ≤ x ∧ x ≤ 12) (hy : -777600000 ≤ y ∧ y ≤ 777600000) : w64 ((w64 (s * x)) * y) = s * x * y ∧ -(12 * 777600000) ≤ s * x * y ∧ s * x * y ≤ 12 * 777600000 := by
  have hm : -(12 * 777600000) ≤ x * y ∧ x * y ≤ 12 * 777600000 := by
    have h1 : 0 ≤ (12 - x) * (777600000 - y) := Int.mul_nonneg (by omega) (by omega)
    have h2 : 0 ≤ (12 - x) * (777600000 + y) := Int.mul_nonneg (by omega) (by omega)
    have h3 : 0 ≤ (12 + x) * (777600000 - y) := Int.mul_nonneg (by omega) (by omega)
    have h4 : 0 ≤ (12 + x) * (777600000 + y) := Int.mul_nonneg (by omega) (by omega)
    rw [Int.sub_mul, Int.mul_sub, Int.mul_sub] at h1
    rw [Int.sub_mul, Int.mul_add, Int.mul_add] at h2
    rw [Int.add_mul, Int.mul_sub, Int.mul_sub] at h3
    rw [Int.add_mul, Int.mul_add, Int.mul_add] at h4
    generalize x * y = z at *
    omega
  rcases hs with rfl | rfl
  · rw [Int.one_mul, w64_id (n := x) (by omega) (by omega), w64_id (n := x * y) (by omega) (by omega)]
    exact ⟨rfl, hm⟩
  · rw [Int.neg_one_mul, w64_id (n := -x) (by omega) (by omega), Int.neg_mul, w64_id (n := -(x * y)) (by omega) (by omega)]
    exact ⟨rfl, by omega⟩
theorem ints_drop (l : List Nat) (k : Nat) : (ints l).drop k = ints (l.drop k) := by unfold ints; rw [List.map_drop]
theorem ints_take (l : List Nat) (k : Nat) : (ints l).take k = ints (l.take k) := by unfold ints; rw [List.map_take]
theorem ints_app (a b : List Nat) : ints a ++ ints b = ints (a ++ b) := by unfold ints; rw [List.map_append]
theorem drop_cons {l : List Nat} {i : Nat} (h : i < l.length) : l.drop i = l.getD i 0 :: l.drop (i + 1) := by
  rw [List.drop_eq_getElem_cons h, getD_lt h]
theorem take_snoc {l : List Nat} {i : Nat} (h : i < l.length) : l.take (i + 1) = l.take i ++ [l.getD i 0] := by
  rw [List.take_add_one, List.getElem?_eq_getElem h, getD_lt h]; rfl
end Go.Proofs.YtgncajnfphlgeaaGreatDoor.D

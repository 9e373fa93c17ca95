/-
  Determinants: both programs expand by the first row, over lists of columns or over bits; divisors in common.
-/
import Derived.Test.YtgncajnfphlgeaaDoorPureLs
namespace Go.Proofs.YtgncajnfphlgeaaDoor.D
open Go Go.Den
set_option linter.unusedVariables false
set_option linter.unusedSimpArgs false
/-- an expansion by a row: f tells the determinants of what is left -/
def exs (f : List Nat → Int) (e : Nat → Int) : List Nat → List Nat → Int → Int
  | _, [], _ => 0
  | pre, c :: suf, s => s * e c * f (pre ++ suf) + exs f e (pre ++ [c]) suf (-s)
def dts (E : Nat → Nat → Int) : List Nat → List Nat → Int
  | [], _ => 1
  | r :: rs, cols => exs (dts E rs) (E r) [] cols 1
def ent (M : List (List Int)) (r c : Nat) : Int := (M.getD r []).getD c 0
theorem exs_bd {f : List Nat → Int} {e : Nat → Int} {B : Int} (h0 : 0 ≤ B) (he : ∀ c, -12 ≤ e c ∧ e c ≤ 12) : ∀ (suf pre : List Nat) (s : Int), (s = 1 ∨ s = -1) → (∀ l : List Nat, l.length + 1 = pre.length + suf.length → -B ≤ f l ∧ f l ≤ B) →
    -((suf.length : Int) * (12 * B)) ≤ exs f e pre suf s ∧ exs f e pre suf s ≤ (suf.length : Int) * (12 * B)
  | [], _, _, _, _ => by simp [exs]
  | c :: suf, pre, s, hs, hf => by
    obtain ⟨i1, i2⟩ := exs_bd h0 he suf (pre ++ [c]) (-s) (by omega) (fun l hl => hf l (by simp at hl ⊢; omega))
    obtain ⟨f1, f2⟩ := hf (pre ++ suf) (by simp; omega)
    have ht := he c
    have hm : -(12 * B) ≤ e c * f (pre ++ suf) ∧ e c * f (pre ++ suf) ≤ 12 * B := by
      generalize f (pre ++ suf) = y at f1 f2
      generalize e c = x at ht
      have h1 : 0 ≤ (12 - x) * (B - y) := Int.mul_nonneg (by omega) (by omega)
      have h2 : 0 ≤ (12 - x) * (B + y) := Int.mul_nonneg (by omega) (by omega)
      have h3 : 0 ≤ (12 + x) * (B - y) := Int.mul_nonneg (by omega) (by omega)
      have h4 : 0 ≤ (12 + x) * (B + y) := Int.mul_nonneg (by omega) (by omega)
      rw [Int.sub_mul, Int.mul_sub, Int.mul_sub] at h1
      rw [Int.sub_mul, Int.mul_add, Int.mul_add] at h2
      rw [Int.add_mul, Int.mul_sub, Int.mul_sub] at h3
      rw [Int.add_mul, Int.mul_add, Int.mul_add] at h4
      generalize x * y = z at *
      generalize x * B = w at *
      generalize 12 * y = v at *
      omega
    rw [exs, List.length_cons, Int.natCast_add, Int.add_mul, Int.natCast_one, Int.one_mul]
    rcases hs with rfl | rfl
    · rw [Int.one_mul]; omega
    · rw [Int.neg_one_mul, Int.neg_mul]; omega
theorem dts_bd {E : Nat → Nat → Int} (hE : ∀ r c, -12 ≤ E r c ∧ E r c ≤ 12) : ∀ (rows cols : List Nat), cols.length ≤ 5 → -(60 ^ rows.length : Int) ≤ dts E rows cols ∧ dts E rows cols ≤ 60 ^ rows.length
  | [], _, _ => by simp [dts]
  | r :: rs, cols, hc => by
    have h0 : (0 : Int) ≤ 60 ^ rs.length := Int.pow_nonneg (by decide)
    have := exs_bd (f := dts E rs) (e := E r) (B := 60 ^ rs.length) h0 (hE r) cols [] 1 (.inl rfl) (fun l hl => dts_bd hE rs l (by simp at hl; omega))
    rw [dts, List.length_cons, Int.pow_succ]
    have h1 : (cols.length : Int) * (12 * 60 ^ rs.length) ≤ 5 * (12 * 60 ^ rs.length) := Int.mul_le_mul_of_nonneg_right (by omega) (by omega)
    omega
theorem pow60 {k : Nat} (h : k ≤ 5) : (0 : Int) ≤ 60 ^ k ∧ (60 ^ k : Int) ≤ 777600000 := by
  match k, h with
  | 0, _ => decide
  | 1, _ => decide
  | 2, _ => decide
  | 3, _ => decide
  | 4, _ => decide
  | 5, _ => decide
/-- one more term -/
theorem exs_step {f : List Nat → Int} {e : Nat → Int} {pre suf : List Nat} {c : Nat} {s : Int} : exs f e pre (c :: suf) s = s * e c * f (pre ++ suf) + exs f e (pre ++ [c]) suf (-s) := rfl
structure MxOk (M : List (List Int)) (n : Nat) : Prop where
  len : M.length = n
  row : ∀ r, r < n → (M.getD r []).length = n
  bd : ∀ r c, -12 ≤ ent M r c ∧ ent M r c ≤ 12
  n5 : n ≤ 5
theorem w_term {s x y : Int} (hs : s = 1 ∨ s = -1) (hx : -12 ≤ x ∧ x ≤ 12) (hy : -777600000 ≤ y ∧ y ≤ 777600000) : w64 ((w64 (s * x)) * y) = s * x * y ∧ -(12 * 777600000) ≤ s * x * y ∧ s * x * y ≤ 12 * 777600000 := by
  have hm : -(12 * 777600000) ≤ x * y ∧ x * y ≤ 12 * 777600000 := by
    have h1 : 0 ≤ (12 - x) * (777600000 - y) := Int.mul_nonneg (by omega) (by omega)
    have h2 : 0 ≤ (12 - x) * (777600000 + y) := Int.mul_nonneg (by omega) (by omega)
    have h3 : 0 ≤ (12 + x) * (777600000 - y) := Int.mul_nonneg (by omega) (by omega)
    have h4 : 0 ≤ (12 + x) * (777600000 + y) := Int.mul_nonneg (by omega) (by omega)
    rw [Int.sub_mul, Int.mul_sub, Int.mul_sub] at h1
    rw [Int.sub_mul, Int.mul_add, Int.mul_add] at h2
    rw [Int.add_mul, Int.mul_sub, Int.mul_sub] at h3
    rw [Int.add_mul, Int.mul_add, Int.mul_add] at h4
    generalize x * y = z at *
    omega
  rcases hs with rfl | rfl
  · rw [Int.one_mul, w64_id (n := x) (by omega) (by omega), w64_id (n := x * y) (by omega) (by omega)]
    exact ⟨rfl, hm⟩
  · rw [Int.neg_one_mul, w64_id (n := -x) (by omega) (by omega), Int.neg_mul, w64_id (n := -(x * y)) (by omega) (by omega)]
    exact ⟨rfl, by omega⟩
theorem ints_drop (l : List Nat) (k : Nat) : (ints l).drop k = ints (l.drop k) := by unfold ints; rw [List.map_drop]
theorem ints_take (l : List Nat) (k : Nat) : (ints l).take k = ints (l.take k) := by unfold ints; rw [List.map_take]
theorem ints_app (a b : List Nat) : ints a ++ ints b = ints (a ++ b) := by unfold ints; rw [List.map_append]
theorem drop_cons {l : List Nat} {i : Nat} (h : i < l.length) : l.drop i = l.getD i 0 :: l.drop (i + 1) := by
  rw [List.drop_eq_getElem_cons h, getD_lt h]
theorem take_snoc {l : List Nat} {i : Nat} (h : i < l.length) : l.take (i + 1) = l.take i ++ [l.getD i 0] := by
  rw [List.take_add_one, List.getElem?_eq_getElem h, getD_lt h]; rfl
/-- the reference's determinant -/
theorem det_p {M : List (List Int)} {n : Nat} (hM : MxOk M n) : ∀ (rows cols : List Nat), rows.length ≤ 5 → cols.length ≤ 5 → (∀ r ∈ rows, r < n) → (∀ c ∈ cols, c < n) → spec_l03Det M (ints rows) (ints cols) = some (dts (ent M) rows cols) := by
  intro rows
  induction rows with
  | nil => intro cols _ _ _ _; rw [spec_l03Det_eq]; rfl
  | cons r rs ih =>
    intro cols hr5 hc5 hr hc
    have hrl : rs.length ≤ 4 := by simp at hr5; omega
    have hrn : r < n := hr r List.mem_cons_self
    have hlen : (ints (r :: rs)).length = rs.length + 1 := by rw [ints_len]; rfl
    have hcl : (ints cols).length = cols.length := ints_len _
    have h0 : (((ints (r :: rs)).length : Int) == 0) = false := beq_f (by omega)
    rw [spec_l03Det_eq, h0, cond_false, hcl]
    have hB := pow60 (k := rs.length) (by omega)
    have key : ∀ (m i : Nat) (x s : Int), i + m = cols.length → (s = 1 ∨ s = -1) → -((i : Int) * 9331200000) ≤ x ∧ x ≤ (i : Int) * 9331200000 →
        spec_l03Det_l0 M (ints (r :: rs)) (ints cols) x s (ints cols) (cols.length : Int) (i : Int) = some (x + exs (dts (ent M) rs) (ent M r) (cols.take i) (cols.drop i) s) := by
      intro m
      induction m with
      | zero =>
        intro i x s hi hs hx
        have : i = cols.length := by omega
        subst this
        rw [spec_l03Det_l0_eq, dec_lt_f, List.drop_length]
        simp [exs]
      | succ m im =>
        intro i x s hi hs hx
        have hi' : i < cols.length := by omega
        have hcn : cols.getD i 0 < n := hc _ (getD_mem 0 hi')
        have hd := hM.bd r (cols.getD i 0)
        have hsub : ∀ c ∈ cols.take i ++ cols.drop (i + 1), c < n := fun c h => (List.mem_append.1 h).elim (fun h => hc c (List.mem_of_mem_take h)) fun h => hc c (List.mem_of_mem_drop h)
        have hsl : (cols.take i ++ cols.drop (i + 1)).length ≤ 5 := by rw [List.length_append, List.length_take, List.length_drop]; omega
        have hdet := ih (cols.take i ++ cols.drop (i + 1)) (by omega) hsl (fun r h => hr r (List.mem_cons_of_mem _ h)) hsub
        have hdb := dts_bd hM.bd rs (cols.take i ++ cols.drop (i + 1)) hsl
        obtain ⟨w1, w2, w3⟩ := w_term (s := s) (y := dts (ent M) rs (cols.take i ++ cols.drop (i + 1))) hs hd (by omega)
        have hns : w64 (0 - s) = -s := by rw [w64_id (by omega) (by omega)]; omega
        have hg : (ints cols).getD i 0 = ((cols.getD i 0 : Nat) : Int) := ints_getD hi'
        have hg0 : (ints (r :: rs)).getD 0 0 = (r : Int) := rfl
        have hdec1 : (decide (0 ≤ 0) && decide ((0 : Int) ≤ (i : Int)) && decide ((i : Int) ≤ (cols.length : Int))) = true := by
          rw [decide_eq_true (by omega), decide_eq_true (by omega), decide_eq_true (by omega)]; rfl
        have hdec2 : (decide ((0 : Int) ≤ ((i + 1 : Nat) : Int)) && decide (((i + 1 : Nat) : Int) ≤ (cols.length : Int)) && decide ((cols.length : Int) ≤ (cols.length : Int))) = true := by
          rw [decide_eq_true (by omega), decide_eq_true (by omega), decide_eq_true (by omega)]; rfl
        have hdec3 : (decide (0 ≤ 1) && decide ((1 : Int) ≤ ((rs.length + 1 : Nat) : Int)) && decide (((rs.length + 1 : Nat) : Int) ≤ ((rs.length + 1 : Nat) : Int))) = true := by
          rw [decide_eq_true (by omega), decide_eq_true (by omega), decide_eq_true (by omega)]; rfl
        have ha : ([] : List Int) ++ ((ints cols).take i).drop 0 ++ ((ints cols).take cols.length).drop (i + 1) = ints (cols.take i ++ cols.drop (i + 1)) := by
          rw [List.nil_append, List.drop_zero, ints_take, ints_take, List.take_length, ints_drop, ints_app]
        have hr1 : ((ints (r :: rs)).take (rs.length + 1)).drop 1 = ints rs := by
          have : (ints (r :: rs)).take (rs.length + 1) = ints (r :: rs) := by rw [← hlen, List.take_length]
          rw [this]; rfl
        have c12 : ∀ x, spec_l03Det_c12 M (ints (r :: rs)) (ints cols) x s (ints cols) (cols.length : Int) (i : Int) = spec_l03Det_l0 M (ints (r :: rs)) (ints cols) x (-s) (ints cols) (cols.length : Int) ((i + 1 : Nat) : Int) := fun x => by
          rw [spec_l03Det_c12_eq, hns, w64_succ hi' (by omega)]
        have hin0 : inside 0 (ints (r :: rs)).length = true := inside_lt (k := 0) (by omega)
        rw [spec_l03Det_l0_eq, dec_lt_t hi', inside_lt (k := i) (n := (ints cols).length) (by omega), hin0, hg0, inside_lt (k := r) (by rw [hM.len]; exact hrn)]
        simp only [cond_true, toNat_n, hg]
        rw [inside_lt (by rw [hM.row r hrn]; exact hcn), cond_true, drop_cons hi', exs_step, ← take_snoc hi']
        by_cases hz : ent M r (cols.getD i 0) = 0
        · have hz' : (((M.getD r []).getD (cols.getD i 0) 0) != 0) = false := by rw [bne_eq_false_iff_eq]; exact hz
          rw [hz', cond_false, c12, im (i + 1) x (-s) (by omega) (by omega) (by omega), hz]
          simp
        · have hz' : (((M.getD r []).getD (cols.getD i 0) 0) != 0) = true := by rw [bne_iff_ne]; exact hz
          have q1 : decide ((([] : List Int).length + (((ints cols).take i).drop 0).length) ≤ room) = true := decide_eq_true (by rw [List.drop_zero, List.length_take, room]; simp; omega)
          have q2 : decide ((([] : List Int) ++ (((ints cols).take i).drop 0)).length + (((ints cols).take cols.length).drop (i + 1)).length ≤ room) = true := decide_eq_true (by rw [List.nil_append, List.drop_zero, List.length_take, List.length_drop, List.length_take, room]; omega)
          simp only [hcl, hlen]
          rw [hz', cond_true, hdec1, cond_true, q1, cond_true, w64_succ hi' (by omega), hdec2, cond_true]
          simp only [toNat_n]
          rw [q2, cond_true, hdec3, cond_true, hr1, ha, hdet, Option.bind_some, c12]
          have hent : (M.getD r []).getD (cols.getD i 0) 0 = ent M r (cols.getD i 0) := rfl
          rw [hent, w1, w64_id (by omega) (by omega), im (i + 1) _ (-s) (by omega) (by omega) (by omega)]
          congr 1
          omega
    have := key cols.length 0 0 1 (by omega) (.inl rfl) (by omega)
    rw [show ((0 : Nat) : Int) = 0 from rfl] at this
    rw [this, List.take_zero, List.drop_zero, Int.zero_add]
    rfl
end Go.Proofs.YtgncajnfphlgeaaDoor.D

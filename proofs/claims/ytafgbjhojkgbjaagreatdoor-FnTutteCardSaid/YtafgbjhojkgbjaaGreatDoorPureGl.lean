/-
  Several texts of the plain law, one behind the other.
-/
import Derived.Test.YtafgbjhojkgbjaaGreatDoorPureR
import Derived.Test.YtafgbjhojkgbjaaGreatDoorPureS
namespace Go.Proofs.YtafgbjhojkgbjaaGreatDoor.D
open Go Go.Den
set_option linter.unusedVariables false
set_option linter.unusedSimpArgs false
/-! ### sets -/
def SetOk (n k : Nat) (s : List Int) : Prop := s.length = k ∧ s.Pairwise (· < ·) ∧ ∀ x ∈ s, 0 ≤ x ∧ x < (n : Int)
theorem set_last {n k : Nat} {s : List Int} (h : SetOk n (k + 1) s) : ∃ u x, s = u ++ [x] ∧ SetOk n k u ∧ (∀ y ∈ u, y < x) ∧ 0 ≤ x ∧ x < (n : Int) := by
  have hne : s ≠ [] := fun c => by rw [c] at h; exact absurd h.1 (by simp)
  refine ⟨s.dropLast, s.getLast hne, (List.dropLast_concat_getLast hne).symm, ?_, ?_, h.2.2 _ (List.getLast_mem hne)⟩
  · refine ⟨by rw [List.length_dropLast, h.1]; rfl, h.2.1.sublist (List.dropLast_sublist s), fun x hx => h.2.2 x ((List.dropLast_sublist s).subset hx)⟩
  · intro y hy
    have hp := h.2.1
    rw [← List.dropLast_concat_getLast hne, List.pairwise_append] at hp
    exact hp.2.2 y hy _ (by simp)
theorem incr_last {s : List Int} (h : s.Pairwise (· < ·)) (hn : 0 < s.length) {x : Int} : (∀ y ∈ s, y < x) ↔ s.getD (s.length - 1) 0 < x := by
  have hl : s.length - 1 < s.length := by omega
  rw [getD_lt hl]
  constructor
  · exact fun k => k _ (List.getElem_mem _)
  · intro k y hy
    obtain ⟨i, hi, rfl⟩ := List.getElem_of_mem hy
    by_cases c : i = s.length - 1
    · subst c; exact k
    · have := (List.pairwise_iff_getElem.1 h) i (s.length - 1) hi hl (by omega)
      omega
end Go.Proofs.YtafgbjhojkgbjaaGreatDoor.D
namespace Go.Proofs.YtafgbjhojkgbjaaGreatDoor.D
open Go Go.Den
set_option linter.unusedVariables false
set_option linter.unusedSimpArgs false
/-- an expansion by a row: f tells the determinants of what is left -/
def exs (f : List Nat → Int) (e : Nat → Int) : List Nat → List Nat → Int → Int
  | _, [], _ => 0
  | pre, c :: suf, s => s * e c * f (pre ++ suf) + exs f e (pre ++ [c]) suf (-s)
def dts (E : Nat → Nat → Int) : List Nat → List Nat → Int
  | [], _ => 1
  | r :: rs, cols => exs (dts E rs) (E r) [] cols 1
def ent (M : List (List Int)) (r c : Nat) : Int := (M.getD r []).getD c 0
theorem exs_bd {f : List Nat → Int} {e : Nat → Int} {B : Int} (h0 : 0 ≤ B) (he : ∀ c, -12 ≤ e c ∧ e c ≤ 12) : ∀ (suf pre : List Nat) (s : Int), (s = 1 ∨ s = -1) → (∀ l : List Nat, l.length + 1 = pre.length + suf.length → -B ≤ f l ∧ f l ≤ B) →
    -((suf.length : Int) * (12 * B)) ≤ exs f e pre suf s ∧ exs f e pre suf s ≤ (suf.length : Int) * (12 * B)
  | [], _, _, _, _ => by simp [exs]
  | c :: suf, pre, s, hs, hf => by
    obtain ⟨i1, i2⟩ := exs_bd h0 he suf (pre ++ [c]) (-s) (by omega) (fun l hl => hf l (by simp at hl ⊢; omega))
    obtain ⟨f1, f2⟩ := hf (pre ++ suf) (by simp; omega)
    have ht := he c
    have hm : -(12 * B) ≤ e c * f (pre ++ suf) ∧ e c * f (pre ++ suf) ≤ 12 * B := by
      generalize f (pre ++ suf) = y at f1 f2
      generalize e c = x at ht
      have h1 : 0 ≤ (12 - x) * (B - y) := Int.mul_nonneg (by omega) (by omega)
      have h2 : 0 ≤ (12 - x) * (B + y) := Int.mul_nonneg (by omega) (by omega)
      have h3 : 0 ≤ (12 + x) * (B - y) := Int.mul_nonneg (by omega) (by omega)
      have h4 : 0 ≤ (12 + x) * (B + y) := Int.mul_nonneg (by omega) (by omega)
      rw [Int.sub_mul, Int.mul_sub, Int.mul_sub] at h1
      rw [Int.sub_mul, Int.mul_add, Int.mul_add] at h2
      rw [Int.add_mul, Int.mul_sub, Int.mul_sub] at h3
      rw [Int.add_mul, Int.mul_add, Int.mul_add] at h4
      generalize x * y = z at *
      generalize x * B = w at *
      generalize 12 * y = v at *
      omega
    rw [exs, List.length_cons, Int.natCast_add, Int.add_mul, Int.natCast_one, Int.one_mul]
    rcases hs with rfl | rfl
    · rw [Int.one_mul]; omega
    · rw [Int.neg_one_mul, Int.neg_mul]; omega
theorem dts_bd {E : Nat → Nat → Int} (hE : ∀ r c, -12 ≤ E r c ∧ E r c ≤ 12) : ∀ (rows cols : List Nat), cols.length ≤ 5 → -(60 ^ rows.length : Int) ≤ dts E rows cols ∧ dts E rows cols ≤ 60 ^ rows.length
  | [], _, _ => by simp [dts]
  | r :: rs, cols, hc => by
    have h0 : (0 : Int) ≤ 60 ^ rs.length := Int.pow_nonneg (by decide)
    have := exs_bd (f := dts E rs) (e := E r) (B := 60 ^ rs.length) h0 (hE r) cols [] 1 (.inl rfl) (fun l hl => dts_bd hE rs l (by simp at hl; omega))
    rw [dts, List.length_cons, Int.pow_succ]
    have h1 : (cols.length : Int) * (12 * 60 ^ rs.length) ≤ 5 * (12 * 60 ^ rs.length) := Int.mul_le_mul_of_nonneg_right (by omega) (by omega)
    omega
theorem pow60 {k : Nat} (h : k ≤ 5) : (0 : Int) ≤ 60 ^ k ∧ (60 ^ k : Int) ≤ 777600000 := by
  match k, h with
  | 0, _ => decide
  | 1, _ => decide
  | 2, _ => decide
  | 3, _ => decide
  | 4, _ => decide
  | 5, _ => decide
/-- one more term -/
theorem exs_step {f : List Nat → Int} {e : Nat → Int} {pre suf : List Nat} {c : Nat} {s : Int} : exs f e pre (c :: suf) s = s * e c * f (pre ++ suf) + exs f e (pre ++ [c]) suf (-s) := rfl
structure MxOk (M : List (List Int)) (n : Nat) : Prop where
  len : M.length = n
  row : ∀ r, r < n → (M.getD r []).length = n
  bd : ∀ r c, -12 ≤ ent M r c ∧ ent M r c ≤ 12
  n5 : n ≤ 5
theorem w_term {s x y : Int} (hs : s = 1 ∨ s = -1) (hx : -12 ≤ x ∧ x ≤ 12) (hy : -777600000 ≤ y ∧ y ≤ 777600000) : w64 ((w64 (s * x)) * y) = s * x * y ∧ -(12 * 777600000) ≤ s * x * y ∧ s * x * y ≤ 12 * 777600000 := by
  have hm : -(12 * 777600000) ≤ x * y ∧ x * y ≤ 12 * 777600000 := by
    have h1 : 0 ≤ (12 - x) * (777600000 - y) := Int.mul_nonneg (by omega) (by omega)
    have h2 : 0 ≤ (12 - x) * (777600000 + y) := Int.mul_nonneg (by omega) (by omega)
    have h3 : 0 ≤ (12 + x) * (777600000 - y) := Int.mul_nonneg (by omega) (by omega)
    have h4 : 0 ≤ (12 + x) * (777600000 + y) := Int.mul_nonneg (by omega) (by omega)
    rw [Int.sub_mul, Int.mul_sub, Int.mul_sub] at h1
    rw [Int.sub_mul, Int.mul_add, Int.mul_add] at h2
    rw [Int.add_mul, Int.mul_sub, Int.mul_sub] at h3
    rw [Int.add_mul, Int.mul_add, Int.mul_add] at h4
    generalize x * y = z at *
    omega
  rcases hs with rfl | rfl
  · rw [Int.one_mul, w64_id (n := x) (by omega) (by omega), w64_id (n := x * y) (by omega) (by omega)]
    exact ⟨rfl, hm⟩
  · rw [Int.neg_one_mul, w64_id (n := -x) (by omega) (by omega), Int.neg_mul, w64_id (n := -(x * y)) (by omega) (by omega)]
    exact ⟨rfl, by omega⟩
theorem ints_drop (l : List Nat) (k : Nat) : (ints l).drop k = ints (l.drop k) := by unfold ints; rw [List.map_drop]
theorem ints_take (l : List Nat) (k : Nat) : (ints l).take k = ints (l.take k) := by unfold ints; rw [List.map_take]
theorem ints_app (a b : List Nat) : ints a ++ ints b = ints (a ++ b) := by unfold ints; rw [List.map_append]
theorem drop_cons {l : List Nat} {i : Nat} (h : i < l.length) : l.drop i = l.getD i 0 :: l.drop (i + 1) := by
  rw [List.drop_eq_getElem_cons h, getD_lt h]
theorem take_snoc {l : List Nat} {i : Nat} (h : i < l.length) : l.take (i + 1) = l.take i ++ [l.getD i 0] := by
  rw [List.take_add_one, List.getElem?_eq_getElem h, getD_lt h]; rfl
end Go.Proofs.YtafgbjhojkgbjaaGreatDoor.D
namespace Go.Proofs.YtafgbjhojkgbjaaGreatDoor.D
open Go Go.Den
set_option linter.unusedVariables false
set_option linter.unusedSimpArgs false
def lo (c x : Nat) : List Nat := (List.range x).filter fun i => c.testBit i
def hi (c x n : Nat) : List Nat := (List.range' x (n - x)).filter fun i => c.testBit i
theorem lo_succ (c x : Nat) : lo c (x + 1) = lo c x ++ if c.testBit x then [x] else [] := by
  unfold lo
  rw [List.range_succ, List.filter_append]
  congr 1
  simp only [List.filter_cons, List.filter_nil]
theorem hi_step {c x n : Nat} (h : x < n) : hi c x n = (if c.testBit x then [x] else []) ++ hi c (x + 1) n := by
  unfold hi
  rw [show n - x = (n - (x + 1)) + 1 by omega, List.range'_succ, List.filter_cons]
  split <;> rfl
theorem hi_end (c n : Nat) : hi c n n = [] := by unfold hi; rw [Nat.sub_self]; rfl
theorem lo_hi {c : Nat} : ∀ {n x : Nat}, x ≤ n → lo c n = lo c x ++ hi c x n := by
  intro n x h
  obtain ⟨d, rfl⟩ : ∃ d, n = x + d := ⟨n - x, by omega⟩
  clear h
  induction d generalizing x with
  | zero => rw [Nat.add_zero, hi_end, List.append_nil]
  | succ d ih =>
    have := ih (x := x + 1)
    rw [show x + (d + 1) = x + 1 + d by omega, this, lo_succ, hi_step (show x < x + 1 + d by omega), List.append_assoc]
theorem lo_len (c x : Nat) : (lo c x).length ≤ x := by
  have := List.length_filter_le (fun i => c.testBit i) (List.range x)
  rw [List.length_range] at this
  exact this
theorem lo_mem {c x i : Nat} : i ∈ lo c x ↔ i < x ∧ c.testBit i = true := by unfold lo; rw [List.mem_filter, List.mem_range]
theorem lo_inc (c x : Nat) : (lo c x).Pairwise (· < ·) := List.Pairwise.filter _ List.pairwise_lt_range
theorem bit0_p {m a : Nat} (hm : m < 2 ^ 62) (ha : a ≤ 64) : ((bits .and .i64 (Int.fdiv (m : Int) (2 ^ (min a 64))) 1) == 0) = !m.testBit a := by
  have h1 : Int.fdiv (m : Int) (2 ^ (min a 64)) = ((m / 2 ^ a : Nat) : Int) := by
    rw [Nat.min_eq_left ha]
    have : ((2 : Int) ^ a) = ((2 ^ a : Nat) : Int) := by simp
    rw [this]
    exact (Int.ofNat_fdiv m (2 ^ a)).symm
  rw [h1, bits_and1_p (Nat.lt_of_le_of_lt (Nat.div_le_self _ _) hm), Nat.testBit_eq_decide_div_mod_eq]
  rw [Bool.eq_iff_iff, beq_iff_eq, Bool.not_eq_true', decide_eq_false_iff_not]
  omega
/-- bits without one of them -/
def clr (c x : Nat) : Nat := (BitVec.ofNat 64 c &&& ~~~ BitVec.ofNat 64 (2 ^ x)).toNat
theorem clr_bit {c x : Nat} (hc : c < 2 ^ 62) (i : Nat) : (clr c x).testBit i = (c.testBit i && !decide (i = x)) := by
  unfold clr
  rw [BitVec.testBit_toNat, BitVec.getLsbD_and, BitVec.getLsbD_not, BitVec.getLsbD_ofNat, BitVec.getLsbD_ofNat, Nat.testBit_two_pow]
  by_cases h : i < 64
  · simp only [h, decide_true, Bool.true_and]
    congr 1
    by_cases e : x = i
    · subst e; simp
    · have e' : ¬ i = x := fun c => e c.symm
      simp [e, e']
  · have : c.testBit i = false := Nat.testBit_lt_two_pow (Nat.lt_of_lt_of_le hc (Nat.pow_le_pow_right (by decide) (by omega)))
    simp [h, this]
theorem clr_le {c x : Nat} (hc : c < 2 ^ 62) : clr c x ≤ c := by
  unfold clr
  rw [BitVec.toNat_and, BitVec.toNat_ofNat, Nat.mod_eq_of_lt (show c < 2 ^ 64 by omega)]
  exact Nat.and_le_left
theorem andNot_p {c x : Nat} (hc : c < 2 ^ 62) (hx : x < 60) : bits .andNot .i64 (c : Int) ((2 ^ x : Nat) : Int) = (clr c x : Int) := by
  have e1 : (BitVec.ofInt 64 (c : Int)) = BitVec.ofNat 64 c := by simp
  have e2 : (BitVec.ofInt 64 ((2 ^ x : Nat) : Int)) = BitVec.ofNat 64 (2 ^ x) := BitVec.ofInt_natCast _ _
  have hl := clr_le (x := x) hc
  show ((bitsD .andNot .i64 (c : Int) ((2 ^ x : Nat) : Int)).getD 0) = _
  simp only [bitsD, Option.getD_some]
  show IntKind.i64.wrap (((BitVec.ofInt 64 (c : Int)) &&& ~~~(BitVec.ofInt 64 ((2 ^ x : Nat) : Int))).toNat : Int) = _
  rw [e1, e2]
  exact w64_id (by omega) (by unfold clr at hl; omega)
theorem lo_clr {c x n : Nat} (hc : c < 2 ^ 62) (hx : x < n) : lo (clr c x) n = lo c x ++ hi c (x + 1) n := by
  rw [lo_hi (show x + 1 ≤ n by omega), lo_succ, clr_bit hc]
  have h1 : lo (clr c x) x = lo c x := by
    unfold lo
    refine List.filter_congr fun i hi => ?_
    rw [List.mem_range] at hi
    rw [clr_bit hc, decide_eq_false (by omega)]; simp
  have h2 : hi (clr c x) (x + 1) n = hi c (x + 1) n := by
    unfold hi
    refine List.filter_congr fun i hi => ?_
    rw [List.mem_range'_1] at hi
    rw [clr_bit hc, decide_eq_false (by omega)]; simp
  rw [h1, h2]
  simp
theorem p62 {n c : Nat} (hn : n ≤ 12) (hc : c < 2 ^ n) : c < 2 ^ 62 := Nat.lt_of_lt_of_le hc (Nat.pow_le_pow_right (by decide) (by omega))
/-- the program's determinant -/
theorem idet_p {M : List (List Int)} {n : Nat} (hM : MxOk M n) : ∀ (rows : List Nat) (c : Nat), rows.length ≤ 5 → (∀ r ∈ rows, r < n) → c < 2 ^ n → impl_determinant M (ints rows) (c : Int) = some (dts (ent M) rows (lo c n)) := by
  have hn5 := hM.n5
  intro rows
  induction rows with
  | nil => intro c _ _ _; rw [impl_determinant_eq]; rfl
  | cons r rs ih =>
    intro c hr5 hr hcn
    have hc62 := p62 (by omega) hcn
    have hrl : rs.length ≤ 4 := by simp at hr5; omega
    have hrn : r < n := hr r List.mem_cons_self
    have hlen : (ints (r :: rs)).length = rs.length + 1 := by rw [ints_len]; rfl
    have h0 : (((ints (r :: rs)).length : Int) == 0) = false := beq_f (by omega)
    have hg0 : (ints (r :: rs)).getD 0 0 = (r : Int) := rfl
    have hin0 : inside 0 (ints (r :: rs)).length = true := inside_lt (k := 0) (by omega)
    rw [impl_determinant_eq, h0, cond_false, hin0, cond_true, hg0, inside_lt (k := r) (by rw [hM.len]; exact hrn), cond_true, toNat_n, hM.row r hrn]
    have hB := pow60 (k := rs.length) (by omega)
    have key : ∀ (m x : Nat) (y s : Int), x + m = n → (s = 1 ∨ s = -1) → -((x : Int) * 9331200000) ≤ y ∧ y ≤ (x : Int) * 9331200000 →
        impl_determinant_l0 M (ints (r :: rs)) (c : Int) y s (M.getD r []) (n : Int) (x : Int) = some (y + exs (dts (ent M) rs) (ent M r) (lo c x) (hi c x n) s) := by
      intro m
      induction m with
      | zero =>
        intro x y s hx hs hy
        have : x = n := by omega
        subst this
        rw [impl_determinant_l0_eq, dec_lt_f, hi_end]
        simp [exs]
      | succ m im =>
        intro x y s hx hs hy
        have hx' : x < n := by omega
        have hd := hM.bd r x
        have hcl : clr c x < 2 ^ n := Nat.lt_of_le_of_lt (clr_le hc62) hcn
        have hdet := ih (clr c x) (by omega) (fun r h => hr r (List.mem_cons_of_mem _ h)) hcl
        have hdb := dts_bd hM.bd rs (lo (clr c x) n) (Nat.le_trans (lo_len _ _) hn5)
        rw [lo_clr hc62 hx'] at hdet hdb
        obtain ⟨w1, w2, w3⟩ := w_term (s := s) (y := dts (ent M) rs (lo c x ++ hi c (x + 1) n)) hs hd (by omega)
        have hns : w64 (0 - s) = -s := by rw [w64_id (by omega) (by omega)]; omega
        have hr1 : ((ints (r :: rs)).take (rs.length + 1)).drop 1 = ints rs := by
          have : (ints (r :: rs)).take (rs.length + 1) = ints (r :: rs) := by rw [← hlen, List.take_length]
          rw [this]; rfl
        have hdec3 : (decide (0 ≤ 1) && decide ((1 : Int) ≤ ((rs.length + 1 : Nat) : Int)) && decide (((rs.length + 1 : Nat) : Int) ≤ ((rs.length + 1 : Nat) : Int))) = true := by
          rw [decide_eq_true (by omega), decide_eq_true (by omega), decide_eq_true (by omega)]; rfl
        have hneg : decide ((x : Int) < 0) = false := decide_eq_false (by omega)
        rw [impl_determinant_l0_eq, dec_lt_t hx', inside_lt (by rw [hM.row r hrn]; exact hx'), hneg]
        simp only [cond_true, cond_false, toNat_n]
        rw [bit0_p hc62 (by omega), w64_succ hx' (by omega), hi_step hx']
        cases hb : c.testBit x with
        | false =>
          simp only [Bool.not_false, cond_true, Bool.false_eq_true, if_false, List.nil_append]
          rw [im (x + 1) y s (by omega) hs (by omega), lo_succ, hb]
          simp
        | true =>
          simp only [Bool.not_true, cond_false, if_true, List.singleton_append]
          rw [exs_step]
          have hl1 : lo c (x + 1) = lo c x ++ [x] := by rw [lo_succ, hb]; rfl
          by_cases hz : ent M r x = 0
          · have hz' : (((M.getD r []).getD x 0) != 0) = false := by rw [bne_eq_false_iff_eq]; exact hz
            rw [hz', cond_false, hns, im (x + 1) y (-s) (by omega) (by omega) (by omega), hz, hl1]
            simp
          · have hz' : (((M.getD r []).getD x 0) != 0) = true := by rw [bne_iff_ne]; exact hz
            have hent : (M.getD r []).getD x 0 = ent M r x := rfl
            rw [hz', cond_true, hlen, hdec3, cond_true, hr1, pow_p (by omega), andNot_p hc62 (by omega), hdet, Option.bind_some, hns, hent, w1, w64_id (by omega) (by omega), im (x + 1) _ (-s) (by omega) (by omega) (by omega), hl1]
            congr 1
            omega
    have := key n 0 0 1 (by omega) (.inl rfl) (by omega)
    rw [show ((0 : Nat) : Int) = 0 from rfl] at this
    rw [this, Int.zero_add, lo_hi (Nat.zero_le n)]
    rfl
/-- the bits of a number, listed -/
theorem bitsOf_p {n c : Nat} (hn : n ≤ 12) (hc : c < 2 ^ n) : impl_bitsOf (c : Int) = some (ints (lo c n)) := by
  have hc62 := p62 hn hc
  rw [impl_bitsOf_eq]
  have key : ∀ (m x : Nat), x + m = n → impl_bitsOf_l0 (c : Int) (ints (lo c x)) (x : Int) = some (ints (lo c n)) := by
    intro m
    induction m with
    | zero =>
      intro x hx
      have : x = n := by omega
      subst this
      have hf : Int.fdiv (c : Int) (2 ^ (min ((x : Int)).toNat 64)) = 0 := by
        rw [toNat_n, Nat.min_eq_left (by omega), show ((2 : Int) ^ x) = ((2 ^ x : Nat) : Int) by simp]
        rw [← Int.ofNat_fdiv, Nat.div_eq_of_lt hc]; rfl
      rw [impl_bitsOf_l0_eq, decide_eq_false (show ¬ (x : Int) < 0 by omega), cond_false, hf]
      rfl
    | succ m im =>
      intro x hx
      have hx' : x < n := by omega
      have hf : Int.fdiv (c : Int) (2 ^ (min ((x : Int)).toNat 64)) = ((c / 2 ^ x : Nat) : Int) := by
        rw [toNat_n, Nat.min_eq_left (by omega), show ((2 : Int) ^ x) = ((2 ^ x : Nat) : Int) by simp]
        exact (Int.ofNat_fdiv _ _).symm
      rw [impl_bitsOf_l0_eq, decide_eq_false (show ¬ (x : Int) < 0 by omega), cond_false, toNat_n, bit_p hc62 (by omega), w64_succ hx' (by omega)]
      rw [toNat_n] at hf
      rw [hf]
      by_cases hz : c / 2 ^ x = 0
      · rw [hz]
        have hlt : c < 2 ^ x := by
          rcases (Nat.div_eq_zero_iff).1 hz with h | h
          · have := Nat.two_pow_pos x; omega
          · exact h
        have : hi c x n = [] := by
          unfold hi
          rw [List.filter_eq_nil_iff]
          intro i hi hb
          rw [List.mem_range'_1] at hi
          rw [Nat.testBit_lt_two_pow (Nat.lt_of_lt_of_le hlt (Nat.pow_le_pow_right (by decide) hi.1))] at hb
          cases hb
        rw [lo_hi (show x ≤ n by omega), this, List.append_nil]
        rfl
      · have : decide (((c / 2 ^ x : Nat) : Int) > 0) = true := decide_eq_true (Int.natCast_pos.2 (Nat.pos_of_ne_zero hz))
        rw [this, cond_true]
        have hln := lo_len c x
        have hroom : decide ((ints (lo c x)).length + ([(x : Int)] : List Int).length ≤ room) = true := decide_eq_true (by rw [ints_len, room]; simp; omega)
        have hl1 := lo_succ c x
        cases hb : c.testBit x with
        | false =>
          rw [hb] at hl1
          simp only [Bool.false_eq_true, if_false, List.append_nil] at hl1
          rw [cond_false, ← hl1]
          exact im (x + 1) (by omega)
        | true =>
          rw [hb] at hl1
          simp only [if_true] at hl1
          rw [cond_true, hroom, cond_true, show ints (lo c x) ++ [(x : Int)] = ints (lo c (x + 1)) by rw [hl1, ← ints_app]; rfl]
          exact im (x + 1) (by omega)
  exact key n 0 (by omega)
/-! ### greatest common divisors -/
theorem imax_abs {x : Int} (hx : -4611686018427387904 ≤ x ∧ x ≤ 4611686018427387904) : imax x (w64 (0 - x)) = (x.natAbs : Int) := by
  rw [w64_id (by omega) (by omega)]
  unfold imax
  split <;> omega
theorem gcd_step (a b : Nat) : Nat.gcd b (a % b) = Nat.gcd a b := by rw [Nat.gcd_comm, ← Nat.gcd_rec, Nat.gcd_comm]
end Go.Proofs.YtafgbjhojkgbjaaGreatDoor.D
namespace Go.Proofs.YtafgbjhojkgbjaaGreatDoor.D
open Go Go.Den
set_option linter.unusedVariables false
set_option linter.unusedSimpArgs false
/-! ### sets as rising lists and as bits -/
def Inc (n k : Nat) (l : List Nat) : Prop := l.length = k ∧ l.Pairwise (· < ·) ∧ ∀ x ∈ l, x < n
theorem incr_ext : ∀ {a b : List Nat}, a.Pairwise (· < ·) → b.Pairwise (· < ·) → (∀ x, x ∈ a ↔ x ∈ b) → a = b
  | [], [], _, _, _ => rfl
  | [], y :: b, _, _, h => absurd ((h y).2 List.mem_cons_self) List.not_mem_nil
  | x :: a, [], _, _, h => absurd ((h x).1 List.mem_cons_self) List.not_mem_nil
  | x :: a, y :: b, ha, hb, h => by
    rw [List.pairwise_cons] at ha hb
    have e : x = y := by
      rcases List.mem_cons.1 ((h x).1 List.mem_cons_self) with h1 | h1
      · exact h1
      · rcases List.mem_cons.1 ((h y).2 List.mem_cons_self) with h2 | h2
        · exact h2.symm
        · have := hb.1 x h1; have := ha.1 y h2; omega
    subst e
    rw [incr_ext ha.2 hb.2 fun z => ⟨fun hz => ?_, fun hz => ?_⟩]
    · rcases List.mem_cons.1 ((h z).1 (List.mem_cons_of_mem _ hz)) with h1 | h1
      · have := ha.1 z hz; omega
      · exact h1
    · rcases List.mem_cons.1 ((h z).2 (List.mem_cons_of_mem _ hz)) with h1 | h1
      · have := hb.1 z hz; omega
      · exact h1
def enc : List Nat → Nat
  | [] => 0
  | x :: l => 2 ^ x ||| enc l
theorem enc_bit (i : Nat) : ∀ l : List Nat, (enc l).testBit i = decide (i ∈ l)
  | [] => by simp [enc]
  | x :: l => by
    rw [enc, Nat.testBit_or, Nat.testBit_two_pow, enc_bit i l, Bool.eq_iff_iff]
    simp only [Bool.or_eq_true, decide_eq_true_eq, List.mem_cons]
    exact ⟨fun h => h.imp (fun h => h.symm) id, fun h => h.imp (fun h => h.symm) id⟩
theorem enc_lt {n : Nat} : ∀ {l : List Nat}, (∀ x ∈ l, x < n) → enc l < 2 ^ n
  | [], _ => Nat.two_pow_pos n
  | x :: l, h => Nat.or_lt_two_pow (Nat.pow_lt_pow_right (by decide) (h x List.mem_cons_self)) (enc_lt fun y hy => h y (List.mem_cons_of_mem _ hy))
theorem inc_lo {n k : Nat} {l : List Nat} (h : Inc n k l) : ∃ a, a < 2 ^ n ∧ lo a n = l :=
  ⟨enc l, enc_lt h.2.2, incr_ext (lo_inc _ _) h.2.1 fun x => by
    rw [lo_mem, enc_bit, decide_eq_true_eq]
    exact ⟨fun k => k.2, fun k => ⟨h.2.2 x k, k⟩⟩⟩
theorem lo_Inc (c n : Nat) : Inc n (lo c n).length (lo c n) := ⟨rfl, lo_inc c n, fun x hx => (lo_mem.1 hx).1⟩
theorem ints_toNat {t : List Int} (h : ∀ x ∈ t, 0 ≤ x) : ints (t.map Int.toNat) = t := by
  unfold ints
  rw [List.map_map]
  conv => rhs; rw [← List.map_id t]
  refine List.map_congr_left fun x hx => ?_
  have := h x hx
  show ((x.toNat : Nat) : Int) = x
  omega
theorem setOk_inc {n k : Nat} {t : List Int} (h : SetOk n k t) : Inc n k (t.map Int.toNat) ∧ ints (t.map Int.toNat) = t := by
  refine ⟨⟨by rw [List.length_map]; exact h.1, ?_, fun x hx => ?_⟩, ints_toNat fun x hx => (h.2.2 x hx).1⟩
  · rw [List.pairwise_map]
    refine h.2.1.imp_of_mem fun {a b} ha hb hab => ?_
    have := (h.2.2 a ha).1
    have := (h.2.2 b hb).1
    omega
  · obtain ⟨y, hy, rfl⟩ := List.mem_map.1 hx
    have := h.2.2 y hy
    omega
theorem inc_setOk {n k : Nat} {l : List Nat} (h : Inc n k l) : SetOk n k (ints l) := by
  refine ⟨by rw [ints_len]; exact h.1, ?_, fun x hx => ?_⟩
  · unfold ints
    rw [List.pairwise_map]
    exact h.2.1.imp fun hab => by omega
  · obtain ⟨y, hy, rfl⟩ := List.mem_map.1 hx
    have := h.2.2 y hy
    omega
theorem toNat_ints (l : List Nat) : (ints l).map Int.toNat = l := by
  unfold ints
  rw [List.map_map]
  conv => rhs; rw [← List.map_id l]
  exact List.map_congr_left fun x _ => rfl
/-! ### what divides all determinants of a size -/
def IsG (E : Nat → Nat → Int) (n k G : Nat) : Prop := ∀ d : Nat, d ∣ G ↔ ∀ rows cols, Inc n k rows → Inc n k cols → (d : Int) ∣ dts E rows cols
theorem IsG.uniq {E : Nat → Nat → Int} {n k G G' : Nat} (h : IsG E n k G) (h' : IsG E n k G') : G = G' :=
  Nat.dvd_antisymm ((h' G).2 ((h G).1 (Nat.dvd_refl _))) ((h G').2 ((h' G').1 (Nat.dvd_refl _)))
theorem exs_zero {n k : Nat} {f : List Nat → Int} {e : Nat → Int} (hf : ∀ l, Inc n k l → f l = 0) : ∀ (suf pre : List Nat) (s : Int), Inc n (k + 1) (pre ++ suf) → exs f e pre suf s = 0
  | [], _, _, _ => rfl
  | c :: suf, pre, s, h => by
    have hsub : (pre ++ suf).Sublist (pre ++ c :: suf) := List.Sublist.append_left (List.sublist_cons_self c suf) pre
    have hi : Inc n k (pre ++ suf) := ⟨by have := h.1; simp at this ⊢; omega, h.2.1.sublist hsub, fun x hx => h.2.2 x (hsub.subset hx)⟩
    rw [exs, hf _ hi, exs_zero hf suf (pre ++ [c]) (-s) (by rw [List.append_assoc]; exact h)]
    simp
theorem IsG.zero {E : Nat → Nat → Int} {n k G' : Nat} (h : IsG E n k 0) (h' : IsG E n (k + 1) G') : G' = 0 := by
  have h0 := (h 0).1 (Nat.dvd_refl _)
  have z : ∀ rows cols, Inc n k rows → Inc n k cols → dts E rows cols = 0 := fun r c h1 h2 => Int.zero_dvd.1 (h0 r c h1 h2)
  refine Nat.zero_dvd.1 ((h' 0).2 fun rows cols h1 h2 => ?_)
  match rows, h1 with
  | [], h1 => cases h1.1
  | r :: rs, h1 =>
    have hrs : Inc n k rs := ⟨by have := h1.1; simp at this; exact this, (List.pairwise_cons.1 h1.2.1).2, fun x hx => h1.2.2 x (List.mem_cons_of_mem _ hx)⟩
    rw [dts, exs_zero (k := k) (n := n) (fun l hl => z rs l hrs hl) cols [] 1 h2]
    exact ⟨0, rfl⟩
theorem IsG.one {E : Nat → Nat → Int} {n : Nat} : IsG E n 0 1 := fun d => by
  constructor
  · intro h rows cols h1 h2
    rw [Nat.dvd_one] at h
    subst h
    exact Int.one_dvd _
  · intro h
    have := h [] [] ⟨rfl, List.Pairwise.nil, fun _ h => absurd h List.not_mem_nil⟩ ⟨rfl, List.Pairwise.nil, fun _ h => absurd h List.not_mem_nil⟩
    have h2 : (d : Int) ∣ ((1 : Nat) : Int) := this
    exact Int.natCast_dvd_natCast.1 h2
theorem gcd_dvd {d G : Nat} {x : Int} : d ∣ Nat.gcd G x.natAbs ↔ d ∣ G ∧ (d : Int) ∣ x := by
  rw [Nat.dvd_gcd_iff, ← Int.ofNat_dvd_left]
theorem gcd_bd {G : Nat} {x : Int} {B : Nat} (hG : G ≤ B) (hx : x.natAbs ≤ B) : Nat.gcd G x.natAbs ≤ B := by
  rcases Nat.eq_zero_or_pos G with h | h
  · subst h; rw [Nat.gcd_zero_left]; exact hx
  · exact Nat.le_trans (Nat.gcd_le_left _ h) hG
def GB : Nat := 777600000
theorem dts_gb {M : List (List Int)} {n : Nat} (hM : MxOk M n) {rows cols : List Nat} (hr : rows.length ≤ 5) (hc : cols.length ≤ 5) : (dts (ent M) rows cols).natAbs ≤ GB := by
  have h1 := dts_bd hM.bd rows cols hc
  have h2 := pow60 hr
  unfold GB
  omega
/-! ### the reference -/
section
variable {M : List (List Int)} {n : Nat} (hM : MxOk M n) {k : Nat} {S : List (List Int)} (hS : ∀ s, s ∈ S ↔ SetOk n k s) (hSl : S.length ≤ 1000000) (hk : k ≤ n)
def Rw (S : List (List Int)) (i : Nat) : List Nat := (S.getD i []).map Int.toNat
include hS in
theorem Rw_ok {i : Nat} (hi : i < S.length) : Inc n k (Rw S i) ∧ ints (Rw S i) = S.getD i [] := setOk_inc ((hS _).1 (getD_mem [] hi))
def D4 (M : List (List Int)) (S : List (List Int)) (i j G : Nat) : Prop := ∀ d : Nat, d ∣ G ↔ (∀ i', i' < i → ∀ j', j' < S.length → (d : Int) ∣ dts (ent M) (Rw S i') (Rw S j')) ∧ ∀ j', j' < j → (d : Int) ∣ dts (ent M) (Rw S i) (Rw S j')
include hM hS hSl hk in
end
def facs (Gs : Nat → Nat) (n : Nat) : List Int := (List.range n).map fun j => if Gs (j + 1) = 0 then 0 else ((Gs (j + 1) / Gs j : Nat) : Int)
theorem facs_succ (Gs : Nat → Nat) (n : Nat) : facs Gs (n + 1) = facs Gs n ++ [if Gs (n + 1) = 0 then 0 else ((Gs (n + 1) / Gs n : Nat) : Int)] := by
  unfold facs
  rw [List.range_succ, List.map_append]
  rfl
theorem facs_len (Gs : Nat → Nat) (n : Nat) : (facs Gs n).length = n := by unfold facs; rw [List.length_map, List.length_range]
theorem facs_bd {Gs : Nat → Nat} {n : Nat} (h : ∀ k, k ≤ n → Gs k ≤ GB) : ∀ x ∈ facs Gs n, 0 ≤ x ∧ x ≤ 777600000 := by
  intro x hx
  obtain ⟨j, hj, rfl⟩ := List.mem_map.1 hx
  rw [List.mem_range] at hj
  have := h (j + 1) (by omega)
  have hd := Nat.div_le_self (Gs (j + 1)) (Gs j)
  unfold GB at this
  split
  · omega
  · generalize Gs (j + 1) / Gs j = z at hd
    omega
section
variable {M : List (List Int)} {n : Nat} (hM : MxOk M n)
def CC (M : List (List Int)) (n a b : Nat) (C : List Int) : Prop := C.length = n + 1 ∧ ∀ k, k ≤ n → ∃ G : Nat, C.getD k 0 = (G : Int) ∧ G ≤ GB ∧
  ∀ d : Nat, d ∣ G ↔ ∀ a' b', a' < 2 ^ n → b' < 2 ^ n → (a' < a ∨ (a' = a ∧ b' < b)) → (lo a' n).length = k → (lo b' n).length = k → (d : Int) ∣ dts (ent M) (lo a' n) (lo b' n)
include hM in
end
end Go.Proofs.YtafgbjhojkgbjaaGreatDoor.D
namespace Go.Proofs.YtafgbjhojkgbjaaGreatDoor.D
open Go Go.Den
set_option linter.unusedVariables false
set_option linter.unusedSimpArgs false
/-- an entry of the Laplacian -/
def le (E : Es) (a b : Nat) : Int := if b = a then val E a else - mul E a b
def lrow (g : Gr) (a : Nat) : List Int := (List.range (N g)).map (le (Eg g) a)
def LAP (g : Gr) : List (List Int) := (List.range (N g)).map (lrow g)
def RLM (g : Gr) : List (List Int) := (List.range (N g - 1)).map fun a => (List.range (N g - 1)).map fun b => le (Eg g) (a + 1) (b + 1)
theorem le_bd {g : Gr} (hg : GOk g) (a b : Nat) : -12 ≤ le (Eg g) a b ∧ le (Eg g) a b ≤ 12 := by
  obtain ⟨gE1, gE2, gE3⟩ := gE hg
  have h1 := val_bd a (Eg g)
  have h2 := mul_bd a b (Eg g)
  unfold le
  split <;> omega
theorem lrow_len (g : Gr) (a : Nat) : (lrow g a).length = N g := by unfold lrow; rw [List.length_map, List.length_range]
theorem iLap_p {g : Gr} (hg : GOk g) : impl_LaplacianOf_l0 g [] 0 = some (LAP g) := by
  have hn := gN hg
  obtain ⟨gE1, gE2, gE3⟩ := gE hg
  have row : ∀ (out : List (List Int)) (a : Nat), a < N g → out.length ≤ 6 → impl_LaplacianOf_l2 g out (a : Int) (List.replicate (N g) 0) (N g : Int) 0 = impl_LaplacianOf_l0 g (out ++ [lrow g a]) ((a + 1 : Nat) : Int) := by
    intro out a ha ho
    have key : ∀ (m b : Nat) (r : List Int), b + m = N g → r.length = N g → (∀ w, w < b → r.getD w 0 = - mul (Eg g) a w) → impl_LaplacianOf_l2 g out (a : Int) r (N g : Int) (b : Int) = impl_LaplacianOf_l0 g (out ++ [lrow g a]) ((a + 1 : Nat) : Int) := by
      intro m
      induction m with
      | zero =>
        intro b r hb hr hw
        have : b = N g := by omega
        subst this
        have e : r.set a (val (Eg g) a) = lrow g a := by
          refine ext_getD (d := 0) (by rw [List.length_set, hr, lrow_len]) fun j hj => ?_
          rw [List.length_set, hr] at hj
          rw [getD_set (by omega)]
          unfold lrow
          rw [getD_range_map _ hj]
          unfold le
          split
          · rfl
          · exact hw j hj
        rw [impl_LaplacianOf_l2_eq, dec_lt_f, cond_false, impl_val_p hg ha, Option.bind_some, inside_lt (by rw [hr]; exact ha), cond_true, decide_eq_true (by rw [room]; simp only [List.length_singleton]; omega), cond_true, w64_succ ha (by omega), toNat_n, e]
      | succ m im =>
        intro b r hb hr hw
        have hb' : b < N g := by omega
        have hm := mul_bd a b (Eg g)
        rw [impl_LaplacianOf_l2_eq, dec_lt_t hb', cond_true, impl_mul_p hg ha hb', Option.bind_some, inside_lt (by rw [hr]; exact hb'), cond_true, w64_succ hb' (by omega), toNat_n, w64_id (n := 0 - mul (Eg g) a b) (by omega) (by omega)]
        refine im (b + 1) _ (by omega) (by rw [List.length_set]; exact hr) fun w hw' => ?_
        rw [getD_set (by omega)]
        split
        · rename_i e; rw [e]; omega
        · exact hw w (by omega)
    exact key (N g) 0 _ (by omega) List.length_replicate fun w hw => absurd hw (Nat.not_lt_zero _)
  have key : ∀ (m a : Nat), a + m = N g → impl_LaplacianOf_l0 g ((List.range a).map (lrow g)) (a : Int) = some (LAP g) := by
    intro m
    induction m with
    | zero =>
      intro a ha
      have : a = N g := by omega
      subst this
      rw [impl_LaplacianOf_l0_eq, ← hn.1, dec_lt_f]
      rfl
    | succ m im =>
      intro a ha
      have ha' : a < N g := by omega
      rw [impl_LaplacianOf_l0_eq, ← hn.1, dec_lt_t ha', cond_true, decide_eq_true (by omega), decide_eq_true (by rw [room]; omega), Bool.and_self, cond_true, toNat_n, List.length_replicate, row _ a ha' (by rw [List.length_map, List.length_range]; omega)]
      rw [show (List.range a).map (lrow g) ++ [lrow g a] = (List.range (a + 1)).map (lrow g) by rw [List.range_succ, List.map_append]; rfl]
      exact im (a + 1) (by omega)
  exact key (N g) 0 (by omega)
theorem LAP_len (g : Gr) : (LAP g).length = N g := by unfold LAP; rw [List.length_map, List.length_range]
theorem LAP_get {g : Gr} {a : Nat} (h : a < N g) : (LAP g).getD a [] = lrow g a := getD_range_map _ h
theorem drop_row {g : Gr} (hn : 1 ≤ N g) (a : Nat) : (lrow g a).drop 1 = (List.range (N g - 1)).map fun b => le (Eg g) a (b + 1) := by
  unfold lrow
  obtain ⟨m, hm⟩ : ∃ m, N g = m + 1 := ⟨N g - 1, by omega⟩
  rw [hm, List.range_succ_eq_map, List.map_cons, List.drop_succ_cons, List.drop_zero, List.map_map]
  rfl
theorem iRed_p {g : Gr} (hg : GOk g) : impl_ReducedLaplacian g 0 = some (RLM g) := by
  have hn := gN hg
  have hl : g.2.length ≤ 1048576 := by have := hg.1.2.1; omega
  obtain ⟨b, p1, p2, p3⟩ := graphOk_p (g := g) (by omega)
  have hb := p3.2 hg
  have hlap : impl_LaplacianOf g = some (LAP g) := by
    rw [impl_LaplacianOf_eq, p2, hb, Option.bind_some]
    exact iLap_p hg
  have hv : impl_isVertex g 0 = some true := by
    rw [impl_isVertex_eq, p2, hb, Option.bind_some, cond_true, within_p, w64_id (by omega) (by omega), Option.bind_some, decide_eq_true (show (0 : Int) ≤ 0 ∧ (0 : Int) ≤ g.1 - 1 by omega)]
  rw [impl_ReducedLaplacian_eq]
  unfold Lb.redLap
  rw [hv, Option.bind_some, cond_true, hlap, Option.bind_some]
  unfold Lb.redOf
  rw [if_pos ⟨by rw [LAP_len]; omega, by rw [LAP_len]; omega, by omega, by omega, fun r hr => by
    obtain ⟨a, ha, rfl⟩ := List.mem_map.1 hr
    rw [lrow_len]; omega⟩]
  congr 1
  unfold Lb.redUp RLM
  rw [LAP_len]
  obtain ⟨m, hm⟩ : ∃ m, N g = m + 1 := ⟨N g - 1, by omega⟩
  have h1 : (List.range (N g)).filter (fun j => j != (0 : Int).toNat) = (List.range (N g - 1)).map (· + 1) := by
    rw [hm, List.range_succ_eq_map, List.filter_cons]
    simp only [Int.toNat_zero, bne_self_eq_false, Bool.false_eq_true, if_false]
    rw [List.filter_eq_self.2]
    · rfl
    · intro a ha
      obtain ⟨x, _, rfl⟩ := List.mem_map.1 ha
      simp
  rw [h1, List.map_map]
  refine List.map_congr_left fun a ha => ?_
  rw [List.mem_range] at ha
  show Lb.delAt 0 ((LAP g).getD (a + 1) []) = _
  rw [LAP_get (by omega)]
  unfold Lb.delAt
  rw [List.take_zero, List.nil_append, Nat.zero_add, drop_row (by omega)]
theorem RLM_ok {g : Gr} (hg : GOk g) : MxOk (RLM g) (N g - 1) := by
  have hn := gN hg
  have hget : ∀ r, r < N g - 1 → (RLM g).getD r [] = (List.range (N g - 1)).map fun b => le (Eg g) (r + 1) (b + 1) := fun r hr => getD_range_map _ hr
  have hlen : (RLM g).length = N g - 1 := by unfold RLM; rw [List.length_map, List.length_range]
  refine ⟨hlen, fun r hr => by rw [hget r hr, List.length_map, List.length_range], fun r c => ?_, by omega⟩
  unfold ent
  by_cases hr : r < N g - 1
  · rw [hget r hr]
    by_cases hc : c < N g - 1
    · rw [getD_range_map _ hc]
      exact le_bd hg _ _
    · rw [List.getD_eq_getElem?_getD, List.getElem?_eq_none (by rw [List.length_map, List.length_range]; omega)]
      exact ⟨by decide, by decide⟩
  · rw [List.getD_eq_getElem?_getD (l := RLM g), List.getElem?_eq_none (by omega)]
    show -12 ≤ ([] : List Int).getD c 0 ∧ ([] : List Int).getD c 0 ≤ 12
    simp
theorem iMat_p {M : List (List Int)} {n : Nat} (hM : MxOk M n) : impl_MatrixOk M = some true := by
  have hn5 := hM.n5
  rw [impl_MatrixOk_eq, hM.len, decide_eq_false (by omega), cond_false]
  have key : ∀ (m r : Nat), r + m = n → impl_MatrixOk_l0 M M (n : Int) (r : Int) = some true := by
    intro m
    induction m with
    | zero =>
      intro r hr
      have : r = n := by omega
      subst this
      rw [impl_MatrixOk_l0_eq, dec_lt_f]
      rfl
    | succ m im =>
      intro r hr
      have hr' : r < n := by omega
      have hne : (((n : Nat) : Int) != (n : Int)) = false := by simp
      have k2 : ∀ (m c : Nat), c + m = n → impl_allWithin_l0 (-500) 500 (M.getD r []) (n : Int) (c : Int) = some true := by
        intro m
        induction m with
        | zero =>
          intro c hc
          have : c = n := by omega
          subst this
          rw [impl_allWithin_l0_eq, dec_lt_f]
          rfl
        | succ m im2 =>
          intro c hc
          have hc' : c < n := by omega
          have hb := hM.bd r c
          unfold ent at hb
          rw [impl_allWithin_l0_eq, dec_lt_t hc', inside_lt (by rw [hM.row r hr']; exact hc'), cond_true, cond_true, toNat_n, within_p, Option.bind_some, decide_eq_true (by omega), Bool.not_true, cond_false, w64_succ hc' (by omega)]
          exact im2 (c + 1) (by omega)
      have hw : impl_allWithin (M.getD r []) (-500) 500 = some true := by
        rw [impl_allWithin_eq, hM.row r hr']
        exact k2 n 0 (by omega)
      rw [impl_MatrixOk_l0_eq, dec_lt_t hr', inside_lt (by rw [hM.len]; exact hr'), cond_true, cond_true, toNat_n, hM.row r hr', hM.len, hne, cond_false, hw, Option.bind_some, Bool.not_true, cond_false, w64_succ hr' (by omega)]
      exact im (r + 1) (by omega)
  exact key n 0 (by omega)
/-- how many trees -/
def trs (g : Gr) : Int := dts (ent (RLM g)) (List.range (N g - 1)) (List.range (N g - 1))
theorem trs_bd {g : Gr} (hg : GOk g) : -777600000 ≤ trs g ∧ trs g ≤ 777600000 := by
  have hn := gN hg
  have := dts_gb (RLM_ok hg) (rows := List.range (N g - 1)) (cols := List.range (N g - 1)) (by rw [List.length_range]; omega) (by rw [List.length_range]; omega)
  unfold trs
  unfold GB at this
  omega
theorem upto_ints (n : Nat) : upto n = ints (List.range n) := rfl
theorem lo_full (n : Nat) : lo (2 ^ n - 1) n = List.range n := by
  unfold lo
  refine List.filter_eq_self.2 fun i hi => ?_
  rw [List.mem_range] at hi
  rw [Nat.testBit_two_pow_sub_one]
  exact decide_eq_true hi
theorem iTrees_p {g : Gr} (hg : GOk g) : impl_CountTrees g = some (trs g) := by
  have hn := gN hg
  have hl : g.2.length ≤ 1048576 := by have := hg.1.2.1; omega
  obtain ⟨b, p1, p2, p3⟩ := graphOk_p (g := g) (by omega)
  have hb := p3.2 hg
  have hM := RLM_ok hg
  have hp := Nat.two_pow_pos (N g - 1)
  have h5 : 2 ^ (N g - 1) ≤ 2 ^ 5 := Nat.pow_le_pow_right (by decide) (by omega)
  have h32 : (2 : Nat) ^ 5 = 32 := rfl
  have hc : 2 ^ (N g - 1) - 1 < 2 ^ (N g - 1) := by omega
  have hd := idet_p hM (List.range (N g - 1)) (2 ^ (N g - 1) - 1) (by rw [List.length_range]; omega) (fun r hr => List.mem_range.1 hr) hc
  have hw : w64 ((w64 (1 * 2 ^ (min (N g - 1) 64))) - 1) = ((2 ^ (N g - 1) - 1 : Nat) : Int) := by
    rw [pow_p (by omega)]
    generalize 2 ^ (N g - 1) = z at hp h5
    rw [w64_id (by omega) (by omega)]; omega
  rw [impl_CountTrees_eq, p2, hb, Option.bind_some, Bool.not_true, cond_false, iRed_p hg, Option.bind_some, impl_Determinant_eq, iMat_p hM, Option.bind_some, Bool.not_true, cond_false, hM.len, decide_eq_false (show ¬ ((N g - 1 : Nat) : Int) < 0 by omega), cond_false, toNat_n, hw, bitsOf_p (by omega) hc, Option.bind_some, cond_false, lo_full, hd]
  rw [lo_full]
  rfl
theorem ba_assoc (a b c : ByteArray) : a ++ b ++ c = a ++ (b ++ c) := ByteArray.append_assoc
end Go.Proofs.YtafgbjhojkgbjaaGreatDoor.D

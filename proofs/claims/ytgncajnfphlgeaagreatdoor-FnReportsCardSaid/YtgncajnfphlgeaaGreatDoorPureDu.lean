/-
  Sets as bits; the program's determinant; both programs' greatest common divisor.
-/
import Derived.Test.YtgncajnfphlgeaaGreatDoorPureDt
namespace Go.Proofs.YtgncajnfphlgeaaGreatDoor.D
open Go Go.Den
set_option linter.unusedVariables false
set_option linter.unusedSimpArgs false
def lo (c x : Nat) : List Nat := (List.range x).filter fun i => c.testBit i
def hi (c x n : Nat) : List Nat := (List.range' x (n - x)).filter fun i => c.testBit i
theorem lo_succ (c x : Nat) : lo c (x + 1) = lo c x ++ if c.testBit x then [x] else [] := by
  unfold lo
  rw [List.range_succ, List.filter_append]
  congr 1
  simp only [List.filter_cons, List.filter_nil]
theorem hi_step {c x n : Nat} (h : x < n) : hi c x n = (if c.testBit x then [x] else []) ++ hi c (x + 1) n := by
  unfold hi
  rw [show n - x = (n - (x + 1)) + 1 by omega, List.range'_succ, List.filter_cons]
  split <;> rfl
theorem hi_end (c n : Nat) : hi c n n = [] := by unfold hi; rw [Nat.sub_self]; rfl
theorem lo_hi {c : Nat} : ∀ {n x : Nat}, x ≤ n → lo c n = lo c x ++ hi c x n := by
  intro n x h
  obtain ⟨d, rfl⟩ : ∃ d, n = x + d := ⟨n - x, by omega⟩
  clear h
  induction d generalizing x with
  | zero => rw [Nat.add_zero, hi_end, List.append_nil]
  | succ d ih =>
    have := ih (x := x + 1)
    rw [show x + (d + 1) = x + 1 + d by omega, this, lo_succ, hi_step (show x < x + 1 + d by omega), List.append_assoc]
theorem lo_len (c x : Nat) : (lo c x).length ≤ x := by
  have := List.length_filter_le (fun i => c.testBit i) (List.range x)
  rw [List.length_range] at this
  exact this
theorem lo_mem {c x i : Nat} : i ∈ lo c x ↔ i < x ∧ c.testBit i = true := by unfold lo; rw [List.mem_filter, List.mem_range]
theorem lo_inc (c x : Nat) : (lo c x).Pairwise (· < ·) := List.Pairwise.filter _ List.pairwise_lt_range
theorem bit0_p {m a : Nat} (hm : m < 2 ^ 62) (ha : a ≤ 64) : ((bits .and .i64 (Int.fdiv (m : Int) (2 ^ (min a 64))) 1) == 0) = !m.testBit a := by
  have h1 : Int.fdiv (m : Int) (2 ^ (min a 64)) = ((m / 2 ^ a : Nat) : Int) := by
    rw [Nat.min_eq_left ha]
    have : ((2 : Int) ^ a) = ((2 ^ a : Nat) : Int) := by simp
    rw [this]
    exact (Int.ofNat_fdiv m (2 ^ a)).symm
  rw [h1, bits_and1_p (Nat.lt_of_le_of_lt (Nat.div_le_self _ _) hm), Nat.testBit_eq_decide_div_mod_eq]
  rw [Bool.eq_iff_iff, beq_iff_eq, Bool.not_eq_true', decide_eq_false_iff_not]
  omega
/-- bits without one of them -/
def clr (c x : Nat) : Nat := (BitVec.ofNat 64 c &&& ~~~ BitVec.ofNat 64 (2 ^ x)).toNat
theorem clr_bit {c x : Nat} (hc : c < 2 ^ 62) (i : Nat) : (clr c x).testBit i = (c.testBit i && !decide (i = x)) := by
  unfold clr
  rw [BitVec.testBit_toNat, BitVec.getLsbD_and, BitVec.getLsbD_not, BitVec.getLsbD_ofNat, BitVec.getLsbD_ofNat, Nat.testBit_two_pow]
  by_cases h : i < 64
  · simp only [h, decide_true, Bool.true_and]
    congr 1
    by_cases e : x = i
    · subst e; simp
    · have e' : ¬ i = x := fun c => e c.symm
      simp [e, e']
  · have : c.testBit i = false := Nat.testBit_lt_two_pow (Nat.lt_of_lt_of_le hc (Nat.pow_le_pow_right (by decide) (by omega)))
    simp [h, this]
theorem clr_le {c x : Nat} (hc : c < 2 ^ 62) : clr c x ≤ c := by
  unfold clr
  rw [BitVec.toNat_and, BitVec.toNat_ofNat, Nat.mod_eq_of_lt (show c < 2 ^ 64 by omega)]
  exact Nat.and_le_left
theorem andNot_p {c x : Nat} (hc : c < 2 ^ 62) (hx : x < 60) : bits .andNot .i64 (c : Int) ((2 ^ x : Nat) : Int) = (clr c x : Int) := by
  have e1 : (BitVec.ofInt 64 (c : Int)) = BitVec.ofNat 64 c := by simp
  have e2 : (BitVec.ofInt 64 ((2 ^ x : Nat) : Int)) = BitVec.ofNat 64 (2 ^ x) := BitVec.ofInt_natCast _ _
  have hl := clr_le (x := x) hc
  show ((bitsD .andNot .i64 (c : Int) ((2 ^ x : Nat) : Int)).getD 0) = _
  simp only [bitsD, Option.getD_some]
  show IntKind.i64.wrap (((BitVec.ofInt 64 (c : Int)) &&& ~~~(BitVec.ofInt 64 ((2 ^ x : Nat) : Int))).toNat : Int) = _
  rw [e1, e2]
  exact w64_id (by omega) (by unfold clr at hl; omega)
theorem lo_clr {c x n : Nat} (hc : c < 2 ^ 62) (hx : x < n) : lo (clr c x) n = lo c x ++ hi c (x + 1) n := by
  rw [lo_hi (show x + 1 ≤ n by omega), lo_succ, clr_bit hc]
  have h1 : lo (clr c x) x = lo c x := by
    unfold lo
    refine List.filter_congr fun i hi => ?_
    rw [List.mem_range] at hi
    rw [clr_bit hc, decide_eq_false (by omega)]; simp
  have h2 : hi (clr c x) (x + 1) n = hi c (x + 1) n := by
    unfold hi
    refine List.filter_congr fun i hi => ?_
    rw [List.mem_range'_1] at hi
    rw [clr_bit hc, decide_eq_false (by omega)]; simp
  rw [h1, h2]
  simp
theorem p62 {n c : Nat} (hn : n ≤ 12) (hc : c < 2 ^ n) : c < 2 ^ 62 := Nat.lt_of_lt_of_le hc (Nat.pow_le_pow_right (by decide) (by omega))
/-- the program's determinant -/
theorem idet_p {M : List (List Int)} {n : Nat} (hM : MxOk M n) : ∀ (rows : List Nat) (c : Nat), rows.length ≤ 5 → (∀ r ∈ rows, r < n) → c < 2 ^ n → impl_determinant M (ints rows) (c : Int) = some (dts (ent M) rows (lo c n)) := by
  have hn5 := hM.n5
  intro rows
  induction rows with
  | nil => intro c _ _ _; rw [impl_determinant_eq]; rfl
  | cons r rs ih =>
    intro c hr5 hr hcn
    have hc62 := p62 (by omega) hcn
    have hrl : rs.length ≤ 4 := by simp at hr5; omega
    have hrn : r < n := hr r List.mem_cons_self
    have hlen : (ints (r :: rs)).length = rs.length + 1 := by rw [ints_len]; rfl
    have h0 : (((ints (r :: rs)).length : Int) == 0) = false := beq_f (by omega)
    have hg0 : (ints (r :: rs)).getD 0 0 = (r : Int) := rfl
    have hin0 : inside 0 (ints (r :: rs)).length = true := inside_lt (k := 0) (by omega)
    rw [impl_determinant_eq, h0, cond_false, hin0, cond_true, hg0, inside_lt (k := r) (by rw [hM.len]; exact hrn), cond_true, toNat_n, hM.row r hrn]
    have hB := pow60 (k := rs.length) (by omega)
    have key : ∀ (m x : Nat) (y s : Int), x + m = n → (s = 1 ∨ s = -1) → -((x : Int) * 9331200000) ≤ y ∧ y ≤ (x : Int) * 9331200000 →
        impl_determinant_l0 M (ints (r :: rs)) (c : Int) y s (M.getD r []) (n : Int) (x : Int) = some (y + exs (dts (ent M) rs) (ent M r) (lo c x) (hi c x n) s) := by
      intro m
      induction m with
      | zero =>
        intro x y s hx hs hy
        have : x = n := by omega
        subst this
        rw [impl_determinant_l0_eq, dec_lt_f, hi_end]
        simp [exs]
      | succ m im =>
        intro x y s hx hs hy
        have hx' : x < n := by omega
        have hd := hM.bd r x
        have hcl : clr c x < 2 ^ n := Nat.lt_of_le_of_lt (clr_le hc62) hcn
        have hdet := ih (clr c x) (by omega) (fun r h => hr r (List.mem_cons_of_mem _ h)) hcl
        have hdb := dts_bd hM.bd rs (lo (clr c x) n) (Nat.le_trans (lo_len _ _) hn5)
        rw [lo_clr hc62 hx'] at hdet hdb
        obtain ⟨w1, w2, w3⟩ := w_term (s := s) (y := dts (ent M) rs (lo c x ++ hi c (x + 1) n)) hs hd (by omega)
        have hns : w64 (0 - s) = -s := by rw [w64_id (by omega) (by omega)]; omega
        have hr1 : ((ints (r :: rs)).take (rs.length + 1)).drop 1 = ints rs := by
          have : (ints (r :: rs)).take (rs.length + 1) = ints (r :: rs) := by rw [← hlen, List.take_length]
          rw [this]; rfl
        have hdec3 : (decide (0 ≤ 1) && decide ((1 : Int) ≤ ((rs.length + 1 : Nat) : Int)) && decide (((rs.length + 1 : Nat) : Int) ≤ ((rs.length + 1 : Nat) : Int))) = true := by
          rw [decide_eq_true (by omega), decide_eq_true (by omega), decide_eq_true (by omega)]; rfl
        have hneg : decide ((x : Int) < 0) = false := decide_eq_false (by omega)
        rw [impl_determinant_l0_eq, dec_lt_t hx', inside_lt (by rw [hM.row r hrn]; exact hx'), hneg]
        simp only [cond_true, cond_false, toNat_n]
        rw [bit0_p hc62 (by omega), w64_succ hx' (by omega), hi_step hx']
        cases hb : c.testBit x with
        | false =>
          simp only [Bool.not_false, cond_true, Bool.false_eq_true, if_false, List.nil_append]
          rw [im (x + 1) y s (by omega) hs (by omega), lo_succ, hb]
          simp
        | true =>
          simp only [Bool.not_true, cond_false, if_true, List.singleton_append]
          rw [exs_step]
          have hl1 : lo c (x + 1) = lo c x ++ [x] := by rw [lo_succ, hb]; rfl
          by_cases hz : ent M r x = 0
          · have hz' : (((M.getD r []).getD x 0) != 0) = false := by rw [bne_eq_false_iff_eq]; exact hz
            rw [hz', cond_false, hns, im (x + 1) y (-s) (by omega) (by omega) (by omega), hz, hl1]
            simp
          · have hz' : (((M.getD r []).getD x 0) != 0) = true := by rw [bne_iff_ne]; exact hz
            have hent : (M.getD r []).getD x 0 = ent M r x := rfl
            rw [hz', cond_true, hlen, hdec3, cond_true, hr1, pow_p (by omega), andNot_p hc62 (by omega), hdet, Option.bind_some, hns, hent, w1, w64_id (by omega) (by omega), im (x + 1) _ (-s) (by omega) (by omega) (by omega), hl1]
            congr 1
            omega
    have := key n 0 0 1 (by omega) (.inl rfl) (by omega)
    rw [show ((0 : Nat) : Int) = 0 from rfl] at this
    rw [this, Int.zero_add, lo_hi (Nat.zero_le n)]
    rfl
/-- the bits of a number, listed -/
theorem bitsOf_p {n c : Nat} (hn : n ≤ 12) (hc : c < 2 ^ n) : impl_bitsOf (c : Int) = some (ints (lo c n)) := by
  have hc62 := p62 hn hc
  rw [impl_bitsOf_eq]
  have key : ∀ (m x : Nat), x + m = n → impl_bitsOf_l0 (c : Int) (ints (lo c x)) (x : Int) = some (ints (lo c n)) := by
    intro m
    induction m with
    | zero =>
      intro x hx
      have : x = n := by omega
      subst this
      have hf : Int.fdiv (c : Int) (2 ^ (min ((x : Int)).toNat 64)) = 0 := by
        rw [toNat_n, Nat.min_eq_left (by omega), show ((2 : Int) ^ x) = ((2 ^ x : Nat) : Int) by simp]
        rw [← Int.ofNat_fdiv, Nat.div_eq_of_lt hc]; rfl
      rw [impl_bitsOf_l0_eq, decide_eq_false (show ¬ (x : Int) < 0 by omega), cond_false, hf]
      rfl
    | succ m im =>
      intro x hx
      have hx' : x < n := by omega
      have hf : Int.fdiv (c : Int) (2 ^ (min ((x : Int)).toNat 64)) = ((c / 2 ^ x : Nat) : Int) := by
        rw [toNat_n, Nat.min_eq_left (by omega), show ((2 : Int) ^ x) = ((2 ^ x : Nat) : Int) by simp]
        exact (Int.ofNat_fdiv _ _).symm
      rw [impl_bitsOf_l0_eq, decide_eq_false (show ¬ (x : Int) < 0 by omega), cond_false, toNat_n, bit_p hc62 (by omega), w64_succ hx' (by omega)]
      rw [toNat_n] at hf
      rw [hf]
      by_cases hz : c / 2 ^ x = 0
      · rw [hz]
        have hlt : c < 2 ^ x := by
          rcases (Nat.div_eq_zero_iff).1 hz with h | h
          · have := Nat.two_pow_pos x; omega
          · exact h
        have : hi c x n = [] := by
          unfold hi
          rw [List.filter_eq_nil_iff]
          intro i hi hb
          rw [List.mem_range'_1] at hi
          rw [Nat.testBit_lt_two_pow (Nat.lt_of_lt_of_le hlt (Nat.pow_le_pow_right (by decide) hi.1))] at hb
          cases hb
        rw [lo_hi (show x ≤ n by omega), this, List.append_nil]
        rfl
      · have : decide (((c / 2 ^ x : Nat) : Int) > 0) = true := decide_eq_true (Int.natCast_pos.2 (Nat.pos_of_ne_zero hz))
        rw [this, cond_true]
        have hln := lo_len c x
        have hroom : decide ((ints (lo c x)).length + ([(x : Int)] : List Int).length ≤ room) = true := decide_eq_true (by rw [ints_len, room]; simp; omega)
        have hl1 := lo_succ c x
        cases hb : c.testBit x with
        | false =>
          rw [hb] at hl1
          simp only [Bool.false_eq_true, if_false, List.append_nil] at hl1
          rw [cond_false, ← hl1]
          exact im (x + 1) (by omega)
        | true =>
          rw [hb] at hl1
          simp only [if_true] at hl1
          rw [cond_true, hroom, cond_true, show ints (lo c x) ++ [(x : Int)] = ints (lo c (x + 1)) by rw [hl1, ← ints_app]; rfl]
          exact im (x + 1) (by omega)
  exact key n 0 (by omega)
/-! ### greatest common divisors -/
theorem imax_abs {x : Int} (hx : -4611686018427387904 ≤ x ∧ x ≤ 4611686018427387904) : imax x (w64 (0 - x)) = (x.natAbs : Int) := by
  rw [w64_id (by omega) (by omega)]
  unfold imax
  split <;> omega
theorem gcd_step (a b : Nat) : Nat.gcd b (a % b) = Nat.gcd a b := by rw [Nat.gcd_comm, ← Nat.gcd_rec, Nat.gcd_comm]
theorem igcd_p : ∀ (k : Nat) (x y : Int), y.natAbs ≤ k → (-4611686018427387904 ≤ x ∧ x ≤ 4611686018427387904) → (-4611686018427387904 ≤ y ∧ y ≤ 4611686018427387904) → impl_divisor_l0 x y = some (Nat.gcd x.natAbs y.natAbs : Int) := by
  intro k
  induction k with
  | zero =>
    intro x y hk hx hy
    have : y = 0 := by omega
    subst this
    rw [impl_divisor_l0_eq, impl_magnitude_eq, imax_abs hx]
    simp
  | succ k ih =>
    intro x y hk hx hy
    by_cases h0 : y = 0
    · subst h0
      rw [impl_divisor_l0_eq, impl_magnitude_eq, imax_abs hx]
      simp
    · have hne : (y != 0) = true := by rw [bne_iff_ne]; exact h0
      have hm : (Int.tmod x y).natAbs = x.natAbs % y.natAbs := Int.natAbs_tmod x y
      have hlt := Nat.mod_lt x.natAbs (show 0 < y.natAbs by omega)
      rw [impl_divisor_l0_eq, hne, cond_true, decide_eq_false h0, cond_false, ih y (Int.tmod x y) (by omega) hy (by omega), hm, gcd_step]
theorem idiv_p {x y : Int} (hx : -4611686018427387904 ≤ x ∧ x ≤ 4611686018427387904) (hy : -4611686018427387904 ≤ y ∧ y ≤ 4611686018427387904) : impl_divisor x y = some (Nat.gcd x.natAbs y.natAbs : Int) := by
  rw [impl_divisor_eq]; exact igcd_p _ x y (Nat.le_refl _) hx hy
end Go.Proofs.YtgncajnfphlgeaaGreatDoor.D

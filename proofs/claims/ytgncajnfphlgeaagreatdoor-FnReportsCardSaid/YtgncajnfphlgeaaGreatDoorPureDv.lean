/-
  The invariant factors: both programs find the divisors in common of all determinants of a size.
-/
import Derived.Test.YtgncajnfphlgeaaGreatDoorPureDu
namespace Go.Proofs.YtgncajnfphlgeaaGreatDoor.D
open Go Go.Den
set_option linter.unusedVariables false
set_option linter.unusedSimpArgs false
/-! ### sets as rising lists and as bits -/
def Inc (n k : Nat) (l : List Nat) : Prop := l.length = k ∧ l.Pairwise (· < ·) ∧ ∀ x ∈ l, x < n
theorem incr_ext : ∀ {a b : List Nat}, a.Pairwise (· < ·) → b.Pairwise (· < ·) → (∀ x, x ∈ a ↔ x ∈ b) → a = b
  | [], [], _, _, _ => rfl
  | [], y :: b, _, _, h => absurd ((h y).2 List.mem_cons_self) List.not_mem_nil
  | x :: a, [], _, _, h => absurd ((h x).1 List.mem_cons_self) List.not_mem_nil
  | x :: a, y :: b, ha, hb, h => by
    rw [List.pairwise_cons] at ha hb
    have e : x = y := by
      rcases List.mem_cons.1 ((h x).1 List.mem_cons_self) with h1 | h1
      · exact h1
      · rcases List.mem_cons.1 ((h y).2 List.mem_cons_self) with h2 | h2
        · exact h2.symm
        · have := hb.1 x h1; have := ha.1 y h2; omega
    subst e
    rw [incr_ext ha.2 hb.2 fun z => ⟨fun hz => ?_, fun hz => ?_⟩]
    · rcases List.mem_cons.1 ((h z).1 (List.mem_cons_of_mem _ hz)) with h1 | h1
      · have := ha.1 z hz; omega
      · exact h1
    · rcases List.mem_cons.1 ((h z).2 (List.mem_cons_of_mem _ hz)) with h1 | h1
      · have := hb.1 z hz; omega
      · exact h1
def enc : List Nat → Nat
  | [] => 0
  | x :: l => 2 ^ x ||| enc l
theorem enc_bit (i : Nat) : ∀ l : List Nat, (enc l).testBit i = decide (i ∈ l)
  | [] => by simp [enc]
  | x :: l => by
    rw [enc, Nat.testBit_or, Nat.testBit_two_pow, enc_bit i l, Bool.eq_iff_iff]
    simp only [Bool.or_eq_true, decide_eq_true_eq, List.mem_cons]
    exact ⟨fun h => h.imp (fun h => h.symm) id, fun h => h.imp (fun h => h.symm) id⟩
theorem enc_lt {n : Nat} : ∀ {l : List Nat}, (∀ x ∈ l, x < n) → enc l < 2 ^ n
  | [], _ => Nat.two_pow_pos n
  | x :: l, h => Nat.or_lt_two_pow (Nat.pow_lt_pow_right (by decide) (h x List.mem_cons_self)) (enc_lt fun y hy => h y (List.mem_cons_of_mem _ hy))
theorem inc_lo {n k : Nat} {l : List Nat} (h : Inc n k l) : ∃ a, a < 2 ^ n ∧ lo a n = l :=
  ⟨enc l, enc_lt h.2.2, incr_ext (lo_inc _ _) h.2.1 fun x => by
    rw [lo_mem, enc_bit, decide_eq_true_eq]
    exact ⟨fun k => k.2, fun k => ⟨h.2.2 x k, k⟩⟩⟩
theorem lo_Inc (c n : Nat) : Inc n (lo c n).length (lo c n) := ⟨rfl, lo_inc c n, fun x hx => (lo_mem.1 hx).1⟩
theorem ints_toNat {t : List Int} (h : ∀ x ∈ t, 0 ≤ x) : ints (t.map Int.toNat) = t := by
  unfold ints
  rw [List.map_map]
  conv => rhs; rw [← List.map_id t]
  refine List.map_congr_left fun x hx => ?_
  have := h x hx
  show ((x.toNat : Nat) : Int) = x
  omega
theorem setOk_inc {n k : Nat} {t : List Int} (h : SetOk n k t) : Inc n k (t.map Int.toNat) ∧ ints (t.map Int.toNat) = t := by
  refine ⟨⟨by rw [List.length_map]; exact h.1, ?_, fun x hx => ?_⟩, ints_toNat fun x hx => (h.2.2 x hx).1⟩
  · rw [List.pairwise_map]
    refine h.2.1.imp_of_mem fun {a b} ha hb hab => ?_
    have := (h.2.2 a ha).1
    have := (h.2.2 b hb).1
    omega
  · obtain ⟨y, hy, rfl⟩ := List.mem_map.1 hx
    have := h.2.2 y hy
    omega
theorem inc_setOk {n k : Nat} {l : List Nat} (h : Inc n k l) : SetOk n k (ints l) := by
  refine ⟨by rw [ints_len]; exact h.1, ?_, fun x hx => ?_⟩
  · unfold ints
    rw [List.pairwise_map]
    exact h.2.1.imp fun hab => by omega
  · obtain ⟨y, hy, rfl⟩ := List.mem_map.1 hx
    have := h.2.2 y hy
    omega
theorem toNat_ints (l : List Nat) : (ints l).map Int.toNat = l := by
  unfold ints
  rw [List.map_map]
  conv => rhs; rw [← List.map_id l]
  exact List.map_congr_left fun x _ => rfl
/-! ### what divides all determinants of a size -/
def IsG (E : Nat → Nat → Int) (n k G : Nat) : Prop := ∀ d : Nat, d ∣ G ↔ ∀ rows cols, Inc n k rows → Inc n k cols → (d : Int) ∣ dts E rows cols
theorem IsG.uniq {E : Nat → Nat → Int} {n k G G' : Nat} (h : IsG E n k G) (h' : IsG E n k G') : G = G' :=
  Nat.dvd_antisymm ((h' G).2 ((h G).1 (Nat.dvd_refl _))) ((h G').2 ((h' G').1 (Nat.dvd_refl _)))
theorem exs_zero {n k : Nat} {f : List Nat → Int} {e : Nat → Int} (hf : ∀ l, Inc n k l → f l = 0) : ∀ (suf pre : List Nat) (s : Int), Inc n (k + 1) (pre ++ suf) → exs f e pre suf s = 0
  | [], _, _, _ => rfl
  | c :: suf, pre, s, h => by
    have hsub : (pre ++ suf).Sublist (pre ++ c :: suf) := List.Sublist.append_left (List.sublist_cons_self c suf) pre
    have hi : Inc n k (pre ++ suf) := ⟨by have := h.1; simp at this ⊢; omega, h.2.1.sublist hsub, fun x hx => h.2.2 x (hsub.subset hx)⟩
    rw [exs, hf _ hi, exs_zero hf suf (pre ++ [c]) (-s) (by rw [List.append_assoc]; exact h)]
    simp
theorem IsG.zero {E : Nat → Nat → Int} {n k G' : Nat} (h : IsG E n k 0) (h' : IsG E n (k + 1) G') : G' = 0 := by
  have h0 := (h 0).1 (Nat.dvd_refl _)
  have z : ∀ rows cols, Inc n k rows → Inc n k cols → dts E rows cols = 0 := fun r c h1 h2 => Int.zero_dvd.1 (h0 r c h1 h2)
  refine Nat.zero_dvd.1 ((h' 0).2 fun rows cols h1 h2 => ?_)
  match rows, h1 with
  | [], h1 => cases h1.1
  | r :: rs, h1 =>
    have hrs : Inc n k rs := ⟨by have := h1.1; simp at this; exact this, (List.pairwise_cons.1 h1.2.1).2, fun x hx => h1.2.2 x (List.mem_cons_of_mem _ hx)⟩
    rw [dts, exs_zero (k := k) (n := n) (fun l hl => z rs l hrs hl) cols [] 1 h2]
    exact ⟨0, rfl⟩
theorem IsG.one {E : Nat → Nat → Int} {n : Nat} : IsG E n 0 1 := fun d => by
  constructor
  · intro h rows cols h1 h2
    rw [Nat.dvd_one] at h
    subst h
    exact Int.one_dvd _
  · intro h
    have := h [] [] ⟨rfl, List.Pairwise.nil, fun _ h => absurd h List.not_mem_nil⟩ ⟨rfl, List.Pairwise.nil, fun _ h => absurd h List.not_mem_nil⟩
    have h2 : (d : Int) ∣ ((1 : Nat) : Int) := this
    exact Int.natCast_dvd_natCast.1 h2
theorem gcd_dvd {d G : Nat} {x : Int} : d ∣ Nat.gcd G x.natAbs ↔ d ∣ G ∧ (d : Int) ∣ x := by
  rw [Nat.dvd_gcd_iff, ← Int.ofNat_dvd_left]
theorem gcd_bd {G : Nat} {x : Int} {B : Nat} (hG : G ≤ B) (hx : x.natAbs ≤ B) : Nat.gcd G x.natAbs ≤ B := by
  rcases Nat.eq_zero_or_pos G with h | h
  · subst h; rw [Nat.gcd_zero_left]; exact hx
  · exact Nat.le_trans (Nat.gcd_le_left _ h) hG
def GB : Nat := 777600000
theorem dts_gb {M : List (List Int)} {n : Nat} (hM : MxOk M n) {rows cols : List Nat} (hr : rows.length ≤ 5) (hc : cols.length ≤ 5) : (dts (ent M) rows cols).natAbs ≤ GB := by
  have h1 := dts_bd hM.bd rows cols hc
  have h2 := pow60 hr
  unfold GB
  omega
/-! ### the reference -/
section
variable {M : List (List Int)} {n : Nat} (hM : MxOk M n) {k : Nat} {S : List (List Int)} (hS : ∀ s, s ∈ S ↔ SetOk n k s) (hSl : S.length ≤ 1000000) (hk : k ≤ n)
def Rw (S : List (List Int)) (i : Nat) : List Nat := (S.getD i []).map Int.toNat
include hS in
theorem Rw_ok {i : Nat} (hi : i < S.length) : Inc n k (Rw S i) ∧ ints (Rw S i) = S.getD i [] := setOk_inc ((hS _).1 (getD_mem [] hi))
def D4 (M : List (List Int)) (S : List (List Int)) (i j G : Nat) : Prop := ∀ d : Nat, d ∣ G ↔ (∀ i', i' < i → ∀ j', j' < S.length → (d : Int) ∣ dts (ent M) (Rw S i') (Rw S j')) ∧ ∀ j', j' < j → (d : Int) ∣ dts (ent M) (Rw S i) (Rw S j')
include hM hS hSl hk in
def facs (Gs : Nat → Nat) (n : Nat) : List Int := (List.range n).map fun j => if Gs (j + 1) = 0 then 0 else ((Gs (j + 1) / Gs j : Nat) : Int)
theorem facs_succ (Gs : Nat → Nat) (n : Nat) : facs Gs (n + 1) = facs Gs n ++ [if Gs (n + 1) = 0 then 0 else ((Gs (n + 1) / Gs n : Nat) : Int)] := by
  unfold facs
  rw [List.range_succ, List.map_append]
  rfl
theorem facs_len (Gs : Nat → Nat) (n : Nat) : (facs Gs n).length = n := by unfold facs; rw [List.length_map, List.length_range]
theorem facs_bd {Gs : Nat → Nat} {n : Nat} (h : ∀ k, k ≤ n → Gs k ≤ GB) : ∀ x ∈ facs Gs n, 0 ≤ x ∧ x ≤ 777600000 := by
  intro x hx
  obtain ⟨j, hj, rfl⟩ := List.mem_map.1 hx
  rw [List.mem_range] at hj
  have := h (j + 1) (by omega)
  have hd := Nat.div_le_self (Gs (j + 1)) (Gs j)
  unfold GB at this
  split
  · omega
  · generalize Gs (j + 1) / Gs j = z at hd
    omega
def CC (M : List (List Int)) (n a b : Nat) (C : List Int) : Prop := C.length = n + 1 ∧ ∀ k, k ≤ n → ∃ G : Nat, C.getD k 0 = (G : Int) ∧ G ≤ GB ∧
  ∀ d : Nat, d ∣ G ↔ ∀ a' b', a' < 2 ^ n → b' < 2 ^ n → (a' < a ∨ (a' = a ∧ b' < b)) → (lo a' n).length = k → (lo b' n).length = k → (d : Int) ∣ dts (ent M) (lo a' n) (lo b' n)
include hM in
theorem vl2_step {a b : Nat} (ha : a < 2 ^ n) (hb : b < 2 ^ n) {C : List Int} (hC : CC M n a b C) : ∃ C', CC M n a (b + 1) C' ∧ impl_InvariantFactors_l2 M C (a : Int) (ints (lo a n)) (b : Int) = impl_InvariantFactors_l2 M C' (a : Int) (ints (lo a n)) ((b + 1 : Nat) : Int) := by
  have hn5 := hM.n5
  have hp : 2 ^ n ≤ 2 ^ 5 := Nat.pow_le_pow_right (by decide) hn5
  have h32 : (2 : Nat) ^ 5 = 32 := rfl
  have hla := lo_len a n
  have hlb := lo_len b n
  have hw : w64 ((b : Int) + 1) = ((b + 1 : Nat) : Int) := w64_succ hb (by omega)
  rw [impl_InvariantFactors_l2_eq, hM.len, decide_eq_false (show ¬ ((n : Nat) : Int) < 0 by omega), cond_false, toNat_n, pow_p (by omega), dec_lt_t hb, cond_true, bitsOf_p (by omega) hb, Option.bind_some, ints_len, ints_len, hw]
  by_cases e : (lo b n).length = (lo a n).length
  · obtain ⟨G, g1, g2, g3⟩ := hC.2 (lo a n).length (by omega)
    have hdet := idet_p hM (lo a n) b (by omega) (fun r hr => (lo_mem.1 hr).1) hb
    have hgb := dts_gb hM (rows := lo a n) (cols := lo b n) (by omega) (by omega)
    have hg := idiv_p (x := (G : Int)) (y := dts (ent M) (lo a n) (lo b n)) (by unfold GB at g2; omega) (by unfold GB at hgb; omega)
    have hin : inside ((lo a n).length : Int) C.length = true := inside_lt (by rw [hC.1]; omega)
    refine ⟨C.set (lo a n).length (Nat.gcd G (dts (ent M) (lo a n) (lo b n)).natAbs : Int), ⟨by rw [List.length_set]; exact hC.1, fun k hk => ?_⟩, ?_⟩
    · by_cases ek : k = (lo a n).length
      · refine ⟨Nat.gcd G (dts (ent M) (lo a n) (lo b n)).natAbs, ?_, gcd_bd g2 hgb, fun d => ?_⟩
        · rw [ek, getD_set (by rw [hC.1]; omega), if_pos rfl]
        · rw [gcd_dvd, g3 d]
          constructor
          · rintro ⟨h1, h2⟩ a' b' ha' hb' hlt hl1 hl2
            by_cases e1 : a' = a ∧ b' = b
            · rw [e1.1, e1.2]; exact h2
            · exact h1 a' b' ha' hb' (by omega) (by omega) (by omega)
          · intro h
            exact ⟨fun a' b' ha' hb' hlt hl1 hl2 => h a' b' ha' hb' (by omega) (by omega) (by omega), h a b ha hb (by omega) (by omega) (by omega)⟩
      · obtain ⟨G', q1, q2, q3⟩ := hC.2 k hk
        refine ⟨G', by rw [getD_set (by rw [hC.1]; omega), if_neg ek]; exact q1, q2, fun d => (q3 d).trans ⟨fun h a' b' ha' hb' hlt hl1 hl2 => ?_, fun h a' b' ha' hb' hlt hl1 hl2 => h a' b' ha' hb' (by omega) hl1 hl2⟩⟩
        by_cases e1 : a' = a ∧ b' = b
        · rw [e1.1] at hl1; omega
        · exact h a' b' ha' hb' (by omega) hl1 hl2
    · rw [beq_t (show (((lo b n).length : Nat) : Int) = ((lo a n).length : Int) by omega), cond_true, hin, cond_true, hdet, Option.bind_some, toNat_n, g1, hg, Option.bind_some, cond_true, Int.natAbs_natCast]
  · refine ⟨C, ⟨hC.1, fun k hk => ?_⟩, by rw [beq_f (show ¬ (((lo b n).length : Nat) : Int) = ((lo a n).length : Int) by omega), cond_false]⟩
    obtain ⟨G', q1, q2, q3⟩ := hC.2 k hk
    refine ⟨G', q1, q2, fun d => (q3 d).trans ⟨fun h a' b' ha' hb' hlt hl1 hl2 => ?_, fun h a' b' ha' hb' hlt hl1 hl2 => h a' b' ha' hb' (by omega) hl1 hl2⟩⟩
    by_cases e1 : a' = a ∧ b' = b
    · rw [e1.1] at hl1; rw [e1.2] at hl2; omega
    · exact h a' b' ha' hb' (by omega) hl1 hl2
include hM in
theorem vl2_p {a : Nat} (ha : a < 2 ^ n) : ∀ (m b : Nat) (C : List Int), b + m = 2 ^ n → CC M n a b C → ∃ C', CC M n (a + 1) 0 C' ∧ impl_InvariantFactors_l2 M C (a : Int) (ints (lo a n)) (b : Int) = impl_InvariantFactors_l0 M C' ((a + 1 : Nat) : Int) := by
  have hn5 := hM.n5
  have hp : 2 ^ n ≤ 2 ^ 5 := Nat.pow_le_pow_right (by decide) hn5
  have h32 : (2 : Nat) ^ 5 = 32 := rfl
  intro m
  induction m with
  | zero =>
    intro b C hb hC
    have : b = 2 ^ n := by omega
    subst this
    refine ⟨C, ⟨hC.1, fun k hk => ?_⟩, ?_⟩
    · obtain ⟨G', q1, q2, q3⟩ := hC.2 k hk
      exact ⟨G', q1, q2, fun d => (q3 d).trans ⟨fun h a' b' ha' hb' hlt hl1 hl2 => h a' b' ha' hb' (by omega) hl1 hl2, fun h a' b' ha' hb' hlt hl1 hl2 => h a' b' ha' hb' (by omega) hl1 hl2⟩⟩
    · rw [impl_InvariantFactors_l2_eq, hM.len, decide_eq_false (show ¬ ((n : Nat) : Int) < 0 by omega), cond_false, toNat_n, pow_p (by omega), dec_lt_f, cond_false, w64_succ ha (by omega)]
  | succ m ih =>
    intro b C hb hC
    obtain ⟨C1, c1, c2⟩ := vl2_step hM ha (b := b) (by omega) hC
    obtain ⟨C2, d1, d2⟩ := ih (b + 1) C1 (by omega) c1
    exact ⟨C2, d1, c2.trans d2⟩
include hM in
theorem vl0_p : ∀ (m a : Nat) (C : List Int), a + m = 2 ^ n → CC M n a 0 C → ∃ C', CC M n (2 ^ n) 0 C' ∧ impl_InvariantFactors_l0 M C (a : Int) = impl_InvariantFactors_l4 C' [] (n : Int) 0 := by
  have hn5 := hM.n5
  intro m
  induction m with
  | zero =>
    intro a C ha hC
    have : a = 2 ^ n := by omega
    subst this
    refine ⟨C, hC, ?_⟩
    rw [impl_InvariantFactors_l0_eq, hM.len, decide_eq_false (show ¬ ((n : Nat) : Int) < 0 by omega), cond_false, toNat_n, pow_p (by omega), dec_lt_f, cond_false]
  | succ m ih =>
    intro a C ha hC
    have ha' : a < 2 ^ n := by omega
    obtain ⟨C1, c1, c2⟩ := vl2_p hM ha' (2 ^ n) 0 C (by omega) hC
    obtain ⟨C2, d1, d2⟩ := ih (a + 1) C1 (by omega) c1
    refine ⟨C2, d1, ?_⟩
    rw [impl_InvariantFactors_l0_eq, hM.len, decide_eq_false (show ¬ ((n : Nat) : Int) < 0 by omega), cond_false, toNat_n, pow_p (by omega), dec_lt_t ha', cond_true, bitsOf_p (by omega) ha', Option.bind_some]
    exact c2.trans d2
include hM in
/-- the program's invariant factors -/
theorem iinv_p {Gs : Nat → Nat} (hG : ∀ k, k ≤ n → IsG (ent M) n k (Gs k) ∧ Gs k ≤ GB) : impl_InvariantFactors_l0 M (List.replicate (n + 1) 0) 0 = some (facs Gs n) := by
  have hn5 := hM.n5
  have st : CC M n 0 0 (List.replicate (n + 1) 0) := ⟨List.length_replicate, fun k hk => ⟨0, by rw [List.getD_eq_getElem?_getD, List.getElem?_replicate]; split <;> rfl, Nat.zero_le _, fun d => ⟨fun _ a' b' _ _ h => by omega, fun _ => Nat.dvd_zero d⟩⟩⟩
  obtain ⟨C, c1, c2⟩ := vl0_p hM (2 ^ n) 0 _ (by omega) st
  rw [show ((0 : Nat) : Int) = 0 from rfl] at c2
  rw [c2]
  have hg : ∀ k, k ≤ n → C.getD k 0 = (Gs k : Int) := fun k hk => by
    obtain ⟨G, g1, g2, g3⟩ := c1.2 k hk
    have : IsG (ent M) n k G := fun d => (g3 d).trans ⟨fun h rows cols hr hc => by
      obtain ⟨a, a1, a2⟩ := inc_lo hr
      obtain ⟨b, b1, b2⟩ := inc_lo hc
      have := h a b a1 b1 (.inl a1) (by rw [a2]; exact hr.1) (by rw [b2]; exact hc.1)
      rwa [a2, b2] at this, fun h a b ha hb _ hl1 hl2 => h _ _ (hl1 ▸ lo_Inc a n) (hl2 ▸ lo_Inc b n)⟩
    rw [g1, this.uniq (hG k hk).1]
  have key : ∀ (m k : Nat), k + m = n → impl_InvariantFactors_l4 C (facs Gs k) (n : Int) (k : Int) = some (facs Gs n) := by
    intro m
    induction m with
    | zero =>
      intro k hk
      have : k = n := by omega
      subst this
      rw [impl_InvariantFactors_l4_eq, dec_lt_f]
      rfl
    | succ m ih =>
      intro k hk
      have hk' : k < n := by omega
      have hroom : ∀ x : Int, decide ((facs Gs k).length + ([x] : List Int).length ≤ room) = true := fun x => decide_eq_true (by rw [facs_len, room]; simp; omega)
      have h1 := hg (k + 1) (by omega)
      have h0 := hg k (by omega)
      obtain ⟨a1, a2⟩ := hG (k + 1) (by omega)
      obtain ⟨b1, b2⟩ := hG k (by omega)
      rw [impl_InvariantFactors_l4_eq, dec_lt_t hk', cond_true, w64_succ hk' (by omega), inside_lt (by rw [c1.1]; omega), cond_true, toNat_n, h1]
      have fin : ∀ x : Int, x = (if Gs (k + 1) = 0 then 0 else ((Gs (k + 1) / Gs k : Nat) : Int)) → impl_InvariantFactors_l4 C (facs Gs k ++ [x]) (n : Int) ((k + 1 : Nat) : Int) = some (facs Gs n) := by
        rintro x rfl
        rw [← facs_succ]
        exact ih (k + 1) (by omega)
      by_cases c2 : Gs (k + 1) = 0
      · rw [beq_t (show (Gs (k + 1) : Int) = 0 by omega), cond_true, hroom, cond_true]
        exact fin 0 (by rw [if_pos c2])
      · have c1' : Gs k ≠ 0 := fun c => c2 (IsG.zero (c ▸ b1) a1)
        have hd := Nat.div_le_self (Gs (k + 1)) (Gs k)
        have hw2 : w64 (Int.tdiv (Gs (k + 1) : Int) (Gs k : Int)) = ((Gs (k + 1) / Gs k : Nat) : Int) := by
          rw [show Int.tdiv (Gs (k + 1) : Int) (Gs k : Int) = ((Gs (k + 1) / Gs k : Nat) : Int) from (Int.ofNat_tdiv _ _).symm]
          unfold GB at a2
          generalize Gs (k + 1) / Gs k = z at hd
          exact w64_id (by omega) (by omega)
        rw [beq_f (show ¬ (Gs (k + 1) : Int) = 0 by omega), cond_false, cond_true, inside_lt (by rw [c1.1]; omega), cond_true, toNat_n, h0, decide_eq_false (by omega), cond_false, hw2, hroom, cond_true]
        exact fin _ (by rw [if_neg c2])
  exact key n 0 (by omega)
end
end Go.Proofs.YtgncajnfphlgeaaGreatDoor.D

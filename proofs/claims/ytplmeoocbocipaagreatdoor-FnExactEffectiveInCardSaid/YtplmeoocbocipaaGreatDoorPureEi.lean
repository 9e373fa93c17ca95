/-
  The effective divisors of a class, listed by both programs alike: the law of EffectiveIn.
-/
import Derived.Test.YtplmeoocbocipaaGreatDoorPureY
namespace Go.Proofs.YtplmeoocbocipaaGreatDoor.D
open Go Go.Den
set_option linter.unusedVariables false
set_option linter.unusedSimpArgs false
/-- how many numbers lie in all rows -/
def tln : List (List Int) → Nat
  | [] => 0
  | r :: t => r.length + tln t
/-- rows of numbers that go on from row to row -/
def rn : Int → List (List Int) → List (List Int)
  | _, [] => []
  | m, r :: t => run m r.length :: rn (m + (r.length : Int)) t
theorem tln_append : ∀ a b : List (List Int), tln (a ++ b) = tln a + tln b
  | [], b => by simp [tln]
  | r :: a, b => by simp [tln, tln_append a b, Nat.add_assoc]
theorem tln_take {a : List (List Int)} {k : Nat} (h : k < a.length) : tln (a.take (k + 1)) = tln (a.take k) + (a.getD k []).length := by
  rw [take_succ [] h, tln_append]
  simp [tln]
theorem tln_take_le {a : List (List Int)} (k : Nat) : tln (a.take k) ≤ tln a := by
  have := congrArg tln (List.take_append_drop k a)
  rw [tln_append] at this
  omega
theorem tln_le {c : Nat} : ∀ {a : List (List Int)}, (∀ r ∈ a, r.length ≤ c) → tln a ≤ a.length * c
  | [], _ => by simp [tln]
  | r :: a, h => by
    have h1 := h r List.mem_cons_self
    have h2 := tln_le (a := a) fun x hx => h x (List.mem_cons_of_mem _ hx)
    rw [tln, List.length_cons, Nat.succ_mul]
    omega
theorem rn_len : ∀ (a : List (List Int)) (m : Int), (rn m a).length = a.length
  | [], _ => rfl
  | r :: a, m => by simp [rn, rn_len a]
theorem rn_append : ∀ (a b : List (List Int)) (m : Int), rn m (a ++ b) = rn m a ++ rn (m + (tln a : Int)) b
  | [], b, m => by simp [rn, tln]
  | r :: a, b, m => by
    simp only [List.cons_append, rn, tln, rn_append a b]
    rw [show m + ((r.length + tln a : Nat) : Int) = m + (r.length : Int) + (tln a : Int) by omega]
theorem rn_getD {a : List (List Int)} {m : Int} {k : Nat} (h : k < a.length) : (rn m a).getD k [] = run (m + (tln (a.take k) : Int)) (a.getD k []).length := by
  have e : a = a.take k ++ a.getD k [] :: a.drop (k + 1) := by
    rw [getD_lt h, ← List.drop_eq_getElem_cons h, List.take_append_drop]
  have e2 : rn m a = rn m (a.take k) ++ run (m + (tln (a.take k) : Int)) (a.getD k []).length :: rn (m + (tln (a.take k) : Int) + ((a.getD k []).length : Int)) (a.drop (k + 1)) := by
    conv => lhs; rw [e]
    rw [rn_append]
    rfl
  have hl : (rn m (a.take k)).length = k := by rw [rn_len, List.length_take]; omega
  rw [e2, List.getD_eq_getElem?_getD, List.getElem?_append_right (by omega), hl, Nat.sub_self]
  rfl
theorem eqIntSS_p {a b : List (List Int)} (h : a.length ≤ 9223372036854775807) (h2 : ∀ r ∈ a, r.length ≤ 9223372036854775807) : ∃ r, laws_eqIntSS a b = some r ∧ (r = true ↔ a = b) := by
  rw [laws_eqIntSS_eq]
  by_cases c : a.length = b.length
  · have hc : (((a.length : Int) : Int) != (b.length : Int)) = false := by rw [c]; simp
    rw [hc]
    simp only [cond_false]
    obtain ⟨r, h1, h3⟩ := upAll (n := a.length) (f := fun i => laws_eqIntSS_l0 a b i) (p := fun k => a.getD k [] == b.getD k []) (fun k hk => by
      obtain ⟨r, e1, e2⟩ := eqIntS_p (a := a.getD k []) (b := b.getD k []) (h2 _ (getD_mem [] hk))
      rw [laws_eqIntSS_l0_eq, dec_lt_t hk, inside_lt hk, inside_lt (c ▸ hk), w64_succ hk h]
      simp only [cond_true, Int.toNat_natCast, e1, Option.bind_some]
      have : r = (a.getD k [] == b.getD k []) := by rw [Bool.eq_iff_iff, e2]; simp
      rw [← this]
      cases r <;> rfl) (by rw [laws_eqIntSS_l0_eq, dec_lt_f]; rfl)
    refine ⟨r, h1, h3.trans ⟨fun q => ext_getD (d := []) c fun j hj => by simpa using q j hj, fun q j _ => by rw [q]; simp⟩⟩
  · have hc : (((a.length : Int) : Int) != (b.length : Int)) = true := by
      rw [bne_iff_ne]; omega
    rw [hc]
    exact ⟨false, rfl, ⟨fun q => (by cases q), fun q => absurd (congrArg List.length q) c⟩⟩
theorem markIntSS_p {a : List (List Int)} {m : Int} (h0 : 0 ≤ m) (hl : a.length ≤ 9223372036854775806) (h : m + (tln a : Int) ≤ 9223372036854775806) : laws_markIntSS a m = some (m + (tln a : Int), rn m a) := by
  rw [laws_markIntSS_eq]
  have key : ∀ d k, k + d = a.length → laws_markIntSS_l0 (rn m (a.take k) ++ a.drop k) (m + (tln (a.take k) : Int)) (k : Nat) = some (m + (tln a : Int), rn m a) := by
    intro d
    induction d with
    | zero =>
      intro k hk
      have : k = a.length := by omega
      subst this
      rw [laws_markIntSS_l0_eq, List.take_length, List.drop_length, List.append_nil, rn_len, dec_lt_f]
      rfl
    | succ d ih =>
      intro k hk
      have hk' : k < a.length := by omega
      have hlen : (rn m (a.take k) ++ a.drop k).length = a.length := by
        rw [List.length_append, rn_len, List.length_take, List.length_drop]; omega
      have hlt : (rn m (a.take k)).length = k := by rw [rn_len, List.length_take]; omega
      have ht := tln_take hk'
      have hle := tln_take_le (a := a) (k + 1)
      have hg : (rn m (a.take k) ++ a.drop k).getD k [] = a.getD k [] := by
        rw [List.getD_eq_getElem?_getD, List.getElem?_append_right (by omega), hlt, Nat.sub_self, List.getElem?_drop, Nat.add_zero, List.getD_eq_getElem?_getD]
      rw [laws_markIntSS_l0_eq, hlen, dec_lt_t hk', inside_lt hk', w64_succ hk' (by omega)]
      simp only [cond_true, Int.toNat_natCast]
      rw [hg, markIntS_p (a := a.getD k []) (by omega) (by omega), Option.bind_some]
      have hs : (rn m (a.take k) ++ a.drop k).set k (run (m + (tln (a.take k) : Int)) (a.getD k []).length) = rn m (a.take (k + 1)) ++ a.drop (k + 1) := by
        rw [List.set_append_right _ _ (by omega), hlt, Nat.sub_self, List.drop_eq_getElem_cons hk', List.set_cons_zero, take_succ [] hk', rn_append, List.append_assoc]
        rfl
      simp only [hs]
      rw [show m + (tln (a.take k) : Int) + ((a.getD k []).length : Int) = m + (tln (a.take (k + 1)) : Int) by omega]
      exact ih (k + 1) (by omega)
  have := key a.length 0 (by omega)
  simpa [rn, tln] using this
theorem heldIntSS_p {a : List (List Int)} {m : Int} (h0 : 0 ≤ m) (hl : a.length ≤ 9223372036854775806) (h : m + (tln a : Int) ≤ 9223372036854775806) : laws_heldIntSS (rn m a) m = some (m + (tln a : Int)) := by
  rw [laws_heldIntSS_eq]
  have key : ∀ d k, k + d = a.length → laws_heldIntSS_l0 (rn m a) (m + (tln (a.take k) : Int)) (k : Nat) = some (m + (tln a : Int)) := by
    intro d
    induction d with
    | zero =>
      intro k hk
      have : k = a.length := by omega
      subst this
      rw [laws_heldIntSS_l0_eq, rn_len, dec_lt_f, List.take_length]
      rfl
    | succ d ih =>
      intro k hk
      have hk' : k < a.length := by omega
      have ht := tln_take hk'
      have hle := tln_take_le (a := a) (k + 1)
      rw [laws_heldIntSS_l0_eq, rn_len, dec_lt_t hk', inside_lt hk', w64_succ hk' (by omega)]
      simp only [cond_true, Int.toNat_natCast]
      rw [rn_getD hk', heldIntS_p (by omega) (by omega), Option.bind_some, decide_eq_false (by omega), cond_false]
      rw [show m + (tln (a.take k) : Int) + ((a.getD k []).length : Int) = m + (tln (a.take (k + 1)) : Int) by omega]
      exact ih (k + 1) (by omega)
  have := key a.length 0 (by omega)
  simpa [tln] using this
theorem law_EffectiveIn {g : Gr} {d : List Int} (hg : g.2.length ≤ 9223372036854775807) : laws_FnExactEffectiveIn g d = some true := by
  rw [laws_FnExactEffectiveIn_eq]
  by_cases c0 : (d.length : Int) > 1048576
  · rw [decide_eq_true c0]; rfl
  obtain ⟨r, k1, k2⟩ := szGraph_p hg (m := 1048576) (by omega) (by omega)
  rw [decide_eq_false c0, k1]
  simp only [cond_false, Option.bind_some]
  by_cases c : r < 0
  · rw [decide_eq_true c]; rfl
  obtain ⟨hl, t1, t2, e1, e2⟩ := law_pre hg (k2 := k2) c0 c
  obtain ⟨L, b, p1, p2, p3, p4, p5⟩ := effIn_p hl (d := d) (by omega)
  have hrow : ∀ x ∈ L, x.length ≤ 6 := by
    cases b with
    | true =>
      intro x hx
      obtain ⟨hD, h7⟩ := p4.1 rfl
      have hn := gN hD.1
      have hcl := ((p5 rfl).2.2 x).1 hx
      have hk : 0 ≤ sm (N g) (fn d) := Win.deg hD.1 ⟨_, hcl⟩
      have hsd := hcl.sd hD.1 (k := (sm (N g) (fn d)).toNat) (by omega) (by omega)
      have := hsd.vec.1.1
      omega
    | false =>
      obtain ⟨b, q1, q2, q3⟩ := divisorOk_p hl (d := d) (by omega)
      rw [impl_EffectiveIn_eq, q2] at p2
      cases b with
      | false =>
        have := congrArg Prod.fst (Option.some.inj p2)
        intro x hx
        rw [show L = [] from this.symm] at hx
        exact (List.not_mem_nil hx).elim
      | true =>
        obtain ⟨w1, w2⟩ := deg_p (q3.1 rfl)
        simp only [Option.bind_some, Bool.not_true, cond_false, w2] at p2
        by_cases c : sm (N g) (fn d) > 7
        · rw [decide_eq_true c] at p2
          have := congrArg Prod.fst (Option.some.inj p2)
          intro x hx
          rw [show L = [] from this.symm] at hx
          exact (List.not_mem_nil hx).elim
        · exact absurd (p4.2 ⟨q3.1 rfl, by omega⟩) (by simp)
  have htl := tln_le hrow
  have e3 : laws_eqIntSS L L = some true := true_of (eqIntSS_p (by omega) fun x hx => by have := hrow x hx; omega) rfl
  obtain ⟨q1, m1, n1⟩ := markGraph_p (a := g) (m := 1) (by omega) (by omega)
  have m2 := markIntS_p (a := d) (m := q1.1) (by omega) (by omega)
  have m3 := markIntSS_p (a := L) (m := 1) (by omega) (by omega) (by omega)
  have m4 := heldIntSS_p (a := L) (m := 1) (by omega) (by omega) (by omega)
  have z1 : ¬ q1.1 + (d.length : Int) < 0 := by omega
  have z2 : ¬ (1 : Int) + (tln L : Int) < 0 := by omega
  rw [decide_eq_false c]
  simp only [t1, t2, e1, e2, e3, p1, p2, Option.bind_some, cond_false, Bool.not_true, beq_self_eq_true, bne_self_eq_false, laws_FnExactEffectiveIn_c13_eq, m1, m2, m3, m4, decide_eq_false z1, decide_eq_false z2, laws_FnExactEffectiveIn_c26_eq]
end Go.Proofs.YtplmeoocbocipaaGreatDoor.D

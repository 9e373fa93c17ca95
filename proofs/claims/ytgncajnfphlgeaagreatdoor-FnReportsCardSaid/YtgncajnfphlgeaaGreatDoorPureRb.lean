/-
  Chips on a graph: both programs reduce a divisor alike: the sets that fire; the reduced divisor is one.
-/
import Derived.Test.YtgncajnfphlgeaaGreatDoorPureR
namespace Go.Proofs.YtgncajnfphlgeaaGreatDoor.D
open Go Go.Den
set_option linter.unusedVariables false
set_option linter.unusedSimpArgs false
/-- while sets fire: S1 is the script when all debts were paid -/
structure P2 (g : Gr) (q : Nat) (D S1 : Nat → Int) (x y : List Int) (O S : Nat → Int) : Prop where
  vx : vec (N g) x O
  vy : vec (N g) y S
  out : ∀ w, w < N g → O w = D w - lap (Eg g) S w
  q0 : S q = 0
  ge : ∀ w, w < N g → S1 w ≤ S w
  ok : NoDebt g q O
structure Base (g : Gr) (q : Nat) (D S1 : Nat → Int) : Prop where
  q0 : S1 q = 0
  bd : Bd (N g) 30941000 S1
/-- no more firing than this -/
theorem fire_bd {g : Gr} (hg : GOk g) {q : Nat} (hq : q < N g) {D S1 : Nat → Int} {x y : List Int} {O S : Nat → Int} (hD : Bd (N g) 1000 D) (hB : Base g q D S1) (h : P2 g q D S1 x y O S) : sm (N g) (fun w => S w - S1 w) ≤ 137857934910000 := by
  obtain ⟨gE1, gE2, gE3⟩ := gE hg
  have hn := gN hg
  obtain ⟨t, t1, t2, t3⟩ := pay_one gE1 gE2 (gC hg) hq hn.2.2
  have sym := lap_symm (n := N g) t (fun w => S w - S1 w) gE1
  have hR : sm (N g) (fun w => S w - S1 w) ≤ sm (N g) (fun v => (S v - S1 v) * lap (Eg g) t v) := sm_le fun v hv => by
    by_cases c : v = q
    · subst c
      rw [h.q0, hB.q0]; omega
    · have h1 := h.ge v hv
      have h2 := t3 v hv c
      have : (S v - S1 v) * 1 ≤ (S v - S1 v) * lap (Eg g) t v := Int.mul_le_mul_of_nonneg_left h2 (by omega)
      omega
  have hL : sm (N g) (fun v => t v * lap (Eg g) (fun w => S w - S1 w) v) ≤ (N g : Int) * 22976322485000 := sm_const_le fun v hv => by
    have e : lap (Eg g) (fun w => S w - S1 w) v = lap (Eg g) S v - lap (Eg g) S1 v := by
      have : lap (Eg g) (fun w => S w - S1 w) v = lap (Eg g) (fun w => S w + - S1 w) v := lap_congr hv (fun w _ => by omega) gE1
      rw [this, lap_add, lap_neg]; omega
    have o := h.out v hv
    have b1 := lap_bd hB.bd (by omega) hv gE1 gE2
    have d1 := hD v hv
    have tv := t2 v
    by_cases c : v = q
    · subst c
      rw [t1]; omega
    · have nd := h.ok v hv c
      have h3 : lap (Eg g) (fun w => S w - S1 w) v ≤ 742585000 := by rw [e]; omega
      have h4 : t v * lap (Eg g) (fun w => S w - S1 w) v ≤ t v * 742585000 := Int.mul_le_mul_of_nonneg_left h3 tv.1
      omega
  omega
theorem P2.bdS {g : Gr} (hg : GOk g) {q : Nat} (hq : q < N g) {D S1 : Nat → Int} {x y : List Int} {O S : Nat → Int} (hD : Bd (N g) 1000 D) (hB : Base g q D S1) (h : P2 g q D S1 x y O S) : Bd (N g) 137857965851000 S := fun w hw => by
  have h1 := fire_bd hg hq hD hB h
  have h2 := sm_ge_one (n := N g) (f := fun w => S w - S1 w) (fun v hv => by have := h.ge v hv; omega) hw
  have h3 := h.ge w hw
  have h4 := hB.bd w hw
  omega
theorem inde (L : List Nat) (w : Nat) : ind (cmp L) w = if w ∈ L then 0 else 1 := by
  unfold ind cmp
  by_cases c : w ∈ L <;> simp [c]
/-- a set that has not burnt fires: no debts, and more has fired -/
theorem P2.set {g : Gr} (hg : GOk g) {q : Nat} {D S1 : Nat → Int} {x y x' y' : List Int} {O S : Nat → Int} {L : List Nat} (h : P2 g q D S1 x y O S) (hL : BI (N g) (Eg g) q O L) (hF : Fin' (N g) (Eg g) O L)
    (hx : vec (N g) x' (fun w => D w - lap (Eg g) (fun u => S u + ind (cmp L) u) w)) (hy : vec (N g) y' (fun u => S u + ind (cmp L) u)) : P2 g q D S1 x' y' (fun w => D w - lap (Eg g) (fun u => S u + ind (cmp L) u) w) (fun u => S u + ind (cmp L) u) := by
  refine ⟨hx, hy, fun w _ => rfl, ?_, fun w hw => ?_, fun v hv hne => ?_⟩
  · rw [inde, if_pos hL.hq, h.q0]; rfl
  · have := h.ge w hw
    rw [inde]
    split <;> omega
  · have o := h.out v hv
    have nd := h.ok v hv hne
    rw [lap_add]
    by_cases c : v ∈ L
    · have := lap_ind_out (cmp_f.2 c) (Eg g)
      omega
    · have h1 := hF v hv c
      have := lap_ind_in (cmp_t.2 c) (Eg g)
      omega
theorem sm_more {g : Gr} {q : Nat} {S1 S O : Nat → Int} {L : List Nat} (hL : BI (N g) (Eg g) q O L) (hl : L.length ≠ N g) : sm (N g) (fun w => S w - S1 w) + 1 ≤ sm (N g) (fun w => (S w + ind (cmp L) w) - S1 w) := by
  have hlen := hL.len
  have hex : ∃ v, v < N g ∧ v ∉ L := by
    by_cases c : ∃ v, v < N g ∧ v ∉ L
    · exact c
    · exfalso
      have := nodup_len (l := List.range (N g)) (m := L) List.nodup_range fun x hx => by
        by_cases k : x ∈ L
        · exact k
        · exact absurd ⟨x, List.mem_range.1 hx, k⟩ c
      rw [List.length_range] at this
      omega
  obtain ⟨v, v1, v2⟩ := hex
  have e : sm (N g) (fun w => (S w + ind (cmp L) w) - S1 w) = sm (N g) (fun w => (S w - S1 w) + ind (cmp L) w) := sm_congr fun w _ => by omega
  rw [e, sm_add]
  have := sm_ge_one (n := N g) (f := ind (cmp L)) (fun w _ => by rw [inde]; split <;> omega) v1
  rw [inde, if_neg v2] at this
  omega
/-- one round of the program: the vertices fire one behind the other -/
theorem impl_l4_fire {g : Gr} (hg : GOk g) {q : Nat} (hq : q < N g) {D S1 : Nat → Int} (hD : Bd (N g) 1000 D) (hB : Base g q D S1) {L : List Nat} {S : Nat → Int} (hLn : L.length ≤ N g) (hS : Bd (N g) 137857965851000 S) : ∀ (m k : Nat) (x y : List Int), k + m = N g →
    vec (N g) x (fun w => D w - lap (Eg g) (fun u => S u + (if u < k then ind (cmp L) u else 0)) w) → vec (N g) y (fun u => S u + (if u < k then ind (cmp L) u else 0)) →
    ∃ x' y', impl_reduce_l4 (q : Int) g x y (ints L) ((N g : Nat) : Int) (k : Int) = impl_reduce_l2 (q : Int) g x' y' ∧ vec (N g) x' (fun w => D w - lap (Eg g) (fun u => S u + ind (cmp L) u) w) ∧ vec (N g) y' (fun u => S u + ind (cmp L) u)
  | 0, k, x, y, hk, hx, hy => by
    obtain ⟨gE1, gE2, gE3⟩ := gE hg
    have : k = N g := by omega
    subst this
    rw [impl_reduce_l4_eq, dec_lt_f, cond_false]
    refine ⟨x, y, rfl, hx.congr fun w hw => ?_, hy.congr fun w hw => by rw [if_pos hw]⟩
    rw [lap_congr hw (fun u hu => by rw [if_pos hu]) gE1]
  | m + 1, k, x, y, hk, hx, hy => by
    obtain ⟨gE1, gE2, gE3⟩ := gE hg
    have hn := gN hg
    have hk' : k < N g := by omega
    rw [impl_reduce_l4_eq, dec_lt_t hk', cond_true, contains_p (by rw [ints_len]; omega), Option.bind_some, decide_eq_decide.2 mem_ints, w64_succ hk' (by omega)]
    have hS2 : Bd (N g) 137857965851001 (fun u => S u + (if u < k then ind (cmp L) u else 0)) := fun w hw => by
      have := hS w hw
      have e := inde L w
      have b : 0 ≤ ind (cmp L) w ∧ ind (cmp L) w ≤ 1 := by rw [e]; split <;> omega
      show -137857965851001 ≤ S w + (if w < k then ind (cmp L) w else 0) ∧ S w + (if w < k then ind (cmp L) w else 0) ≤ 137857965851001
      split <;> omega
    by_cases c : k ∈ L
    · rw [decide_eq_true c, Bool.not_true, cond_false]
      have hz : ind (cmp L) k = 0 := by rw [inde, if_pos c]
      have hfun : ∀ u, (if u < k then ind (cmp L) u else 0) = (if u < k + 1 then ind (cmp L) u else 0) := fun u => by
        by_cases c1 : u < k
        · rw [if_pos c1, if_pos (by omega)]
        · rw [if_neg c1]
          by_cases c2 : u = k
          · subst c2; rw [hz]; split <;> rfl
          · rw [if_neg (by omega)]
      refine impl_l4_fire hg hq hD hB hLn hS m (k + 1) x y (by omega) (hx.congr fun w hw => ?_) (hy.congr fun w hw => ?_)
      · rw [lap_congr hw (fun u hu => by rw [hfun u]) gE1]
      · rw [hfun w]
    · rw [decide_eq_false c, Bool.not_false, cond_true]
      have hz : ind (cmp L) k = 1 := by rw [inde, if_neg c]
      have hfun : ∀ u, (if u < k + 1 then ind (cmp L) u else 0) = (if u < k then ind (cmp L) u else 0) + 1 * one k u := fun u => by
        unfold one
        by_cases c1 : u < k
        · have : ¬ u = k := by omega
          rw [if_pos c1, if_pos (by omega), if_neg this]; omega
        · rw [if_neg c1]
          by_cases c2 : u = k
          · subst c2; rw [if_pos (by omega), hz, if_pos rfl]; rfl
          · rw [if_neg (by omega), if_neg c2]; rfl
      have hBx : Bd (N g) 3308591180425024 (fun w => D w - lap (Eg g) (fun u => S u + (if u < k then ind (cmp L) u else 0)) w) := fun w hw => by
        have h1 := hD w hw
        have h2 := lap_bd hS2 (by omega) hw gE1 gE2
        show -3308591180425024 ≤ D w - lap (Eg g) (fun u => S u + (if u < k then ind (cmp L) u else 0)) w ∧ D w - lap (Eg g) (fun u => S u + (if u < k then ind (cmp L) u else 0)) w ≤ 3308591180425024
        omega
      obtain ⟨x', f1, f2⟩ := impl_fire_p hg hx hk' (t := 1) (T := 1) hBx (by omega) (by omega)
      have vy : vec (N g) (y.set k (S k + 0 + 1)) (fun u => S u + (if u < k + 1 then ind (cmp L) u else 0)) := (hy.set hk' _).congr fun w hw => by
        rw [hfun w]
        unfold one
        by_cases c : w = k
        · subst c; simp
        · simp [c]
      have hyk : y.getD k 0 = S k + 0 := by
        rw [hy.2 k hk']
        simp
      have sb := hS k hk'
      have i2 : inside (k : Int) y.length = true := inside_lt (by rw [hy.1]; exact hk')
      rw [f1, Option.bind_some, i2, cond_true, cond_true, toNat_n, hyk, w64_id (n := S k + 0 + 1) (by omega) (by omega)]
      refine impl_l4_fire hg hq hD hB hLn hS m (k + 1) x' _ (by omega) (f2.congr fun w hw => ?_) vy
      have e : lap (Eg g) (fun u => S u + (if u < k + 1 then ind (cmp L) u else 0)) w = lap (Eg g) (fun u => S u + (if u < k then ind (cmp L) u else 0)) w + lap (Eg g) (fun u => 1 * one k u) w := by
        rw [← lap_add]
        exact lap_congr hw (fun u hu => by rw [hfun u]; omega) gE1
      omega
theorem impl_sets {g : Gr} (hg : GOk g) {q : Nat} (hq : q < N g) {D S1 : Nat → Int} (hD : Bd (N g) 1000 D) (hB : Base g q D S1) : ∀ (m : Nat) (x y : List Int) (O S : Nat → Int), 137857934910000 < sm (N g) (fun w => S w - S1 w) + (m : Int) → P2 g q D S1 x y O S →
    ∃ x' y' O' S', impl_reduce_l2 (q : Int) g x y = some (x', y') ∧ P2 g q D S1 x' y' O' S' ∧ Red (N g) (Eg g) q O'
  | 0, x, y, O, S, hm, h => by have := fire_bd hg hq hD hB h; omega
  | m + 1, x, y, O, S, hm, h => by
    have hn := gN hg
    obtain ⟨L, b1, b2, b3⟩ := impl_burn_p hg h.vx hq
    have hlen := b2.len
    rw [impl_reduce_l2_eq, b1, Option.bind_some, ints_len]
    by_cases c : L.length = N g
    · rw [beq_t (show (L.length : Int) = g.1 by omega), cond_true]
      exact ⟨x, y, O, S, rfl, h, b2.red c h.ok⟩
    · rw [beq_f (show ¬ (L.length : Int) = g.1 by omega), cond_false, h.vy.1]
      obtain ⟨gE1, gE2, gE3⟩ := gE hg
      obtain ⟨x', y', e1, e2, e3⟩ := impl_l4_fire hg hq hD hB hlen (h.bdS hg hq hD hB) (N g) 0 x y (by omega) (h.vx.congr fun w hw => by
        have e : lap (Eg g) S w = lap (Eg g) (fun u => S u + (if u < 0 then ind (cmp L) u else 0)) w := lap_congr hw (fun u hu => by rw [if_neg (by omega), Int.add_zero]) gE1
        rw [h.out w hw, e]) (h.vy.congr fun w hw => by rw [if_neg (by omega), Int.add_zero])
      have h' := h.set hg b2 b3 e2 e3
      have := sm_more (S1 := S1) (S := S) b2 c
      obtain ⟨x2, y2, O2, S2, k1, k2, k3⟩ := impl_sets hg hq hD hB m x' y' _ _ (by omega) h'
      exact ⟨x2, y2, O2, S2, e1.trans k1, k2, k3⟩
/-- what both tell: the reduced divisor and its script -/
structure Rdd (g : Gr) (q : Nat) (D : Nat → Int) (x y : List Int) (O S : Nat → Int) : Prop where
  vx : vec (N g) x O
  vy : vec (N g) y S
  out : ∀ w, w < N g → O w = D w - lap (Eg g) S w
  q0 : S q = 0
  red : Red (N g) (Eg g) q O
  bd : Bd (N g) 137857965851000 S
theorem Rdd.eq {g : Gr} (hg : GOk g) {q : Nat} (hq : q < N g) {D O S O' S' : Nat → Int} {x y x' y' : List Int} (h : Rdd g q D x y O S) (h' : Rdd g q D x' y' O' S') : x = x' ∧ y = y' := by
  obtain ⟨gE1, gE2, gE3⟩ := gE hg
  have key := Red.uniq (s := fun w => S' w - S w) gE1 hq h.red h'.red fun v hv => by
    have e : lap (Eg g) (fun w => S' w - S w) v = lap (Eg g) S' v - lap (Eg g) S v := by
      have : lap (Eg g) (fun w => S' w - S w) v = lap (Eg g) (fun w => S' w + - S w) v := lap_congr hv (fun w _ => by omega) gE1
      rw [this, lap_add, lap_neg]; omega
    have := h.out v hv
    have := h'.out v hv
    omega
  refine ⟨h.vx.eq h'.vx fun w hw => (key w hw).2.symm, h.vy.eq h'.vy fun w hw => ?_⟩
  have := (key w hw).1
  have := h.q0
  have := h'.q0
  omega
theorem P1.two {g : Gr} {q : Nat} {D t : Nat → Int} {x y : List Int} {O S : Nat → Int} (hP : Pay g q D t) (h : P1 g q D t x y O S) (h0 : NoDebt g q O) : Base g q D S ∧ P2 g q D S x y O S :=
  ⟨⟨h.q0, h.bdS hP⟩, ⟨h.vx, h.vy, h.out, h.q0, fun w _ => Int.le_refl _, h0⟩⟩
theorem P1.start {g : Gr} {q : Nat} {D t : Nat → Int} (hP : Pay g q D t) {d : List Int} (hd : vec (N g) d D) : P1 g q D t d (List.replicate (N g) 0) D (fun _ => 0) := by
  refine ⟨hd, vec.zero _, fun w _ => ?_, rfl, fun w hw => by have := hP.bd w; omega⟩
  have : ∀ E : Es, lap E (fun _ => 0) w = 0 := fun E => by
    induction E with
    | nil => rfl
    | cons e E ih =>
      rw [lap_cons, ih]
      unfold tm
      split
      · rfl
      · split <;> rfl
  rw [this]; omega
theorem P2.rdd {g : Gr} (hg : GOk g) {q : Nat} (hq : q < N g) {D S1 : Nat → Int} {x y : List Int} {O S : Nat → Int} (hD : Bd (N g) 1000 D) (hB : Base g q D S1) (h : P2 g q D S1 x y O S) (hr : Red (N g) (Eg g) q O) : Rdd g q D x y O S := ⟨h.vx, h.vy, h.out, h.q0, hr, h.bdS hg hq hD hB⟩
theorem bound_nat (i : Int) (h : 0 ≤ i) : ∃ m : Nat, i < (m : Int) := ⟨i.toNat + 1, by omega⟩
theorem reduce_i {g : Gr} (hg : GOk g) {q : Nat} (hq : q < N g) {d : List Int} {D : Nat → Int} (hd : vec (N g) d D) (hD : Bd (N g) 1000 D) : ∃ x y O S, impl_reduce g d (q : Int) = some (x, y) ∧ Rdd g q D x y O S := by
  have hn := gN hg
  obtain ⟨t, hP⟩ := pay_ex hg hq hD
  have h0 := P1.start hP hd
  obtain ⟨m, hm⟩ := bound_nat _ h0.msr
  have hr1 : (decide (0 ≤ g.1) && decide (g.1 ≤ (room : Int))) = true := by rw [room]; simp; omega
  have hl : decide (([] : List Int).length + d.length ≤ room) = true := decide_eq_true (by rw [hd.1, room]; simp only [List.length_nil]; omega)
  obtain ⟨x1, y1, O1, S1, a1, a2, a3⟩ := impl_pay hg hq hD hP m d _ _ _ hm h0
  obtain ⟨a4, a5⟩ := a2.two hP a3
  obtain ⟨x2, y2, O2, S2, b1, b2, b3⟩ := impl_sets hg hq hD a4 (137857934910001) x1 y1 O1 S1 (by
    have : sm (N g) (fun w => S1 w - S1 w) = 0 := by
      have e : sm (N g) (fun w => S1 w - S1 w) = sm (N g) (fun _ => 0) := sm_congr fun w _ => by omega
      rw [e, sm_zero]
    omega) a5
  refine ⟨x2, y2, O2, S2, ?_, b2.rdd hg hq hD a4 b3⟩
  rw [impl_reduce_eq, impl_copyInts_eq, hl, cond_true, Option.bind_some, hr1, cond_true, List.nil_append]
  exact a1.trans b1
end Go.Proofs.YtgncajnfphlgeaaGreatDoor.D

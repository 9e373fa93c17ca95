/-
  Chips on a graph: both programs reduce a divisor alike.
-/
import Derived.Test.YtafgbjhojkgbjaaGreatDoorPureMs
namespace Go.Proofs.YtafgbjhojkgbjaaGreatDoor.D
open Go Go.Den
set_option linter.unusedVariables false
set_option linter.unusedSimpArgs false
def ends (e : Nat × Nat) (v : Nat) : Int := if v = e.1 then 1 else if v = e.2 then 1 else 0
/-- how many edges end at a vertex -/
def val (E : Es) (v : Nat) : Int := match E with
  | [] => 0
  | e :: r => ends e v + val r v
theorem val_cons (e : Nat × Nat) (E : Es) (v : Nat) : val (e :: E) v = ends e v + val E v := rfl
theorem ends_bd (e : Nat × Nat) (v : Nat) : 0 ≤ ends e v ∧ ends e v ≤ 1 := by
  unfold ends
  split
  · omega
  · split <;> omega
theorem val_bd (v : Nat) : ∀ E : Es, 0 ≤ val E v ∧ val E v ≤ (E.length : Int)
  | [] => ⟨Int.le_refl _, Int.le_refl _⟩
  | e :: E => by
    have := val_bd v E
    have := ends_bd e v
    rw [val_cons, List.length_cons]
    omega
theorem val_take {E : Es} {k : Nat} (h : k < E.length) (v : Nat) : val (E.take (k + 1)) v = val (E.take k) v + ends (E.getD k (0, 0)) v := by
  have : ∀ (A : Es) (e : Nat × Nat), val (A ++ [e]) v = val A v + ends e v := fun A e => by
    induction A with
    | nil => rw [List.nil_append, val_cons]; simp [val]
    | cons x A ih => rw [List.cons_append, val_cons, val_cons, ih]; omega
  rw [List.take_add_one, List.getElem?_eq_getElem h, getD_lt h]
  exact this _ _
theorem impl_val_p {g : Gr} (hg : GOk g) {v : Nat} (hv : v < N g) : impl_Valence g (v : Int) = some (val (Eg g) v) := by
  obtain ⟨gE1, gE2, gE3⟩ := gE hg
  have hn := gN hg
  rw [impl_Valence_eq, decide_eq_false (by omega), decide_eq_false (by omega), cond_false, cond_false]
  have := upFold (n := g.2.length) (f := fun s i => impl_Valence_l0 (v : Int) s g.2 (g.2.length : Int) i) (g := fun k s => val ((Eg g).take (k + 1)) v) (fun k s => s = val ((Eg g).take k) v) (fun k s hk hs => ⟨by
    obtain ⟨x, y, q1, q2, q3, q4⟩ := gEk hg hk
    subst hs
    have bd := val_bd v ((Eg g).take k)
    have ln : ((Eg g).take k).length ≤ 12 := by rw [List.length_take]; omega
    rw [impl_Valence_l0_eq, dec_lt_t hk, inside_lt hk, toNat_n, q1, w64_succ hk (by omega), val_take (by omega), q2]
    simp only [cond_true]
    unfold ends
    by_cases c1 : v = x
    · rw [beq_t (show (x : Int) = (v : Int) by omega), cond_true, if_pos c1, w64_id (by omega) (by omega)]
    · rw [beq_f (show ¬ (x : Int) = (v : Int) by omega), cond_false, if_neg c1]
      by_cases c2 : v = y
      · rw [beq_t (show (y : Int) = (v : Int) by omega), cond_true, if_pos c2, w64_id (by omega) (by omega)]
      · rw [beq_f (show ¬ (y : Int) = (v : Int) by omega), cond_false, if_neg c2, Int.add_zero], rfl⟩) (s := 0) (by simp [val])
  refine this.1.trans ?_
  rw [this.2, impl_Valence_l0_eq, dec_lt_f, cond_false, ← gE3, List.take_length]
theorem lap_one (v : Nat) : ∀ E : Es, (∀ e ∈ E, e.1 < e.2) → lap E (one v) v = val E v
  | [], _ => rfl
  | e :: E, h => by
    have h1 := h e List.mem_cons_self
    rw [lap_cons, val_cons, lap_one v E fun x hx => h x (List.mem_cons_of_mem _ hx)]
    congr 1
    unfold tm ends one
    by_cases c1 : v = e.1
    · rw [if_pos c1, if_pos c1, if_pos rfl, if_neg (by omega)]; rfl
    · rw [if_neg c1, if_neg c1]
      by_cases c2 : v = e.2
      · rw [if_pos c2, if_pos c2, if_pos rfl, if_neg (by omega)]; rfl
      · rw [if_neg c2, if_neg c2]
theorem lap_le_val {n v : Nat} {u : Nat → Int} (hu : ∀ w, w < n → 0 ≤ u w) : ∀ {E : Es}, GE n E → lap E u v ≤ val E v * u v
  | [], _ => by simp [lap, val]
  | e :: E, hE => by
    have he := hE e List.mem_cons_self
    have := lap_le_val (v := v) hu hE.tail
    have u1 := hu e.1 (by omega)
    have u2 := hu e.2 he.2
    rw [lap_cons, val_cons, Int.add_mul]
    have h2 : tm u v e ≤ ends e v * u v := by
      unfold tm ends
      split
      · omega
      · split
        · omega
        · omega
    omega
theorem val_pos {g : Gr} (hg : GOk g) {v q : Nat} (hv : v < N g) (hq : q < N g) (h : v ≠ q) : 1 ≤ val (Eg g) v := by
  obtain ⟨e, he, hne⟩ := gC hg (fun w => decide (w = v)) ⟨v, hv, decide_eq_true rfl⟩ ⟨q, hq, decide_eq_false (Ne.symm h)⟩
  have key : ∀ E : Es, e ∈ E → (e.1 = v ∨ e.2 = v) → 1 ≤ val E v := fun E => by
    induction E with
    | nil => intro k; cases k
    | cons x E ih =>
      intro k hk
      have b1 := ends_bd x v
      have b2 := val_bd v E
      rw [val_cons]
      rcases List.mem_cons.1 k with k | k
      · subst k
        have : ends e v = 1 := by
          unfold ends
          rcases hk with hk | hk
          · rw [if_pos hk.symm]
          · split
            · rfl
            · rw [if_pos hk.symm]
        omega
      · have := ih k hk
        omega
  refine key _ he ?_
  by_cases c1 : e.1 = v
  · exact .inl c1
  · by_cases c2 : e.2 = v
    · exact .inr c2
    · simp [c1, c2] at hne
/-- a script by which all debts but one are paid -/
structure Pay (g : Gr) (q : Nat) (D t : Nat → Int) : Prop where
  q0 : t q = 0
  bd : ∀ v, 0 ≤ t v ∧ t v ≤ 30941000
  pay : ∀ v, v < N g → v ≠ q → 0 ≤ D v + lap (Eg g) t v
theorem pay_ex {g : Gr} (hg : GOk g) {q : Nat} (hq : q < N g) {D : Nat → Int} (hD : Bd (N g) 1000 D) : ∃ t, Pay g q D t := by
  obtain ⟨gE1, gE2, gE3⟩ := gE hg
  obtain ⟨t, h1, h2, h3⟩ := pay_one gE1 gE2 (gC hg) hq (gN hg).2.2
  refine ⟨fun v => 1000 * t v, by rw [h1]; rfl, fun v => ?_, fun v hv hne => ?_⟩
  · have := h2 v
    omega
  · have := h3 v hv hne
    have := hD v hv
    rw [lap_smul]
    omega
theorem least {g : Gr} (hg : GOk g) {q v : Nat} {D t b : Nat → Int} (hP : Pay g q D t) (hb : ∀ w, w < N g → b w ≤ t w) (hv : v < N g) (hne : v ≠ q) {k : Int} (ho : D v + lap (Eg g) b v + (k - 1) * val (Eg g) v < 0) : b v + k ≤ t v := by
  obtain ⟨gE1, gE2, gE3⟩ := gE hg
  have h1 := hP.pay v hv hne
  have h2 : lap (Eg g) t v = lap (Eg g) b v + lap (Eg g) (fun w => t w + - b w) v := by
    rw [lap_add, lap_neg]; omega
  have h3 := lap_le_val (n := N g) (v := v) (u := fun w => t w + - b w) (fun w hw => by have := hb w hw; omega) gE1
  by_cases c : b v + k ≤ t v
  · exact c
  · exfalso
    have h4 : val (Eg g) v * (t v + - b v) ≤ val (Eg g) v * (k - 1) := Int.mul_le_mul_of_nonneg_left (by omega) (val_bd v _).1
    rw [Int.mul_comm (val (Eg g) v) (k - 1)] at h4
    omega
/-- while debts are paid -/
structure P1 (g : Gr) (q : Nat) (D t : Nat → Int) (x y : List Int) (O S : Nat → Int) : Prop where
  vx : vec (N g) x O
  vy : vec (N g) y S
  out : ∀ w, w < N g → O w = D w - lap (Eg g) S w
  q0 : S q = 0
  bd : ∀ w, w < N g → - t w ≤ S w ∧ S w ≤ 0
theorem P1.msr {g : Gr} {q : Nat} {D t : Nat → Int} {x y : List Int} {O S : Nat → Int} (h : P1 g q D t x y O S) : 0 ≤ sm (N g) (fun w => t w + S w) := sm_nonneg fun w hw => by have := h.bd w hw; omega
theorem sm_drop {n v : Nat} {f : Nat → Int} {k : Int} (hv : v < n) : sm n (fun w => f w - k * one v w) = sm n f - k := by
  have : sm n (fun w => f w - k * one v w) = sm n (fun w => f w + (if w = v then -k else 0)) := sm_congr fun w _ => by
    unfold one
    split <;> omega
  rw [this, sm_add, sm_one, if_pos hv]
  omega
/-- a vertex in debt takes k chips from each edge -/
theorem P1.step {g : Gr} (hg : GOk g) {q v : Nat} {D t : Nat → Int} {x y x' : List Int} {O S : Nat → Int} (hP : Pay g q D t) (h : P1 g q D t x y O S) (hv : v < N g) (hne : v ≠ q) {k : Int} (hk : 1 ≤ k) (ho : O v + (k - 1) * val (Eg g) v < 0)
    (hx : vec (N g) x' (fun w => D w - lap (Eg g) (fun u => S u - k * one v u) w)) : P1 g q D t x' (y.set v (S v - k)) (fun w => D w - lap (Eg g) (fun u => S u - k * one v u) w) (fun u => S u - k * one v u) ∧ k ≤ t v + S v := by
  have hl := least hg (b := fun w => - S w) hP (fun w hw => by have := h.bd w hw; omega) hv hne (k := k) (by
    have := h.out v hv
    rw [lap_neg]
    omega)
  refine ⟨⟨hx, (h.vy.set hv _).congr fun w hw => ?_, fun w hw => rfl, ?_, fun w hw => ?_⟩, by omega⟩
  · unfold one
    by_cases c : w = v
    · subst c; simp
    · simp [c]
  · unfold one
    rw [if_neg (Ne.symm hne), h.q0]; omega
  · have := h.bd w hw
    unfold one
    by_cases c : w = v
    · subst c; simp only [if_pos]; omega
    · simp only [if_neg c]; omega
theorem P1.bdS {g : Gr} {q : Nat} {D t : Nat → Int} {x y : List Int} {O S : Nat → Int} (hP : Pay g q D t) (h : P1 g q D t x y O S) : Bd (N g) 30941000 S := fun w hw => by
  have := h.bd w hw
  have := hP.bd w
  omega
theorem P1.bdO {g : Gr} (hg : GOk g) {q : Nat} {D t : Nat → Int} {x y : List Int} {O S : Nat → Int} (hD : Bd (N g) 1000 D) (hP : Pay g q D t) (h : P1 g q D t x y O S) : Bd (N g) 742585000 O := fun w hw => by
  obtain ⟨gE1, gE2, gE3⟩ := gE hg
  have := lap_bd (h.bdS hP) (by omega) hw gE1 gE2
  have := hD w hw
  have := h.out w hw
  omega
def NoDebt (g : Gr) (q : Nat) (O : Nat → Int) : Prop := ∀ v, v < N g → v ≠ q → 0 ≤ O v
end Go.Proofs.YtafgbjhojkgbjaaGreatDoor.D

/-
  Chips on a graph, told plainly, with no program in sight: firing, borrowing, reduced divisors: there is but one of a class.
-/
import Derived.Test.YthhogfhffpfkdaaGreatDoorPureA
namespace Go.Den
open Go
set_option linter.unusedVariables false
set_option linter.unusedSimpArgs false
/-! ### sums -/
def sm : Nat → (Nat → Int) → Int
  | 0, _ => 0
  | n + 1, f => sm n f + f n
theorem sm_congr : ∀ {n : Nat} {f g : Nat → Int}, (∀ v, v < n → f v = g v) → sm n f = sm n g
  | 0, _, _, _ => rfl
  | n + 1, f, g, h => by
    rw [sm, sm, sm_congr fun v hv => h v (by omega), h n (by omega)]
theorem sm_add (f g : Nat → Int) : ∀ n, sm n (fun v => f v + g v) = sm n f + sm n g
  | 0 => rfl
  | n + 1 => by rw [sm, sm, sm, sm_add f g n]; omega
theorem sm_le : ∀ {n : Nat} {f g : Nat → Int}, (∀ v, v < n → f v ≤ g v) → sm n f ≤ sm n g
  | 0, _, _, _ => Int.le_refl _
  | n + 1, f, g, h => by
    have := sm_le (n := n) fun v hv => h v (by omega)
    have := h n (by omega)
    rw [sm, sm]; omega
theorem sm_zero : ∀ n, sm n (fun _ => 0) = 0
  | 0 => rfl
  | n + 1 => by rw [sm, sm_zero n]; rfl
theorem sm_nonneg {n : Nat} {f : Nat → Int} (h : ∀ v, v < n → 0 ≤ f v) : 0 ≤ sm n f := by
  have := sm_le (n := n) (f := fun _ => 0) (g := f) h
  rw [sm_zero] at this
  exact this
theorem sm_one {a : Nat} {x : Int} : ∀ n, sm n (fun v => if v = a then x else 0) = if a < n then x else 0
  | 0 => by simp [sm]
  | n + 1 => by
    rw [sm, sm_one n]
    by_cases c : a < n
    · have c2 : ¬ n = a := by omega
      have c3 : a < n + 1 := by omega
      simp only [if_pos c, if_pos c3, if_neg c2]; omega
    · by_cases c2 : n = a
      · have c3 : a < n + 1 := by omega
        simp only [if_neg c, if_pos c3, if_pos c2]; omega
      · have c3 : ¬ a < n + 1 := by omega
        simp only [if_neg c, if_neg c3, if_neg c2]; omega
theorem sm_pair {a b n : Nat} {x y : Int} (h : a ≠ b) (ha : a < n) (hb : b < n) : sm n (fun v => if v = a then x else if v = b then y else 0) = x + y := by
  have : sm n (fun v => if v = a then x else if v = b then y else 0) = sm n (fun v => (if v = a then x else 0) + (if v = b then y else 0)) := sm_congr fun v _ => by
    by_cases c : v = a
    · have c2 : ¬ v = b := fun k => h (c.symm.trans k)
      simp only [if_pos c, if_neg c2]; omega
    · simp only [if_neg c]; omega
  rw [this, sm_add, sm_one, sm_one, if_pos ha, if_pos hb]
theorem sm_mul (c : Int) (f : Nat → Int) : ∀ n, sm n (fun v => c * f v) = c * sm n f
  | 0 => by simp [sm]
  | n + 1 => by rw [sm, sm, sm_mul c f n, Int.mul_add]
theorem sm_const_le {n : Nat} {f : Nat → Int} {c : Int} (h : ∀ v, v < n → f v ≤ c) : sm n f ≤ (n : Int) * c := by
  induction n with
  | zero => simp [sm]
  | succ n ih =>
    have h1 := ih fun v hv => h v (by omega)
    have h2 := h n (by omega)
    rw [sm]
    have : ((n + 1 : Nat) : Int) * c = (n : Int) * c + c := by rw [show ((n + 1 : Nat) : Int) = (n : Int) + 1 by omega, Int.add_mul]; omega
    omega
/-- one is at most the sum of what is not negative -/
theorem sm_ge_one {f : Nat → Int} : ∀ {n : Nat}, (∀ v, v < n → 0 ≤ f v) → ∀ {a : Nat}, a < n → f a ≤ sm n f
  | 0, _, _, h => by omega
  | n + 1, h, a, ha => by
    have h0 := sm_nonneg (n := n) (f := f) fun v hv => h v (by omega)
    have hn := h n (by omega)
    rw [sm]
    by_cases c : a = n
    · subst c; omega
    · have := sm_ge_one (n := n) (fun v hv => h v (by omega)) (a := a) (by omega)
      omega

/-! ### what a script brings about -/
abbrev Es : Type := List (Nat × Nat)
def tm (f : Nat → Int) (v : Nat) (e : Nat × Nat) : Int := if v = e.1 then f v - f e.2 else if v = e.2 then f v - f e.1 else 0
def lap (E : Es) (f : Nat → Int) (v : Nat) : Int := match E with
  | [] => 0
  | e :: r => tm f v e + lap r f v
theorem lap_cons (e : Nat × Nat) (E : Es) (f : Nat → Int) (v : Nat) : lap (e :: E) f v = tm f v e + lap E f v := rfl
def GE (n : Nat) (E : Es) : Prop := ∀ e ∈ E, e.1 < e.2 ∧ e.2 < n
theorem GE.tail {n : Nat} {e : Nat × Nat} {E : Es} (h : GE n (e :: E)) : GE n E := fun x hx => h x (List.mem_cons_of_mem _ hx)
theorem lap_add (f g : Nat → Int) (v : Nat) : ∀ E : Es, lap E (fun v => f v + g v) v = lap E f v + lap E g v
  | [] => rfl
  | e :: E => by
    rw [lap_cons, lap_cons, lap_cons, lap_add f g v E]
    simp only [tm]
    split
    · omega
    · split <;> omega
theorem lap_neg (f : Nat → Int) (v : Nat) : ∀ E : Es, lap E (fun v => - f v) v = - lap E f v
  | [] => rfl
  | e :: E => by
    rw [lap_cons, lap_cons, lap_neg f v E]
    simp only [tm]
    split
    · omega
    · split <;> omega
theorem lap_congr {n : Nat} {f g : Nat → Int} {v : Nat} (hv : v < n) (h : ∀ w, w < n → f w = g w) : ∀ {E : Es}, GE n E → lap E f v = lap E g v
  | [], _ => rfl
  | e :: E, hE => by
    have he := hE e List.mem_cons_self
    have := lap_congr hv h hE.tail
    rw [lap_cons, lap_cons, this]
    unfold tm
    rw [h v hv, h e.1 (by omega), h e.2 (by omega)]
theorem lap_const {n : Nat} {f : Nat → Int} {c : Int} {v : Nat} (hv : v < n) (h : ∀ w, w < n → f w = c) : ∀ {E : Es}, GE n E → lap E f v = 0
  | [], _ => rfl
  | e :: E, hE => by
    have he := hE e List.mem_cons_self
    have := lap_const hv h hE.tail
    rw [lap_cons, this]
    unfold tm
    rw [h v hv, h e.1 (by omega), h e.2 (by omega)]
    split
    · omega
    · split <;> omega
/-- both ways alike -/
theorem lap_symm {n : Nat} (t f : Nat → Int) : ∀ {E : Es}, GE n E → sm n (fun v => t v * lap E f v) = sm n (fun v => f v * lap E t v)
  | [], _ => sm_congr fun v _ => by simp [lap]
  | e :: E, hE => by
    obtain ⟨h1, h2⟩ := hE e List.mem_cons_self
    have ih := lap_symm t f hE.tail
    have key : ∀ a b : Nat → Int, sm n (fun v => a v * lap (e :: E) b v) = (a e.1 * (b e.1 - b e.2) + a e.2 * (b e.2 - b e.1)) + sm n (fun v => a v * lap E b v) := fun a b => by
      rw [← sm_pair (a := e.1) (b := e.2) (n := n) (x := a e.1 * (b e.1 - b e.2)) (y := a e.2 * (b e.2 - b e.1)) (by omega) (by omega) h2, ← sm_add]
      refine sm_congr fun v _ => ?_
      rw [lap_cons, Int.mul_add]
      congr 1
      unfold tm
      by_cases c : v = e.1
      · rw [if_pos c, if_pos c, c]
      · rw [if_neg c, if_neg c]
        by_cases c : v = e.2
        · rw [if_pos c, if_pos c, c]
        · rw [if_neg c, if_neg c, Int.mul_zero]
    rw [key, key, ih]
    congr 1
    simp only [Int.mul_sub]
    rw [Int.mul_comm (f e.1) (t e.1), Int.mul_comm (f e.1) (t e.2), Int.mul_comm (f e.2) (t e.1), Int.mul_comm (f e.2) (t e.2)]
    omega
/-- how many edges lead from a vertex out of a set -/
def outd (E : Es) (A : Nat → Bool) (v : Nat) : Int := match E with
  | [] => 0
  | e :: r => (if v = e.1 then cond (A e.2) 0 1 else if v = e.2 then cond (A e.1) 0 1 else 0) + outd r A v
def ind (A : Nat → Bool) (v : Nat) : Int := cond (A v) 1 0
theorem outd_cons (e : Nat × Nat) (E : Es) (A : Nat → Bool) (v : Nat) : outd (e :: E) A v = (if v = e.1 then cond (A e.2) 0 1 else if v = e.2 then cond (A e.1) 0 1 else 0) + outd E A v := rfl
theorem lap_ind_in {A : Nat → Bool} {v : Nat} (h : A v = true) : ∀ E : Es, lap E (ind A) v = outd E A v
  | [] => rfl
  | e :: E => by
    rw [lap_cons, lap_ind_in h E, outd_cons]
    congr 1
    unfold tm ind
    rw [h]
    by_cases c1 : v = e.1
    · rw [if_pos c1, if_pos c1]; cases A e.2 <;> rfl
    · rw [if_neg c1, if_neg c1]
      by_cases c2 : v = e.2
      · rw [if_pos c2, if_pos c2]; cases A e.1 <;> rfl
      · rw [if_neg c2, if_neg c2]
theorem lap_ind_out {A : Nat → Bool} {v : Nat} (h : A v = false) : ∀ E : Es, lap E (ind A) v ≤ 0
  | [] => Int.le_refl _
  | e :: E => by
    have := lap_ind_out h E
    have h2 : tm (ind A) v e ≤ 0 := by
      unfold tm ind
      rw [h]
      by_cases c1 : v = e.1
      · rw [if_pos c1]; cases A e.2 <;> decide
      · rw [if_neg c1]
        by_cases c2 : v = e.2
        · rw [if_pos c2]; cases A e.1 <;> decide
        · rw [if_neg c2]; decide
    rw [lap_cons]
    omega
theorem outd_nonneg (A : Nat → Bool) (v : Nat) : ∀ E : Es, 0 ≤ outd E A v
  | [] => Int.le_refl _
  | e :: E => by
    have := outd_nonneg A v E
    have h2 : (0 : Int) ≤ (if v = e.1 then cond (A e.2) 0 1 else if v = e.2 then cond (A e.1) 0 1 else 0) := by
      by_cases c1 : v = e.1
      · rw [if_pos c1]; cases A e.2 <;> decide
      · rw [if_neg c1]
        by_cases c2 : v = e.2
        · rw [if_pos c2]; cases A e.1 <;> decide
        · rw [if_neg c2]; decide
    unfold outd
    omega
theorem outd_mono {A B : Nat → Bool} {v n : Nat} (h : ∀ w, w < n → A w = true → B w = true) : ∀ {E : Es}, GE n E → outd E B v ≤ outd E A v
  | [], _ => Int.le_refl _
  | e :: E, hE => by
    obtain ⟨h1, h2⟩ := hE e List.mem_cons_self
    have := outd_mono (v := v) h hE.tail
    have k1 : (cond (B e.1) 0 1 : Int) ≤ cond (A e.1) 0 1 := by
      cases ha : A e.1 with
      | true => rw [h e.1 (by omega) ha]; decide
      | false => cases B e.1 <;> decide
    have k2 : (cond (B e.2) 0 1 : Int) ≤ cond (A e.2) 0 1 := by
      cases ha : A e.2 with
      | true => rw [h e.2 h2 ha]; decide
      | false => cases B e.2 <;> decide
    unfold outd
    by_cases c1 : v = e.1
    · rw [if_pos c1, if_pos c1]; omega
    · rw [if_neg c1, if_neg c1]
      by_cases c2 : v = e.2
      · rw [if_pos c2, if_pos c2]; omega
      · rw [if_neg c2, if_neg c2]; omega
/-- reduced at q -/
structure Red (n : Nat) (E : Es) (q : Nat) (d : Nat → Int) : Prop where
  pos : ∀ v, v < n → v ≠ q → 0 ≤ d v
  no : ∀ A : Nat → Bool, (∃ v, v < n ∧ A v = true) → A q = false → ∃ v, v < n ∧ A v = true ∧ d v < outd E A v
theorem lap_top {n : Nat} {s : Nat → Int} {M : Int} {A : Nat → Bool} {v : Nat} (hv : v < n) (hA : ∀ w, w < n → (A w = true ↔ s w = M)) (hM : ∀ w, w < n → s w ≤ M) (h : A v = true) : ∀ {E : Es}, GE n E → outd E A v ≤ lap E s v
  | [], _ => Int.le_refl _
  | e :: E, hE => by
    obtain ⟨h1, h2⟩ := hE e List.mem_cons_self
    have := lap_top hv hA hM h hE.tail
    have e0 := (hA v hv).1 h
    have a1 := hA e.1 (by omega)
    have a2 := hA e.2 h2
    have m1 := hM e.1 (by omega)
    have m2 := hM e.2 h2
    rw [lap_cons]
    unfold outd tm
    split
    · cases hb : A e.2 with
      | true => have := a2.1 hb; simp only [cond_true]; omega
      | false =>
        have : s e.2 ≠ M := fun k => by have := a2.2 k; rw [hb] at this; cases this
        simp only [cond_false]; omega
    · split
      · cases hb : A e.1 with
        | true => have := a1.1 hb; simp only [cond_true]; omega
        | false =>
          have : s e.1 ≠ M := fun k => by have := a1.2 k; rw [hb] at this; cases this
          simp only [cond_false]; omega
      · omega
theorem max_of (s : Nat → Int) : ∀ n, 0 < n → ∃ M, (∀ w, w < n → s w ≤ M) ∧ ∃ w, w < n ∧ s w = M
  | 0, h => by omega
  | 1, _ => ⟨s 0, fun w hw => by have : w = 0 := by omega
                                 subst this; exact Int.le_refl _, 0, by omega, rfl⟩
  | n + 2, _ => by
    obtain ⟨M, h1, w, h2, h3⟩ := max_of s (n + 1) (by omega)
    by_cases c : s (n + 1) ≤ M
    · exact ⟨M, fun v hv => by
        by_cases k : v = n + 1
        · subst k; exact c
        · exact h1 v (by omega), w, by omega, h3⟩
    · exact ⟨s (n + 1), fun v hv => by
        by_cases k : v = n + 1
        · subst k; exact Int.le_refl _
        · have := h1 v (by omega); omega, n + 1, by omega, rfl⟩
theorem Red.half {n q : Nat} {E : Es} {d d' s : Nat → Int} (hE : GE n E) (hq : q < n) (h : Red n E q d) (h' : ∀ v, v < n → v ≠ q → 0 ≤ d' v) (hs : ∀ v, v < n → d' v = d v - lap E s v) : ∀ v, v < n → s v ≤ s q := by
  obtain ⟨M, h1, w, h2, h3⟩ := max_of s n (by omega)
  intro v hv
  by_cases c : s q = M
  · rw [c]; exact h1 v hv
  · exfalso
    obtain ⟨x, x1, x2, x3⟩ := h.no (fun w => decide (w < n ∧ s w = M)) ⟨w, h2, decide_eq_true ⟨h2, h3⟩⟩ (decide_eq_false fun k => c k.2)
    have hx := of_decide_eq_true x2
    have hne : x ≠ q := fun k => c (k ▸ hx.2)
    have := lap_top (A := fun w => decide (w < n ∧ s w = M)) x1 (fun w hw => ⟨fun k => (of_decide_eq_true k).2, fun k => decide_eq_true ⟨hw, k⟩⟩) h1 x2 hE
    have := h' x x1 hne
    have := hs x x1
    omega
/-- one reduced divisor in a class, one script to it -/
theorem Red.uniq {n q : Nat} {E : Es} {d d' s : Nat → Int} (hE : GE n E) (hq : q < n) (h : Red n E q d) (h' : Red n E q d') (hs : ∀ v, v < n → d' v = d v - lap E s v) : ∀ v, v < n → s v = s q ∧ d' v = d v := by
  have h1 := Red.half hE hq h h'.pos hs
  have h2 := Red.half (s := fun v => - s v) hE hq h' h.pos fun v hv => by
    have := hs v hv
    rw [lap_neg]; omega
  have h3 : ∀ v, v < n → s v = s q := fun v hv => by
    have := h1 v hv
    have := h2 v hv
    omega
  intro v hv
  have := hs v hv
  rw [lap_const hv h3 hE] at this
  exact ⟨h3 v hv, by omega⟩

/-! ### a script that pays all debts -/
def Cr (n : Nat) (E : Es) : Prop := ∀ S : Nat → Bool, (∃ v, v < n ∧ S v = true) → (∃ v, v < n ∧ S v = false) → ∃ e, e ∈ E ∧ S e.1 ≠ S e.2
def Nb (E : Es) (pos : Nat → Nat) (L : List Nat) (v : Nat) : Prop := ∃ e, e ∈ E ∧ ((e.1 = v ∧ e.2 ∈ L ∧ pos e.2 < pos v) ∨ (e.2 = v ∧ e.1 ∈ L ∧ pos e.1 < pos v))
def pset (pos : Nat → Nat) (x k : Nat) (v : Nat) : Nat := if v = x then k else pos v
theorem pset_eq {pos : Nat → Nat} {x k : Nat} : pset pos x k x = k := if_pos rfl
theorem pset_ne {pos : Nat → Nat} {x k v : Nat} (h : v ≠ x) : pset pos x k v = pos v := if_neg h
theorem grow {n q : Nat} {E : Es} (hE : GE n E) (hC : Cr n E) (hq : q < n) : ∀ k, k < n → ∃ (L : List Nat) (pos : Nat → Nat), L.length = k + 1 ∧ L.Nodup ∧ q ∈ L ∧ pos q = 0 ∧ ∀ v ∈ L, v < n ∧ pos v ≤ k ∧ (v ≠ q → 1 ≤ pos v ∧ Nb E pos L v)
  | 0, _ => ⟨[q], fun _ => 0, rfl, by simp, by simp, rfl, fun v hv => by
      rw [List.mem_singleton] at hv
      subst hv
      exact ⟨hq, Nat.le_refl _, fun k => absurd rfl k⟩⟩
  | k + 1, hk => by
    obtain ⟨L, pos, h1, h2, h3, h4, h5⟩ := grow hE hC hq k (by omega)
    have hex : ∃ v, v < n ∧ v ∉ L := by
      by_cases c : ∃ v, v < n ∧ v ∉ L
      · exact c
      · exfalso
        have := nodup_len (l := List.range n) (m := L) List.nodup_range fun x hx => by
          by_cases g : x ∈ L
          · exact g
          · exact absurd ⟨x, List.mem_range.1 hx, g⟩ c
        rw [List.length_range] at this
        omega
    obtain ⟨y, y1, y2⟩ := hex
    obtain ⟨e, he, hne⟩ := hC (fun v => decide (v ∈ L)) ⟨q, hq, decide_eq_true h3⟩ ⟨y, y1, decide_eq_false y2⟩
    obtain ⟨g1, g2⟩ := hE e he
    have hx : ∃ x u, x ∉ L ∧ u ∈ L ∧ x < n ∧ ((e.1 = x ∧ e.2 = u) ∨ (e.2 = x ∧ e.1 = u)) := by
      by_cases c1 : e.1 ∈ L
      · by_cases c2 : e.2 ∈ L
        · simp [c1, c2] at hne
        · exact ⟨e.2, e.1, c2, c1, g2, .inr ⟨rfl, rfl⟩⟩
      · by_cases c2 : e.2 ∈ L
        · exact ⟨e.1, e.2, c1, c2, by omega, .inl ⟨rfl, rfl⟩⟩
        · simp [c1, c2] at hne
    obtain ⟨x, u, hx, hu, hxn, hxe⟩ := hx
    have hne' : ∀ v ∈ L, v ≠ x := fun v hv c => hx (c ▸ hv)
    refine ⟨x :: L, pset pos x (k + 1), by simp [h1], List.nodup_cons.2 ⟨hx, h2⟩, List.mem_cons_of_mem _ h3, by rw [pset_ne (hne' q h3)]; exact h4, fun v hv => ?_⟩
    rcases List.mem_cons.1 hv with c | hv'
    · subst c
      refine ⟨hxn, by rw [pset_eq]; exact Nat.le_refl _, fun _ => ⟨by rw [pset_eq]; omega, e, he, ?_⟩⟩
      have hu5 := (h5 u hu).2.1
      rcases hxe with ⟨q1, q2⟩ | ⟨q1, q2⟩
      · exact .inl ⟨q1, q2 ▸ List.mem_cons_of_mem _ hu, by rw [pset_eq, q2, pset_ne (hne' u hu)]; omega⟩
      · exact .inr ⟨q1, q2 ▸ List.mem_cons_of_mem _ hu, by rw [pset_eq, q2, pset_ne (hne' u hu)]; omega⟩
    · obtain ⟨p1, p2, p3⟩ := h5 v hv'
      refine ⟨p1, by rw [pset_ne (hne' v hv')]; omega, fun c => ?_⟩
      obtain ⟨p4, e', p5, p6⟩ := p3 c
      refine ⟨by rw [pset_ne (hne' v hv')]; exact p4, e', p5, ?_⟩
      rcases p6 with ⟨r1, r2, r3⟩ | ⟨r1, r2, r3⟩
      · exact .inl ⟨r1, List.mem_cons_of_mem _ r2, by rw [pset_ne (hne' v hv'), pset_ne (hne' _ r2)]; exact r3⟩
      · exact .inr ⟨r1, List.mem_cons_of_mem _ r2, by rw [pset_ne (hne' v hv'), pset_ne (hne' _ r2)]; exact r3⟩
def stair : Nat → Int
  | 0 => 0
  | 1 => 28561
  | 2 => 30758
  | 3 => 30927
  | 4 => 30940
  | _ => 30941
theorem stair_bd (i : Nat) : 0 ≤ stair i ∧ stair i ≤ 30941 := by
  match i with
  | 0 => exact ⟨by decide, by decide⟩
  | 1 => exact ⟨by decide, by decide⟩
  | 2 => exact ⟨by decide, by decide⟩
  | 3 => exact ⟨by decide, by decide⟩
  | 4 => exact ⟨by decide, by decide⟩
  | j + 5 =>
    have : stair (j + 5) = 30941 := rfl
    omega
theorem stair_mono {i j : Nat} (h : i ≤ j) (hj : j ≤ 5) : stair i ≤ stair j := by
  have h1 : ∀ a : Fin 6, ∀ b : Fin 6, a ≤ b → stair a.1 ≤ stair b.1 := by decide
  exact h1 ⟨i, by omega⟩ ⟨j, by omega⟩ h
theorem stair_step {i j : Nat} (h : i < j) (hj : j ≤ 5) : 12 * (30941 - stair j) + 1 ≤ stair j - stair i := by
  have h1 : ∀ a : Fin 6, ∀ b : Fin 6, a < b → 12 * (30941 - stair b.1) + 1 ≤ stair b.1 - stair a.1 := by decide
  exact h1 ⟨i, by omega⟩ ⟨j, by omega⟩ h
theorem lap_ge {f : Nat → Int} {v : Nat} {R : Int} (hR : 0 ≤ R) : ∀ {E : Es}, (∀ e ∈ E, -R ≤ tm f v e) → - (E.length : Int) * R ≤ lap E f v
  | [], _ => by simp [lap]
  | e :: E, h => by
    have h1 := h e List.mem_cons_self
    have h2 := lap_ge hR (E := E) fun x hx => h x (List.mem_cons_of_mem _ hx)
    rw [lap_cons]
    have : -((e :: E).length : Int) * R = -(E.length : Int) * R - R := by
      rw [List.length_cons, show -((E.length + 1 : Nat) : Int) = -(E.length : Int) - 1 by omega, Int.sub_mul]; omega
    omega
theorem lap_ge1 {f : Nat → Int} {v : Nat} {R c : Int} (hR : 0 ≤ R) : ∀ {E : Es}, (∀ e ∈ E, -R ≤ tm f v e) → (∃ e, e ∈ E ∧ c ≤ tm f v e) → c - (E.length : Int) * R ≤ lap E f v
  | [], _, h => by
    obtain ⟨e, he, _⟩ := h
    cases he
  | e :: E, h, hx => by
    obtain ⟨x, hx, hc⟩ := hx
    have h1 := h e List.mem_cons_self
    have e1 : ((e :: E).length : Int) * R = (E.length : Int) * R + R := by
      rw [List.length_cons, show ((E.length + 1 : Nat) : Int) = (E.length : Int) + 1 by omega, Int.add_mul]; omega
    have e2 : -(E.length : Int) * R = -((E.length : Int) * R) := by rw [Int.neg_mul]
    rw [lap_cons]
    rcases List.mem_cons.1 hx with k | k
    · subst k
      have h2 := lap_ge hR (E := E) fun y hy => h y (List.mem_cons_of_mem _ hy)
      omega
    · have h2 := lap_ge1 hR (E := E) (c := c) (fun y hy => h y (List.mem_cons_of_mem _ hy)) ⟨x, k, hc⟩
      omega
/-- a script that brings at least one chip to all but one -/
theorem pay_one {n q : Nat} {E : Es} (hE : GE n E) (hl : E.length ≤ 12) (hC : Cr n E) (hq : q < n) (hn : n ≤ 6) : ∃ t : Nat → Int, t q = 0 ∧ (∀ v, 0 ≤ t v ∧ t v ≤ 30941) ∧ ∀ v, v < n → v ≠ q → 1 ≤ lap E t v := by
  obtain ⟨L, pos, h1, h2, h3, h4, h5⟩ := grow hE hC hq (n - 1) (by omega)
  have hall : ∀ v, v < n → v ∈ L := fun v hv => by
    by_cases c : v ∈ L
    · exact c
    · exfalso
      have := nodup_len (l := v :: L) (m := List.range n) (List.nodup_cons.2 ⟨c, h2⟩) fun x hx => by
        rcases List.mem_cons.1 hx with k | k
        · subst k; exact List.mem_range.2 hv
        · exact List.mem_range.2 (h5 x k).1
      rw [List.length_range, List.length_cons] at this
      omega
  refine ⟨fun v => stair (pos v), by simp only [h4]; rfl, fun v => stair_bd _, fun v hv hne => ?_⟩
  have hp := h5 v (hall v hv)
  obtain ⟨p1, e0, p2, p3⟩ := hp.2.2 hne
  have bv := stair_bd (pos v)
  have key : ∀ e ∈ E, -(30941 - stair (pos v)) ≤ tm (fun v => stair (pos v)) v e := fun e he => by
    have b1 := stair_bd (pos e.1)
    have b2 := stair_bd (pos e.2)
    simp only [tm]
    split
    · omega
    · split <;> omega
  have h6 : ∃ u, u < pos v ∧ stair (pos v) - stair u ≤ tm (fun v => stair (pos v)) v e0 := by
    obtain ⟨g1, g2⟩ := hE e0 p2
    rcases p3 with ⟨r1, r2, r3⟩ | ⟨r1, r2, r3⟩
    · exact ⟨pos e0.2, r3, by simp only [tm, if_pos r1.symm]; omega⟩
    · exact ⟨pos e0.1, r3, by simp only [tm, if_neg (show ¬ v = e0.1 by omega), if_pos r1.symm]; omega⟩
  obtain ⟨u, u1, u2⟩ := h6
  have st := stair_step u1 (by omega)
  have := lap_ge1 (R := 30941 - stair (pos v)) (c := stair (pos v) - stair u) (by omega) key ⟨e0, p2, u2⟩
  have hm : (E.length : Int) * (30941 - stair (pos v)) ≤ 12 * (30941 - stair (pos v)) := Int.mul_le_mul_of_nonneg_right (by omega) (by omega)
  omega
end Go.Den

/-
  Chips on a graph: rows of numbers as functions; firing and looking for debts, by both programs.
-/
import Derived.Test.YthhogfhffpfkdaaGreatDoorPureF
import Derived.Test.YthhogfhffpfkdaaGreatDoorPureK
namespace Go.Proofs.YthhogfhffpfkdaaGreatDoor.D
open Go Go.Den
set_option linter.unusedVariables false
set_option linter.unusedSimpArgs false
theorem toNat_n (k : Nat) : ((k : Int)).toNat = k := by omega
def N (g : Gr) : Nat := g.1.toNat
def nE (e : Int × Int) : Nat × Nat := (e.1.toNat, e.2.toNat)
def Eg (g : Gr) : Es := g.2.map nE
theorem gN {g : Gr} (h : GOk g) : (N g : Int) = g.1 ∧ 1 ≤ N g ∧ N g ≤ 6 := by
  obtain ⟨⟨h1, _, _⟩, _⟩ := h
  unfold N
  omega
theorem gE {g : Gr} (h : GOk g) : GE (N g) (Eg g) ∧ (Eg g).length ≤ 12 ∧ (Eg g).length = g.2.length := by
  have hn := gN h
  obtain ⟨⟨h1, h2, h3⟩, _⟩ := h
  refine ⟨fun e he => ?_, by unfold Eg; rw [List.length_map]; exact h2, by unfold Eg; rw [List.length_map]⟩
  obtain ⟨x, hx, rfl⟩ := List.mem_map.1 he
  obtain ⟨i, hi, rfl⟩ := List.mem_iff_getElem.1 hx
  have := h3 i hi
  rw [getD_lt hi] at this
  unfold EdOk at this
  unfold nE
  simp only
  omega
/-- the k-th edge -/
theorem gEk {g : Gr} (h : GOk g) {k : Nat} (hk : k < g.2.length) : ∃ a b : Nat, g.2.getD k (0, 0) = ((a : Int), (b : Int)) ∧ (Eg g).getD k (0, 0) = (a, b) ∧ a < b ∧ b < N g := by
  have hn := gN h
  obtain ⟨⟨h1, h2, h3⟩, _⟩ := h
  have he := h3 k hk
  unfold EdOk at he
  refine ⟨(g.2.getD k (0, 0)).1.toNat, (g.2.getD k (0, 0)).2.toNat, ?_, ?_, by omega, by omega⟩
  · refine Prod.ext ?_ ?_
    · simp only; omega
    · simp only; omega
  · unfold Eg
    rw [List.getD_eq_getElem?_getD, List.getElem?_map, List.getElem?_eq_getElem hk, getD_lt hk]
    rfl
theorem gC {g : Gr} (h : GOk g) : Cr (N g) (Eg g) := by
  have hn := gN h
  intro S h1 h2
  by_cases c : ∃ e, e ∈ Eg g ∧ S e.1 ≠ S e.2
  · exact c
  · exfalso
    have hs : ∀ k, k < g.2.length → S (g.2.getD k (0, 0)).1.toNat = S (g.2.getD k (0, 0)).2.toNat := fun k hk => by
      obtain ⟨a, b, q1, q2, _⟩ := gEk h hk
      by_cases c2 : S a = S b
      · rw [q1]; simp only [toNat_n]; exact c2
      · refine absurd ⟨(a, b), ?_, c2⟩ c
        rw [← q2]
        exact getD_mem (0, 0) (by rw [(gE h).2.2]; exact hk)
    have hall : ∀ v : Int, Conn g.2 v → S v.toNat = S 0 := fun v hv => by
      induction hv with
      | zero => rfl
      | fwd hj _ ih => rw [← hs _ hj]; exact ih
      | bwd hj _ ih => rw [hs _ hj]; exact ih
    have hev : ∀ v, v < N g → S v = S 0 := fun v hv => by
      have := hall (v : Int) (h.2.2 v (by omega) (by omega))
      rw [toNat_n] at this
      exact this
    obtain ⟨a, a1, a2⟩ := h1
    obtain ⟨b, b1, b2⟩ := h2
    rw [hev a a1] at a2
    rw [hev b b1, a2] at b2
    cases b2
/-- a row of numbers is a function -/
def vec (n : Nat) (d : List Int) (f : Nat → Int) : Prop := d.length = n ∧ ∀ w, w < n → d.getD w 0 = f w
theorem vec.eq {n : Nat} {d d' : List Int} {f f' : Nat → Int} (h : vec n d f) (h' : vec n d' f') (hf : ∀ w, w < n → f w = f' w) : d = d' :=
  ext_getD (d := 0) (h.1.trans h'.1.symm) fun j hj => by
    have hj' : j < n := by rw [← h.1]; exact hj
    rw [h.2 j hj', h'.2 j hj', hf j hj']
theorem vec.self (d : List Int) : vec d.length d (fun w => d.getD w 0) := ⟨rfl, fun _ _ => rfl⟩
theorem vec.congr {n : Nat} {d : List Int} {f f' : Nat → Int} (h : vec n d f) (hf : ∀ w, w < n → f w = f' w) : vec n d f' := ⟨h.1, fun w hw => (h.2 w hw).trans (hf w hw)⟩
theorem getD_set {d : List Int} {a w : Nat} {x : Int} (ha : a < d.length) : (d.set a x).getD w 0 = if w = a then x else d.getD w 0 := by
  by_cases c : w = a
  · subst c
    rw [if_pos rfl, List.getD_eq_getElem?_getD, List.getElem?_set_self ha]; rfl
  · rw [if_neg c, List.getD_eq_getElem?_getD, List.getElem?_set_ne (fun k => c k.symm), ← List.getD_eq_getElem?_getD]
theorem vec.set {n : Nat} {d : List Int} {f : Nat → Int} (h : vec n d f) {a : Nat} (ha : a < n) (x : Int) : vec n (d.set a x) (fun w => if w = a then x else f w) := by
  refine ⟨by rw [List.length_set]; exact h.1, fun w hw => ?_⟩
  rw [getD_set (by rw [h.1]; exact ha), h.2 w hw]
theorem vec.zero (n : Nat) : vec n (List.replicate n 0) (fun _ => 0) := ⟨by simp, fun w hw => by
  rw [List.getD_eq_getElem?_getD, List.getElem?_replicate]; simp [hw]⟩
/-- small enough for the machine's numbers -/
def Bd (n : Nat) (B : Int) (f : Nat → Int) : Prop := ∀ w, w < n → -B ≤ f w ∧ f w ≤ B
theorem lap_take {E : Es} {k : Nat} (h : k < E.length) (f : Nat → Int) (w : Nat) : lap (E.take (k + 1)) f w = lap (E.take k) f w + tm f w (E.getD k (0, 0)) := by
  have : ∀ (A : Es) (e : Nat × Nat), lap (A ++ [e]) f w = lap A f w + tm f w e := fun A e => by
    induction A with
    | nil => rw [List.nil_append, lap_cons]; simp [lap]
    | cons a A ih => rw [List.cons_append, lap_cons, lap_cons, ih]; omega
  rw [List.take_add_one, List.getElem?_eq_getElem h, getD_lt h]
  exact this _ _
theorem tm_bd {n : Nat} {f : Nat → Int} {T : Int} (hT : Bd n T f) {w : Nat} (hw : w < n) {e : Nat × Nat} (h1 : e.1 < n) (h2 : e.2 < n) : -(2 * T) ≤ tm f w e ∧ tm f w e ≤ 2 * T := by
  have a1 := hT w hw
  have a2 := hT e.1 h1
  have a3 := hT e.2 h2
  unfold tm
  split
  · omega
  · split <;> omega
theorem lap_bd {n : Nat} {f : Nat → Int} {T : Int} (hT : Bd n T f) (h0 : 0 ≤ T) {w : Nat} (hw : w < n) : ∀ {E : Es}, GE n E → E.length ≤ 12 → -(24 * T) ≤ lap E f w ∧ lap E f w ≤ 24 * T := by
  have key : ∀ E : Es, GE n E → -((E.length : Int) * (2 * T)) ≤ lap E f w ∧ lap E f w ≤ (E.length : Int) * (2 * T) := by
    intro E
    induction E with
    | nil => intro _; simp [lap]
    | cons e E ih =>
      intro hE
      obtain ⟨g1, g2⟩ := hE e List.mem_cons_self
      have := ih hE.tail
      have := tm_bd hT hw (e := e) (by omega) g2
      rw [lap_cons]
      have e1 : (((e :: E).length : Nat) : Int) * (2 * T) = (E.length : Int) * (2 * T) + 2 * T := by
        rw [List.length_cons, show ((E.length + 1 : Nat) : Int) = (E.length : Int) + 1 by omega, Int.add_mul]; omega
      omega
  intro E hE hl
  have := key E hE
  have hm : (E.length : Int) * (2 * T) ≤ 12 * (2 * T) := Int.mul_le_mul_of_nonneg_right (by omega) (by omega)
  omega
theorem GE.take {n : Nat} {E : Es} (h : GE n E) (k : Nat) : GE n (E.take k) := fun e he => h e (List.mem_of_mem_take he)
/-- two places of a row turned by an edge -/
theorem vec.edge {n : Nat} {d : List Int} {x f : Nat → Int} (h : vec n d x) {a b : Nat} (hab : a < b) (hb : b < n) : vec n ((d.set a (x a - tm f a (a, b))).set b (x b - tm f b (a, b))) (fun w => x w - tm f w (a, b)) := by
  refine (vec.set (vec.set h (by omega) _) hb _).congr fun w hw => ?_
  by_cases c : w = b
  · subst c; rw [if_pos rfl]
  · rw [if_neg c]
    by_cases c2 : w = a
    · subst c2; rw [if_pos rfl]
    · rw [if_neg c2]
      have : tm f w (a, b) = 0 := by
        unfold tm
        rw [if_neg c2, if_neg c]
      omega
def one (v : Nat) (w : Nat) : Int := if w = v then 1 else 0
theorem lap_smul (c : Int) (f : Nat → Int) (w : Nat) : ∀ E : Es, lap E (fun v => c * f v) w = c * lap E f w
  | [] => by simp [lap]
  | e :: E => by
    rw [lap_cons, lap_cons, lap_smul c f w E, Int.mul_add]
    congr 1
    simp only [tm]
    split
    · rw [Int.mul_sub]
    · split
      · rw [Int.mul_sub]
      · simp
theorem impl_fire_p {g : Gr} (hg : GOk g) {d : List Int} {D : Nat → Int} (hd : vec (N g) d D) {v : Nat} (hv : v < N g) {t B T : Int} (hB : Bd (N g) B D) (hT : -T ≤ t ∧ t ≤ T) (hBT : B + 24 * T ≤ 4611686018427387904) :
    ∃ r, impl_fire g d (v : Int) t = some r ∧ vec (N g) r (fun w => D w - lap (Eg g) (fun u => t * one v u) w) := by
  obtain ⟨gE1, gE2, gE3⟩ := gE hg
  have hn := gN hg
  have hl : g.2.length ≤ 12 := by omega
  have hTS : Bd (N g) T (fun u => t * one v u) := fun w _ => by
    simp only [one]
    split
    · omega
    · omega
  rw [impl_fire_eq]
  have key : ∀ (m k : Nat) (x : List Int), k + m = g.2.length → vec (N g) x (fun w => D w - lap ((Eg g).take k) (fun u => t * one v u) w) → ∃ r, impl_fire_l0 x (v : Int) t g.2 (g.2.length : Int) (k : Int) = some r ∧ vec (N g) r (fun w => D w - lap (Eg g) (fun u => t * one v u) w) := by
    intro m
    induction m with
    | zero =>
      intro k x hk hx
      have : k = g.2.length := by omega
      subst this
      rw [impl_fire_l0_eq, dec_lt_f]
      refine ⟨x, rfl, ?_⟩
      rw [← gE3, List.take_length] at hx
      exact hx
    | succ m ih =>
      intro k x hk hx
      have hk' : k < g.2.length := by omega
      obtain ⟨a, b, q1, q2, q3, q4⟩ := gEk hg hk'
      have ha : a < N g := by omega
      have hbd : ∀ w, w < N g → -(B + 24 * T) ≤ D w - lap ((Eg g).take k) (fun u => t * one v u) w ∧ D w - lap ((Eg g).take k) (fun u => t * one v u) w ≤ B + 24 * T := fun w hw => by
        have := hB w hw
        have := lap_bd hTS (by omega) hw (GE.take gE1 k) (by rw [List.length_take]; omega)
        omega
      have xa := hx.2 a ha
      have xb := hx.2 b q4
      have ba := hbd a ha
      have bb := hbd b q4
      have b0 := hB a ha
      simp only at xa xb
      have hx' := (hx.edge (f := fun u => t * one v u) q3 q4).congr (f' := fun w => D w - lap ((Eg g).take (k + 1)) (fun u => t * one v u) w) fun w hw => by
        rw [lap_take (by omega), q2]; omega
      have e1 : tm (fun u => t * one v u) a (a, b) = t * one v a - t * one v b := by simp only [tm, if_pos]
      have e2 : tm (fun u => t * one v u) b (a, b) = t * one v b - t * one v a := by simp only [tm, if_neg (show ¬ b = a by omega), if_pos]
      simp only [e1, e2] at hx'
      have i1 : inside (a : Int) x.length = true := inside_lt (by rw [hx.1]; exact ha)
      have i4 : inside (b : Int) x.length = true := inside_lt (by rw [hx.1]; exact q4)
      rw [impl_fire_l0_eq, dec_lt_t hk', inside_lt hk', toNat_n, q1]
      simp only [cond_true, toNat_n, List.length_set]
      by_cases c1 : v = a
      · subst c1
        have o1 : t * one v v = t := by unfold one; rw [if_pos rfl]; omega
        have o2 : t * one v b = 0 := by unfold one; rw [if_neg (by omega)]; omega
        rw [o1, o2] at hx'
        have w1 : w64 (x.getD v 0 - t) = D v - lap ((Eg g).take k) (fun u => t * one v u) v - (t - 0) := by rw [xa, w64_id (by omega) (by omega)]; omega
        have w2 : w64 (x.getD b 0 + t) = D b - lap ((Eg g).take k) (fun u => t * one v u) b - (0 - t) := by rw [xb, w64_id (by omega) (by omega)]; omega
        have hne : (x.set v (D v - lap ((Eg g).take k) (fun u => t * one v u) v - (t - 0))).getD b 0 = x.getD b 0 := by rw [getD_set (by rw [hx.1]; exact ha), if_neg (by omega)]
        simp only [beq_self_eq_true, cond_true, i1, i4]
        rw [w1, hne, w2, w64_succ hk' (by omega)]
        exact ih (k + 1) _ (by omega) hx'
      · rw [beq_f (show ¬ (v : Int) = (a : Int) by omega), cond_false]
        by_cases c2 : v = b
        · subst c2
          have o1 : t * one v v = t := by unfold one; rw [if_pos rfl]; omega
          have o2 : t * one v a = 0 := by unfold one; rw [if_neg (by omega)]; omega
          rw [o1, o2] at hx'
          have w1 : w64 (x.getD v 0 - t) = D v - lap ((Eg g).take k) (fun u => t * one v u) v - (t - 0) := by rw [xb, w64_id (by omega) (by omega)]; omega
          have w2 : w64 (x.getD a 0 + t) = D a - lap ((Eg g).take k) (fun u => t * one v u) a - (0 - t) := by rw [xa, w64_id (by omega) (by omega)]; omega
          have hne : (x.set v (D v - lap ((Eg g).take k) (fun u => t * one v u) v - (t - 0))).getD a 0 = x.getD a 0 := by rw [getD_set (by rw [hx.1]; exact q4), if_neg (by omega)]
          simp only [beq_self_eq_true, cond_true, i1, i4]
          rw [w1, hne, w2, w64_succ hk' (by omega), ← List.set_comm _ _ (show a ≠ v by omega)]
          exact ih (k + 1) _ (by omega) hx'
        · have o1 : t * one v a = 0 := by unfold one; rw [if_neg (by omega)]; omega
          have o2 : t * one v b = 0 := by unfold one; rw [if_neg (by omega)]; omega
          rw [beq_f (show ¬ (v : Int) = (b : Int) by omega), cond_false, w64_succ hk' (by omega)]
          refine ih (k + 1) x (by omega) (hx.congr fun w hw => ?_)
          rw [lap_take (by omega), q2]
          have : tm (fun u => t * one v u) w (a, b) = 0 := by
            simp only [tm]
            split
            · rename_i h; rw [h, o1, o2]; rfl
            · split
              · rename_i h; rw [h, o1, o2]; rfl
              · rfl
          omega
  exact key g.2.length 0 d (by omega) (hd.congr fun w _ => by simp [lap])
theorem inDebt_p {n : Nat} {d : List Int} {D : Nat → Int} (hd : vec n d D) (hn : n ≤ 6) {q : Nat} : ∃ r, impl_inDebt d (q : Int) = some r ∧ ((r = -1 ∧ ∀ v, v < n → v ≠ q → 0 ≤ D v) ∨ ∃ v : Nat, r = (v : Int) ∧ v < n ∧ v ≠ q ∧ D v < 0) := by
  rw [impl_inDebt_eq, hd.1]
  have key : ∀ (m k : Nat), k + m = n → (∀ v, v < k → v ≠ q → 0 ≤ D v) → ∃ r, impl_inDebt_l0 (q : Int) d (n : Int) (k : Int) = some r ∧ ((r = -1 ∧ ∀ v, v < n → v ≠ q → 0 ≤ D v) ∨ ∃ v : Nat, r = (v : Int) ∧ v < n ∧ v ≠ q ∧ D v < 0) := by
    intro m
    induction m with
    | zero =>
      intro k hk hp
      have : k = n := by omega
      subst this
      rw [impl_inDebt_l0_eq, dec_lt_f]
      exact ⟨-1, rfl, .inl ⟨rfl, hp⟩⟩
    | succ m ih =>
      intro k hk hp
      have hk' : k < n := by omega
      rw [impl_inDebt_l0_eq, dec_lt_t hk', show inside (k : Int) d.length = true from inside_lt (by rw [hd.1]; exact hk'), toNat_n, hd.2 k hk', w64_succ hk' (by omega)]
      simp only [cond_true]
      by_cases c : k = q
      · rw [eq_f (show (k : Int) = (q : Int) by omega), cond_false]
        exact ih (k + 1) (by omega) fun v hv hne => hp v (by omega) hne
      · rw [ne_t (show ¬ (k : Int) = (q : Int) by omega), cond_true]
        by_cases c2 : D k < 0
        · rw [decide_eq_true c2]
          exact ⟨_, rfl, .inr ⟨k, rfl, hk', c, c2⟩⟩
        · rw [decide_eq_false c2, cond_false]
          exact ih (k + 1) (by omega) fun v hv hne => by
            by_cases e : v = k
            · subst e; omega
            · exact hp v (by omega) hne
  exact key n 0 (by omega) fun v hv => by omega
end Go.Proofs.YthhogfhffpfkdaaGreatDoor.D

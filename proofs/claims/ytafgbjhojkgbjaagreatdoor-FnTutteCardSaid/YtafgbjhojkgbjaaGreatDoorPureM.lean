/-
  Chips on a graph: burning from a vertex, by both programs.
-/
import Derived.Test.YtafgbjhojkgbjaaGreatDoorPureL
namespace Go.Proofs.YtafgbjhojkgbjaaGreatDoor.D
open Go Go.Den
set_option linter.unusedVariables false
set_option linter.unusedSimpArgs false
def hit (e : Nat × Nat) (a b : Nat) : Int := if (a = e.1 ∧ b = e.2) ∨ (a = e.2 ∧ b = e.1) then 1 else 0
/-- how many edges join two vertices -/
def mul (E : Es) (a b : Nat) : Int := match E with
  | [] => 0
  | e :: r => hit e a b + mul r a b
theorem mul_cons (e : Nat × Nat) (E : Es) (a b : Nat) : mul (e :: E) a b = hit e a b + mul E a b := rfl
theorem hit_bd (e : Nat × Nat) (a b : Nat) : 0 ≤ hit e a b ∧ hit e a b ≤ 1 := by
  unfold hit
  split <;> omega
theorem mul_bd (a b : Nat) : ∀ E : Es, 0 ≤ mul E a b ∧ mul E a b ≤ (E.length : Int)
  | [] => ⟨Int.le_refl _, Int.le_refl _⟩
  | e :: E => by
    have := mul_bd a b E
    have := hit_bd e a b
    rw [mul_cons, List.length_cons]
    omega
theorem mul_same {n a : Nat} : ∀ {E : Es}, GE n E → mul E a a = 0
  | [], _ => rfl
  | e :: E, hE => by
    have := hE e List.mem_cons_self
    rw [mul_cons, mul_same hE.tail]
    unfold hit
    rw [if_neg (by omega)]; rfl
theorem mul_take {E : Es} {k : Nat} (h : k < E.length) (a b : Nat) : mul (E.take (k + 1)) a b = mul (E.take k) a b + hit (E.getD k (0, 0)) a b := by
  have : ∀ (A : Es) (e : Nat × Nat), mul (A ++ [e]) a b = mul A a b + hit e a b := fun A e => by
    induction A with
    | nil => rw [List.nil_append, mul_cons]; simp [mul]
    | cons x A ih => rw [List.cons_append, mul_cons, mul_cons, ih]; omega
  rw [List.take_add_one, List.getElem?_eq_getElem h, getD_lt h]
  exact this _ _
theorem imin_n (a b : Nat) : imin (a : Int) (b : Int) = ((min a b : Nat) : Int) := by
  unfold imin
  split <;> omega
theorem imax_n (a b : Nat) : imax (a : Int) (b : Int) = ((max a b : Nat) : Int) := by
  unfold imax
  split <;> omega
theorem hit_iff {a b x y : Nat} (h : x < y) (hab : a ≠ b) : ((min a b = x ∧ max a b = y) ↔ ((a = x ∧ b = y) ∨ (a = y ∧ b = x))) := by omega
theorem impl_mul_p {g : Gr} (hg : GOk g) {a b : Nat} (ha : a < N g) (hb : b < N g) : impl_Multiplicity g (a : Int) (b : Int) = some (mul (Eg g) a b) := by
  obtain ⟨gE1, gE2, gE3⟩ := gE hg
  have hn := gN hg
  rw [impl_Multiplicity_eq, imin_n, imax_n, decide_eq_false (by omega), decide_eq_false (by omega), cond_false, cond_false]
  by_cases c : a = b
  · subst c
    rw [beq_self_eq_true, cond_true, mul_same gE1]
  · rw [beq_f (show ¬ (a : Int) = (b : Int) by omega), cond_false]
    have := upFold (n := g.2.length) (f := fun s i => impl_Multiplicity_l0 (a : Int) (b : Int) s g.2 (g.2.length : Int) i) (g := fun k s => mul ((Eg g).take (k + 1)) a b) (fun k s => s = mul ((Eg g).take k) a b) (fun k s hk hs => ⟨by
      obtain ⟨x, y, q1, q2, q3, q4⟩ := gEk hg hk
      subst hs
      have bd := mul_bd a b ((Eg g).take k)
      have ln : ((Eg g).take k).length ≤ 12 := by rw [List.length_take]; omega
      rw [impl_Multiplicity_l0_eq, dec_lt_t hk, inside_lt hk, toNat_n, q1, w64_succ hk (by omega), imin_n, imax_n, mul_take (by omega), q2]
      simp only [cond_true]
      unfold hit
      by_cases c1 : min a b = x
      · rw [beq_t (show (x : Int) = ((min a b : Nat) : Int) by omega), cond_true]
        by_cases c2 : max a b = y
        · rw [beq_t (show (y : Int) = ((max a b : Nat) : Int) by omega), cond_true, if_pos ((hit_iff q3 c).1 ⟨c1, c2⟩), w64_id (by omega) (by omega)]
        · rw [beq_f (show ¬ (y : Int) = ((max a b : Nat) : Int) by omega), cond_false, if_neg (fun k => c2 ((hit_iff q3 c).2 k).2), Int.add_zero]
      · rw [beq_f (show ¬ (x : Int) = ((min a b : Nat) : Int) by omega), cond_false, if_neg (fun k => c1 ((hit_iff q3 c).2 k).1), Int.add_zero], rfl⟩) (s := 0) (by simp [mul])
    refine this.1.trans ?_
    rw [this.2, impl_Multiplicity_l0_eq, dec_lt_f, cond_false, ← gE3, List.take_length]
theorem spec_mul_p {g : Gr} (hg : GOk g) {a b : Nat} (ha : a < N g) (hb : b < N g) : spec_Multiplicity g (a : Int) (b : Int) = some (mul (Eg g) a b) := by
  obtain ⟨gE1, gE2, gE3⟩ := gE hg
  have hn := gN hg
  have vert : ∀ v : Nat, v < N g → spec_l02Vert g (v : Int) = some true := fun v hv => by
    rw [spec_l02Vert_eq, decide_eq_true (by omega), cond_true, decide_eq_true (by omega)]
  rw [spec_Multiplicity_eq, vert a ha, vert b hb]
  simp only [Option.bind_some, Bool.not_true, cond_false]
  by_cases c : a = b
  · subst c
    rw [beq_self_eq_true, cond_true, mul_same gE1]
  · rw [beq_f (show ¬ (a : Int) = (b : Int) by omega), cond_false]
    have := upFold (n := g.2.length) (f := fun s i => spec_Multiplicity_l0 (a : Int) (b : Int) s g.2 (g.2.length : Int) i) (g := fun k s => mul ((Eg g).take (k + 1)) a b) (fun k s => s = mul ((Eg g).take k) a b) (fun k s hk hs => ⟨by
      obtain ⟨x, y, q1, q2, q3, q4⟩ := gEk hg hk
      subst hs
      have bd := mul_bd a b ((Eg g).take k)
      have ln : ((Eg g).take k).length ≤ 12 := by rw [List.length_take]; omega
      rw [spec_Multiplicity_l0_eq, dec_lt_t hk, inside_lt hk, toNat_n, q1, w64_succ hk (by omega), imin_n, imax_n, mul_take (by omega), q2]
      simp only [cond_true]
      unfold hit
      by_cases c1 : min a b = x
      · rw [beq_t (show (x : Int) = ((min a b : Nat) : Int) by omega), cond_true]
        by_cases c2 : max a b = y
        · rw [beq_t (show (y : Int) = ((max a b : Nat) : Int) by omega), cond_true, if_pos ((hit_iff q3 c).1 ⟨c1, c2⟩), w64_id (by omega) (by omega)]
        · rw [beq_f (show ¬ (y : Int) = ((max a b : Nat) : Int) by omega), cond_false, if_neg (fun k => c2 ((hit_iff q3 c).2 k).2), Int.add_zero]
      · rw [beq_f (show ¬ (x : Int) = ((min a b : Nat) : Int) by omega), cond_false, if_neg (fun k => c1 ((hit_iff q3 c).2 k).1), Int.add_zero], rfl⟩) (s := 0) (by simp [mul])
    refine this.1.trans ?_
    rw [this.2, spec_Multiplicity_l0_eq, dec_lt_f, cond_false, ← gE3, List.take_length]
/-! ### sums over lists of vertices -/
def sl (L : List Nat) (f : Nat → Int) : Int := match L with
  | [] => 0
  | a :: r => f a + sl r f
theorem sl_cons (a : Nat) (L : List Nat) (f : Nat → Int) : sl (a :: L) f = f a + sl L f := rfl
theorem sl_add (f h : Nat → Int) : ∀ L, sl L (fun v => f v + h v) = sl L f + sl L h
  | [] => rfl
  | a :: L => by rw [sl_cons, sl_cons, sl_cons, sl_add f h L]; omega
theorem sl_zero : ∀ L, sl L (fun _ => 0) = 0
  | [] => rfl
  | a :: L => by rw [sl_cons, sl_zero L]; rfl
theorem sl_one {a : Nat} : ∀ {L : List Nat}, L.Nodup → sl L (fun w => if w = a then 1 else 0) = if a ∈ L then 1 else 0
  | [], _ => by simp [sl]
  | b :: L, h => by
    rw [List.nodup_cons] at h
    rw [sl_cons, sl_one h.2]
    by_cases c : b = a
    · subst c
      simp only [if_pos, if_neg h.1, List.mem_cons_self]; rfl
    · have : (a ∈ b :: L) ↔ a ∈ L := by simp [Ne.symm c]
      simp only [if_neg c, this]; omega
theorem sl_congr {f h : Nat → Int} : ∀ {L : List Nat}, (∀ v ∈ L, f v = h v) → sl L f = sl L h
  | [], _ => rfl
  | a :: L, k => by rw [sl_cons, sl_cons, k a List.mem_cons_self, sl_congr fun v hv => k v (List.mem_cons_of_mem _ hv)]
theorem sl_snoc (a : Nat) (f : Nat → Int) : ∀ L, sl (L ++ [a]) f = sl L f + f a
  | [] => by simp [sl]
  | b :: L => by rw [List.cons_append, sl_cons, sl_cons, sl_snoc a f L]; omega
theorem sl_bd {f : Nat → Int} {c : Int} (h : ∀ v, 0 ≤ f v ∧ f v ≤ c) : ∀ L : List Nat, 0 ≤ sl L f ∧ sl L f ≤ (L.length : Int) * c
  | [] => by simp [sl]
  | a :: L => by
    have := sl_bd h L
    have := h a
    rw [sl_cons, List.length_cons, show ((L.length + 1 : Nat) : Int) = (L.length : Int) + 1 by omega, Int.add_mul]
    omega
/-- not yet burnt -/
def cmp (L : List Nat) (w : Nat) : Bool := !decide (w ∈ L)
theorem cmp_t {L : List Nat} {w : Nat} : cmp L w = true ↔ w ∉ L := by unfold cmp; simp
theorem cmp_f {L : List Nat} {w : Nat} : cmp L w = false ↔ w ∈ L := by unfold cmp; simp
theorem sl_mul {n v : Nat} {L : List Nat} (hL : L.Nodup) (hv : v ∉ L) : ∀ {E : Es}, GE n E → sl L (mul E v) = outd E (cmp L) v
  | [], _ => sl_zero L
  | e :: E, hE => by
    have he := hE e List.mem_cons_self
    have : sl L (mul (e :: E) v) = sl L (fun w => hit e v w) + sl L (mul E v) := sl_add _ _ L
    rw [this, sl_mul hL hv hE.tail, outd_cons]
    congr 1
    by_cases c1 : v = e.1
    · rw [if_pos c1]
      have : sl L (fun w => hit e v w) = sl L (fun w => if w = e.2 then 1 else 0) := sl_congr fun w hw => by
        unfold hit
        by_cases c : w = e.2
        · rw [if_pos (.inl ⟨c1, c⟩), if_pos c]
        · rw [if_neg (by omega), if_neg c]
      rw [this, sl_one hL]
      unfold cmp
      by_cases c : e.2 ∈ L <;> simp [c]
    · rw [if_neg c1]
      by_cases c2 : v = e.2
      · rw [if_pos c2]
        have : sl L (fun w => hit e v w) = sl L (fun w => if w = e.1 then 1 else 0) := sl_congr fun w hw => by
          unfold hit
          by_cases c : w = e.1
          · rw [if_pos (.inr ⟨c2, c⟩), if_pos c]
          · rw [if_neg (by omega), if_neg c]
        rw [this, sl_one hL]
        unfold cmp
        by_cases c : e.1 ∈ L <;> simp [c]
      · rw [if_neg c2]
        have : sl L (fun w => hit e v w) = sl L (fun _ => 0) := sl_congr fun w hw => by
          unfold hit
          rw [if_neg (by omega)]
        rw [this, sl_zero]
/-! ### burning -/
def ints (L : List Nat) : List Int := L.map fun (v : Nat) => (v : Int)
theorem ints_len (L : List Nat) : (ints L).length = L.length := by unfold ints; rw [List.length_map]
theorem ints_getD {L : List Nat} {k : Nat} (h : k < L.length) : (ints L).getD k 0 = ((L.getD k 0 : Nat) : Int) := by
  unfold ints
  rw [List.getD_eq_getElem?_getD, List.getElem?_map, List.getElem?_eq_getElem h, getD_lt h]; rfl
theorem mem_ints {L : List Nat} {v : Nat} : ((v : Int) ∈ ints L) ↔ v ∈ L := by
  unfold ints
  rw [List.mem_map]
  constructor
  · rintro ⟨a, ha, h⟩
    have : a = v := by omega
    exact this ▸ ha
  · exact fun h => ⟨v, h, rfl⟩
theorem contains_p {l : List Int} {v : Int} (h : l.length ≤ 1000) : slices_Contains_int_int l v = some (decide (v ∈ l)) := by
  rw [slices_Contains_int_int_eq, slices_Index_int_int_eq]
  have key : ∀ (m k : Nat), k + m = l.length → (∀ j, j < k → l.getD j 0 ≠ v) → ∃ r, slices_Index_int_int_l0 l v (l.length : Int) (k : Int) = some r ∧ (0 ≤ r ↔ v ∈ l) := by
    intro m
    induction m with
    | zero =>
      intro k hk hp
      have : k = l.length := by omega
      subst this
      rw [slices_Index_int_int_l0_eq, dec_lt_f]
      refine ⟨-1, rfl, ⟨fun q => by omega, fun hv => ?_⟩⟩
      obtain ⟨i, hi, rfl⟩ := List.mem_iff_getElem.1 hv
      exact absurd (getD_lt hi) (hp i hi)
    | succ m ih =>
      intro k hk hp
      have hk' : k < l.length := by omega
      rw [slices_Index_int_int_l0_eq, dec_lt_t hk', inside_lt hk', toNat_n, w64_succ hk' (by omega)]
      simp only [cond_true]
      by_cases c : l.getD k 0 = v
      · rw [beq_t c.symm, cond_true]
        exact ⟨_, rfl, ⟨fun _ => by rw [← c]; exact getD_mem 0 hk', fun _ => by omega⟩⟩
      · rw [beq_f (fun q => c q.symm), cond_false]
        exact ih (k + 1) (by omega) fun j hj => by
          by_cases e : j = k
          · subst e; exact c
          · exact hp j (by omega)
  obtain ⟨r, h1, h2⟩ := key l.length 0 (by omega) fun j hj => by omega
  have h1' : slices_Index_int_int_l0 l v (l.length : Int) 0 = some r := h1
  rw [h1', Option.bind_some]
  congr 1
  exact decide_eq_decide.2 h2
structure BI (n : Nat) (E : Es) (q : Nat) (D : Nat → Int) (L : List Nat) : Prop where
  nd : L.Nodup
  lt : ∀ v ∈ L, v < n
  hq : q ∈ L
  ok : ∀ A : Nat → Bool, (∃ v, v ∈ L ∧ A v = true) → A q = false → ∃ v, v < n ∧ A v = true ∧ D v < outd E A v
theorem BI.len {n q : Nat} {E : Es} {D : Nat → Int} {L : List Nat} (h : BI n E q D L) : L.length ≤ n := by
  have := nodup_len (l := L) (m := List.range n) h.nd fun x hx => List.mem_range.2 (h.lt x hx)
  rw [List.length_range] at this
  exact this
theorem BI.all {n q : Nat} {E : Es} {D : Nat → Int} {L : List Nat} (h : BI n E q D L) (hl : L.length = n) : ∀ v, v < n → v ∈ L := fun v hv => by
  by_cases c : v ∈ L
  · exact c
  · exfalso
    have := nodup_len (l := v :: L) (m := List.range n) (List.nodup_cons.2 ⟨c, h.nd⟩) fun x hx => by
      rcases List.mem_cons.1 hx with k | k
      · subst k; exact List.mem_range.2 hv
      · exact List.mem_range.2 (h.lt x k)
    rw [List.length_range, List.length_cons] at this
    omega
theorem BI.add {n q v : Nat} {E : Es} {D : Nat → Int} {L : List Nat} (hE : GE n E) (h : BI n E q D L) (hv : v < n) (h1 : v ∉ L) (h2 : D v < outd E (cmp L) v) : BI n E q D (L ++ [v]) := by
  refine ⟨List.nodup_append.2 ⟨h.nd, by simp, fun a ha b hb => ?_⟩, fun x hx => ?_, List.mem_append_left _ h.hq, fun A hA hq => ?_⟩
  · rw [List.mem_singleton] at hb
    subst hb
    exact fun k => h1 (k ▸ ha)
  · rcases List.mem_append.1 hx with k | k
    · exact h.lt x k
    · rw [List.mem_singleton] at k; subst k; exact hv
  · by_cases c : ∃ v, v ∈ L ∧ A v = true
    · exact h.ok A c hq
    · obtain ⟨x, hx, hxA⟩ := hA
      rcases List.mem_append.1 hx with k | k
      · exact absurd ⟨x, k, hxA⟩ c
      · rw [List.mem_singleton] at k
        subst k
        have := outd_mono (v := x) (A := A) (B := cmp L) (fun w _ hw => cmp_t.2 fun k => c ⟨w, k, hw⟩) hE
        exact ⟨x, hv, hxA, by omega⟩
theorem BI.red {n q : Nat} {E : Es} {D : Nat → Int} {L : List Nat} (h : BI n E q D L) (hl : L.length = n) (hp : ∀ v, v < n → v ≠ q → 0 ≤ D v) : Red n E q D :=
  ⟨hp, fun A ⟨v, hv, hA⟩ hq => h.ok A ⟨v, h.all hl v hv, hA⟩ hq⟩
theorem BI.start {n q : Nat} {E : Es} {D : Nat → Int} (hq : q < n) : BI n E q D [q] := ⟨by simp, fun v hv => by rw [List.mem_singleton] at hv; subst hv; exact hq, by simp, fun A ⟨v, hv, hA⟩ hA2 => by
  rw [List.mem_singleton] at hv
  subst hv
  rw [hA] at hA2
  cases hA2⟩
def Fin' (n : Nat) (E : Es) (D : Nat → Int) (L : List Nat) : Prop := ∀ v, v < n → v ∉ L → outd E (cmp L) v ≤ D v
theorem impl_l4_p {g : Gr} (hg : GOk g) {d : List Int} {D : Nat → Int} (hd : vec (N g) d D) {q : Nat} {L : List Nat} (hL : BI (N g) (Eg g) q D L) {v : Nat} (hv : v < N g) {nx : Int} :
    impl_burn_l4 d g (ints L) nx (v : Int) 0 ((ints L).length : Int) 0 = impl_burn_l2 d g (ints L) (if v ∉ L ∧ D v < outd (Eg g) (cmp L) v then (v : Int) else nx) ((v + 1 : Nat) : Int) := by
  obtain ⟨gE1, gE2, gE3⟩ := gE hg
  have hn := gN hg
  have hlen := hL.len
  have := upFold (n := L.length) (f := fun s i => impl_burn_l4 d g (ints L) nx (v : Int) s (L.length : Int) i) (g := fun k s => sl (L.take (k + 1)) (mul (Eg g) v)) (fun k s => s = sl (L.take k) (mul (Eg g) v)) (fun k s hk hs => ⟨by
    subst hs
    have bd := sl_bd (f := mul (Eg g) v) (c := 12) (fun w => by have := mul_bd v w (Eg g); omega) (L.take k)
    have ln : (L.take k).length ≤ 6 := by rw [List.length_take]; omega
    have bm := mul_bd v (L.getD k 0) (Eg g)
    rw [impl_burn_l4_eq, dec_lt_t hk, show inside (k : Int) (ints L).length = true from inside_lt (by rw [ints_len]; exact hk), toNat_n, ints_getD hk, impl_mul_p hg hv (hL.lt _ (getD_mem 0 hk)), w64_succ hk (by omega)]
    simp only [cond_true, Option.bind_some]
    rw [w64_id (by omega) (by omega), List.take_add_one, List.getElem?_eq_getElem hk, getD_lt hk, Option.toList_some, sl_snoc], rfl⟩) (s := 0) rfl
  rw [ints_len]
  refine this.1.trans ?_
  rw [this.2, List.take_length, impl_burn_l4_eq, dec_lt_f, cond_false, contains_p (by rw [ints_len]; omega), Option.bind_some, decide_eq_decide.2 mem_ints, w64_succ hv (by omega)]
  by_cases c : v ∈ L
  · rw [decide_eq_true c, Bool.not_true, cond_false, if_neg (fun k => k.1 c)]
  · rw [decide_eq_false c, Bool.not_false, cond_true, show inside (v : Int) d.length = true from inside_lt (by rw [hd.1]; exact hv), cond_true, toNat_n, hd.2 v hv, sl_mul hL.nd c gE1]
    by_cases c2 : D v < outd (Eg g) (cmp L) v
    · rw [decide_eq_true c2, cond_true, if_pos ⟨c, c2⟩]
    · rw [decide_eq_false c2, cond_false, if_neg (fun k => c2 k.2)]
theorem impl_l2_p {g : Gr} (hg : GOk g) {d : List Int} {D : Nat → Int} (hd : vec (N g) d D) {q : Nat} {L : List Nat} (hL : BI (N g) (Eg g) q D L) : ∀ (m k : Nat), k + m = N g → (∀ v, v < k → v ∉ L → outd (Eg g) (cmp L) v ≤ D v) →
    (∃ v, v < N g ∧ v ∉ L ∧ D v < outd (Eg g) (cmp L) v ∧ impl_burn_l2 d g (ints L) (-1) (k : Int) = impl_burn_l0 d g (ints (L ++ [v]))) ∨ (Fin' (N g) (Eg g) D L ∧ impl_burn_l2 d g (ints L) (-1) (k : Int) = some (ints L))
  | 0, k, hk, hp => by
    have hn := gN hg
    refine .inr ⟨fun v hv => hp v (by omega), ?_⟩
    rw [impl_burn_l2_eq, decide_eq_false (by omega), decide_eq_true (by omega)]; rfl
  | m + 1, k, hk, hp => by
    have hn := gN hg
    have hk' : k < N g := by omega
    have hlen := hL.len
    by_cases c : k ∉ L ∧ D k < outd (Eg g) (cmp L) k
    · refine .inl ⟨k, hk', c.1, c.2, ?_⟩
      rw [impl_burn_l2_eq, decide_eq_true (by omega), decide_eq_true (by omega), cond_true, cond_true, impl_l4_p hg hd hL hk', if_pos c, impl_burn_l2_eq, decide_eq_false (show ¬ (k : Int) < 0 by omega), decide_eq_true (show (ints L).length + ([(k : Int)] : List Int).length ≤ room by rw [ints_len, room]; simp only [List.length_cons, List.length_nil]; omega)]
      have : ints (L ++ [k]) = ints L ++ [(k : Int)] := by unfold ints; simp
      rw [this]
      cases decide (((k + 1 : Nat) : Int) < g.1) <;> rfl
    · have hstep : impl_burn_l2 d g (ints L) (-1) (k : Int) = impl_burn_l2 d g (ints L) (-1) ((k + 1 : Nat) : Int) := by
        rw [impl_burn_l2_eq, decide_eq_true (by omega), decide_eq_true (by omega), cond_true, cond_true, impl_l4_p hg hd hL hk', if_neg c]
      rw [hstep]
      exact impl_l2_p hg hd hL m (k + 1) (by omega) fun v hv h => by
        by_cases e : v = k
        · subst e
          have := not_and.1 c h
          omega
        · exact hp v (by omega) h
theorem impl_burn_p {g : Gr} (hg : GOk g) {d : List Int} {D : Nat → Int} (hd : vec (N g) d D) {q : Nat} (hq : q < N g) : ∃ L, impl_burn g d (q : Int) = some (ints L) ∧ BI (N g) (Eg g) q D L ∧ Fin' (N g) (Eg g) D L := by
  obtain ⟨gE1, gE2, gE3⟩ := gE hg
  rw [impl_burn_eq]
  have key : ∀ (m : Nat) (L : List Nat), L.length + m = N g + 1 → BI (N g) (Eg g) q D L → ∃ L', impl_burn_l0 d g (ints L) = some (ints L') ∧ BI (N g) (Eg g) q D L' ∧ Fin' (N g) (Eg g) D L' := by
    intro m
    induction m with
    | zero => intro L hl hB; have := hB.len; omega
    | succ m ih =>
      intro L hl hB
      rw [impl_burn_l0_eq]
      rcases impl_l2_p hg hd hB (N g) 0 (by omega) (fun v hv => by omega) with ⟨v, h1, h2, h3, h4⟩ | ⟨h1, h2⟩
      · obtain ⟨L', k1, k2, k3⟩ := ih (L ++ [v]) (by rw [List.length_append]; simp only [List.length_cons, List.length_nil]; omega) (hB.add gE1 h1 h2 h3)
        exact ⟨L', h4.trans k1, k2, k3⟩
      · exact ⟨L, h2, hB, h1⟩
  exact key (N g) [q] (by simp; omega) (BI.start hq)
end Go.Proofs.YtafgbjhojkgbjaaGreatDoor.D

/-
  The law FnWins: a divisor is won by its script, or an orientation without circles proves that it is lost.
-/
import Derived.Test.YthmddgkpebneoaaDoorPureFo
import Derived.Test.YthmddgkpebneoaaDoorPureGw
namespace Go.Proofs.YthmddgkpebneoaaDoor.D
open Go Go.Den
set_option linter.unusedVariables false
set_option linter.unusedSimpArgs false
/-! ### how far a script's numbers lie apart -/
def crs (A : Nat → Bool) (S : Nat → Int) : Es → Int
  | [] => 0
  | e :: E => ((if A e.1 = true then S e.1 - S e.2 else 0) + (if A e.2 = true then S e.2 - S e.1 else 0)) + crs A S E
theorem crs_sum {n : Nat} (A : Nat → Bool) (S : Nat → Int) : ∀ {E : Es}, GE n E → sm n (fun v => if A v = true then lap E S v else 0) = crs A S E
  | [], _ => by
    rw [sm_congr (g := fun _ => 0) fun v _ => by simp [lap]]
    exact sm_zero n
  | e :: E, hE => by
    have he := hE e List.mem_cons_self
    have ih := crs_sum A S (E := E) hE.tail
    have : sm n (fun v => if A v = true then lap (e :: E) S v else 0) = sm n (fun v => (if v = e.1 then (if A e.1 = true then S e.1 - S e.2 else 0) else if v = e.2 then (if A e.2 = true then S e.2 - S e.1 else 0) else 0) + if A v = true then lap E S v else 0) := sm_congr fun v hv => by
      rw [lap_cons]
      unfold tm
      by_cases c1 : v = e.1
      · subst c1
        rw [if_pos rfl, if_pos rfl]
        split <;> omega
      · rw [if_neg c1, if_neg c1]
        by_cases c2 : v = e.2
        · subst c2
          rw [if_pos rfl, if_pos rfl]
          split <;> omega
        · rw [if_neg c2, if_neg c2]
          split <;> omega
    rw [this, sm_add, ih, sm_pair (by omega) (by omega) he.2]
    rfl
theorem crs_term {A : Nat → Bool} {S : Nat → Int} {c : Int} (hA : ∀ w, A w = true ↔ c ≤ S w) : ∀ {E : Es}, 0 ≤ crs A S E ∧ ∀ e ∈ E, (if A e.1 = true then S e.1 - S e.2 else 0) + (if A e.2 = true then S e.2 - S e.1 else 0) ≤ crs A S E
  | [] => ⟨Int.le_refl _, fun e he => absurd he List.not_mem_nil⟩
  | e :: E => by
    obtain ⟨i1, i2⟩ := crs_term hA (E := E)
    have h0 : 0 ≤ (if A e.1 = true then S e.1 - S e.2 else 0) + (if A e.2 = true then S e.2 - S e.1 else 0) := by
      have a1 := hA e.1
      have a2 := hA e.2
      cases h1 : A e.1 <;> cases h2 : A e.2 <;> simp [h1, h2] at a1 a2 ⊢ <;> omega
    refine ⟨by rw [crs]; omega, fun x hx => ?_⟩
    rw [crs]
    rcases List.mem_cons.1 hx with rfl | hx
    · omega
    · have := i2 x hx; omega
/-- along an edge the numbers lie near to each other -/
theorem edge_gap {n : Nat} (hn : n ≤ 6) {E : Es} (hE : GE n E) {S : Nat → Int} {F : Int} (hF : ∀ v, v < n → -F ≤ lap E S v ∧ lap E S v ≤ F) (hF0 : 0 ≤ F) {a b : Nat} (h : (a, b) ∈ E ∨ (b, a) ∈ E) : S a - S b ≤ 6 * F := by
  rcases Int.lt_or_le (S b) (S a) with c | c
  · let A : Nat → Bool := fun w => decide (S a ≤ S w)
    have hA : ∀ w, A w = true ↔ S a ≤ S w := fun w => decide_eq_true_iff
    have ha : A a = true := (hA a).2 (Int.le_refl _)
    have hb : A b = false := decide_eq_false (by omega)
    have hs := crs_sum A S hE
    obtain ⟨_, ht⟩ := crs_term hA (E := E)
    have hle : sm n (fun v => if A v = true then lap E S v else 0) ≤ (n : Int) * F := sm_const_le fun v hv => by
      have := hF v hv
      split <;> omega
    have hm : (n : Int) * F ≤ 6 * F := Int.mul_le_mul_of_nonneg_right (by omega) hF0
    rcases h with h | h
    · have := ht _ h
      simp only [ha, hb, if_true] at this
      simp at this
      omega
    · have := ht _ h
      simp only [ha, hb, if_true] at this
      simp at this
      omega
  · omega
theorem gap {g : Gr} (hg : GOk g) {S : Nat → Int} {F : Int} (hF0 : 0 ≤ F) (hF : ∀ v, v < N g → -F ≤ lap (Eg g) S v ∧ lap (Eg g) S v ≤ F) : ∀ v, v < N g → -(30 * F) ≤ S v - S 0 ∧ S v - S 0 ≤ 30 * F := by
  obtain ⟨gE1, gE2, gE3⟩ := gE hg
  have hn := gN hg
  have key : ∀ k, k + 1 ≤ N g → ∃ C : List Nat, C.Nodup ∧ C.length = k + 1 ∧ 0 ∈ C ∧ ∀ v ∈ C, v < N g ∧ -((k : Int) * (6 * F)) ≤ S v - S 0 ∧ S v - S 0 ≤ (k : Int) * (6 * F) := by
    intro k
    induction k with
    | zero =>
      intro _
      exact ⟨[0], by simp, rfl, by simp, fun v hv => by rw [List.mem_singleton.1 hv]; exact ⟨by omega, by simp, by simp⟩⟩
    | succ k ih =>
      intro hk
      obtain ⟨C, c1, c2, c3, c4⟩ := ih (by omega)
      have cross : ∃ a b, a ∈ C ∧ b ∉ C ∧ b < N g ∧ ((a, b) ∈ Eg g ∨ (b, a) ∈ Eg g) := by
        apply Classical.byContradiction
        intro hno
        have all : ∀ v, Conn g.2 v → ∃ w : Nat, v = (w : Int) ∧ w ∈ C := by
          intro v h
          induction h with
          | zero => exact ⟨0, rfl, c3⟩
          | @fwd j hj _ ih =>
            obtain ⟨a, b, e1, e2, hab, hb⟩ := gEk hg hj
            rw [e1] at ih ⊢
            obtain ⟨w, w1, w2⟩ := ih
            have hw : w = a := by simp at w1; omega
            subst hw
            refine ⟨b, rfl, ?_⟩
            apply Classical.byContradiction
            intro c
            exact hno ⟨w, b, w2, c, hb, .inl (by rw [← e2]; exact getD_mem (0, 0) (by omega))⟩
          | @bwd j hj _ ih =>
            obtain ⟨a, b, e1, e2, hab, hb⟩ := gEk hg hj
            rw [e1] at ih ⊢
            obtain ⟨w, w1, w2⟩ := ih
            have hw : w = b := by simp at w1; omega
            subst hw
            refine ⟨a, rfl, ?_⟩
            apply Classical.byContradiction
            intro c
            exact hno ⟨w, a, w2, c, by omega, .inr (by rw [← e2]; exact getD_mem (0, 0) (by omega))⟩
        have : (List.range (N g)).length ≤ C.length := nodup_len List.nodup_range fun x hx => by
          rw [List.mem_range] at hx
          obtain ⟨w, w1, w2⟩ := all (x : Int) (hg.2.2 _ (by omega) (by omega))
          rw [show x = w by omega]; exact w2
        rw [List.length_range] at this
        omega
      obtain ⟨a, b, a1, b1, b2, hab⟩ := cross
      have h1 := edge_gap hn.2.2 gE1 hF hF0 hab
      have h2 := edge_gap hn.2.2 gE1 hF hF0 hab.symm
      obtain ⟨a2, a3, a4⟩ := c4 a a1
      have hmul : ((k + 1 : Nat) : Int) * (6 * F) = (k : Int) * (6 * F) + 6 * F := by
        rw [show ((k + 1 : Nat) : Int) = (k : Int) + 1 by omega, Int.add_mul]; omega
      refine ⟨b :: C, List.nodup_cons.2 ⟨b1, c1⟩, by rw [List.length_cons, c2], List.mem_cons_of_mem _ c3, fun v hv => ?_⟩
      rw [hmul]
      rcases List.mem_cons.1 hv with rfl | hv
      · exact ⟨b2, by omega, by omega⟩
      · obtain ⟨q1, q2, q3⟩ := c4 v hv
        exact ⟨q1, by omega, by omega⟩
  obtain ⟨C, c1, c2, c3, c4⟩ := key (N g - 1) (by omega)
  intro v hv
  have hm : v ∈ C := by
    apply Classical.byContradiction
    intro c
    have := nodup_len (l := v :: C) (m := List.range (N g)) (List.nodup_cons.2 ⟨c, c1⟩) fun x hx => by
      rw [List.mem_range]
      rcases List.mem_cons.1 hx with rfl | hx
      · exact hv
      · exact (c4 x hx).1
    rw [List.length_range, List.length_cons] at this
    omega
  obtain ⟨_, q2, q3⟩ := c4 v hm
  have : ((N g - 1 : Nat) : Int) * (6 * F) ≤ 5 * (6 * F) := Int.mul_le_mul_of_nonneg_right (by omega) (by omega)
  omega
/-! ### a game that is won -/
theorem lift_o {n : Nat} (hn : 1 ≤ n ∧ n ≤ 6) {y : List Int} {S : Nat → Int} (hy : vec n y S) {B : Int} (hB : Bd n B S) (hB2 : 0 ≤ B ∧ B ≤ 1000000000000000000) : ∃ r w, impl_fromZero y = some r ∧ w < n ∧ vec n r (fun k => S k - S w) := by
  have hl := hy.1
  have h0 := hB 0 (by omega)
  have e0 := hy.2 0 (by omega)
  have key : ∀ (m k : Nat) (s : Int), k + m = n → (∃ w, w < n ∧ s = S w) → ∃ w, w < n ∧ slices_Min_int_int_l0 y s (k : Int) = some (S w) := by
    intro m
    induction m with
    | zero =>
      intro k s hk ⟨w, w1, w2⟩
      have : k = n := by omega
      subst this
      rw [slices_Min_int_int_l0_eq, hl, dec_lt_f]
      exact ⟨w, w1, by rw [w2]; rfl⟩
    | succ m ih =>
      intro k s hk ⟨w, w1, w2⟩
      have hk' : k < n := by omega
      rw [slices_Min_int_int_l0_eq, hl, dec_lt_t hk', inside_lt (by omega), cond_true, cond_true, toNat_n, w64_succ hk' (by omega), hy.2 k hk']
      refine ih (k + 1) _ (by omega) ?_
      unfold imin
      split
      · exact ⟨k, hk', rfl⟩
      · exact ⟨w, w1, w2⟩
  obtain ⟨w, w1, w2⟩ := key (n - 1) 1 (y.getD 0 0) (by omega) ⟨0, by omega, e0⟩
  have hmin : slices_Min_int_int y = some (S w) := by
    rw [slices_Min_int_int_eq, decide_eq_false (by omega), cond_false, show inside 0 y.length = true from inside_lt (k := 0) (by omega), cond_true]
    exact w2
  have hw := hB w w1
  let r : List Int := (List.range n).map fun k => S k - S w
  have hr : vec n r (fun k => S k - S w) := ⟨by simp [r], fun w hw => getD_range_map _ hw⟩
  refine ⟨r, w, ?_, w1, hr⟩
  rw [impl_fromZero_eq, impl_copyInts_eq, decide_eq_true (by rw [hl, room]; simp only [List.length_nil]; omega), cond_true, Option.bind_some, List.nil_append, hmin, Option.bind_some, hl]
  have := upFold (n := n) (f := fun s i => impl_fromZero_l0 s (S w) (n : Int) i) (g := fun k s => s.set k (S k - S w)) (fun k s => vec n s (fun u => if u < k then S u - S w else S u)) (fun k s hk hs => ⟨by
    have e : s.getD k 0 = S k := (hs.2 k hk).trans (if_neg (Nat.lt_irrefl k))
    have b1 := hB k hk
    rw [impl_fromZero_l0_eq, dec_lt_t hk, inside_lt (by rw [hs.1]; exact hk), toNat_n, e, w64_succ hk (by omega), w64_id (by omega) (by omega)]
    rfl, (hs.set hk _).congr fun u hu => by
      by_cases c : u = k
      · subst c; rw [if_pos rfl, if_pos (by omega)]
      · rw [if_neg c]
        by_cases c2 : u < k
        · rw [if_pos c2, if_pos (by omega)]
        · rw [if_neg c2, if_neg (by omega)]⟩) (s := y) (hy.congr fun u hu => by rw [if_neg (by omega)])
  refine this.1.trans ?_
  rw [impl_fromZero_l0_eq, dec_lt_f, cond_false]
  exact congrArg some (this.2.eq hr fun u hu => by rw [if_pos hu])
theorem fired_o {g : Gr} (hg : GOk g) {d s : List Int} {D S : Nat → Int} (hd : vec (N g) d D) (hs : vec (N g) s S) (hB : Bd (N g) 1000 D) (hT : Bd (N g) 100000 S) : ∃ x, impl_fired g d s = some x ∧ vec (N g) x (fun v => D v - lap (Eg g) S v) := by
  obtain ⟨gE1, gE2, gE3⟩ := gE hg
  have hn := gN hg
  let T : Nat → Nat → Int := fun k u => if u < k then S u else 0
  have hTb : ∀ k, Bd (N g) 100000 (T k) := fun k w hw => by
    have := hT w hw
    simp only [T]
    split <;> omega
  have key : ∀ (m k : Nat) (x : List Int), k + m = N g → vec (N g) x (fun v => D v - lap (Eg g) (T k) v) → ∃ x', impl_fired_l0 g x s ((N g : Nat) : Int) (k : Int) = some x' ∧ vec (N g) x' (fun v => D v - lap (Eg g) S v) := by
    intro m
    induction m with
    | zero =>
      intro k x hk hx
      have : k = N g := by omega
      subst this
      rw [impl_fired_l0_eq, dec_lt_f]
      refine ⟨x, rfl, hx.congr fun w hw => ?_⟩
      rw [lap_congr hw (f := T (N g)) (g := S) (fun u hu => if_pos hu) gE1]
    | succ m ih =>
      intro k x hk hx
      have hk' : k < N g := by omega
      have hbd : Bd (N g) 2401000 (fun v => D v - lap (Eg g) (T k) v) := fun w hw => by
        have a := hB w hw
        have b := lap_bd (hTb k) (by omega) hw gE1 gE2
        show -2401000 ≤ D w - lap (Eg g) (T k) w ∧ D w - lap (Eg g) (T k) w ≤ 2401000
        omega
      obtain ⟨r, r1, r2⟩ := impl_fire_p hg hx hk' (t := S k) (B := 2401000) (T := 100000) hbd (hT k hk') (by omega)
      rw [impl_fired_l0_eq, dec_lt_t hk', inside_lt (by rw [hs.1]; exact hk'), toNat_n, hs.2 k hk', w64_succ hk' (by omega)]
      simp only [cond_true]
      rw [r1, Option.bind_some]
      refine ih (k + 1) r (by omega) (r2.congr fun w hw => ?_)
      have e : lap (Eg g) (T (k + 1)) w = lap (Eg g) (T k) w + lap (Eg g) (fun u => S k * one k u) w := by
        rw [← lap_add]
        refine lap_congr hw (fun u hu => ?_) gE1
        simp only [T, one]
        by_cases c : u = k
        · subst c; rw [if_pos (by omega), if_neg (by omega), if_pos rfl]; omega
        · rw [if_neg c]
          by_cases c2 : u < k
          · rw [if_pos c2, if_pos (by omega)]; omega
          · rw [if_neg c2, if_neg (by omega)]; omega
      rw [e]
      show D w - lap (Eg g) (T k) w - lap (Eg g) (fun u => S k * one k u) w = _
      omega
  rw [impl_fired_eq, impl_copyInts_eq, decide_eq_true (by rw [hd.1, room]; simp only [List.length_nil]; omega), cond_true, Option.bind_some, List.nil_append]
  have hsl := hs.1
  obtain ⟨x', a1, a2⟩ := key (N g) 0 d (by omega) (hd.congr fun w hw => by
    have : lap (Eg g) (T 0) w = 0 := lap_const hw (c := 0) (fun u hu => by simp [T]) gE1
    rw [this]; omega)
  rw [hsl]
  exact ⟨x', a1, a2⟩
theorem pick_p {c : Cur} (hc : CurOk c) {r : Int} (hr : 0 ≤ r ∧ r < 7) : ∃ x c', spec_l01Pick c ([0, 1, 2, (-1), 3, (-2), r] : List Int) = some (x, c') ∧ (-2 ≤ x ∧ x ≤ 6) ∧ CurOk c' := by
  obtain ⟨i, c', a1, a2, a3⟩ := below_p hc (n := 7) (by omega) (by omega)
  have h7 : (([0, 1, 2, (-1), 3, (-2), r] : List Int).length : Int) = 7 := rfl
  rw [spec_l01Pick_eq, h7, a1, Option.bind_some, inside_int a2.1 (by rw [h7]; exact a2.2), cond_true]
  refine ⟨_, _, rfl, ?_, a3⟩
  have hm := getD_mem (0 : Int) (l := ([0, 1, 2, (-1), 3, (-2), r] : List Int)) (k := i.toNat) (by show i.toNat < 7; omega)
  generalize ([0, 1, 2, (-1), 3, (-2), r] : List Int).getD i.toNat 0 = x at hm
  simp only [List.mem_cons, List.not_mem_nil, or_false] at hm
  omega
theorem div_p {l : List Int} (h : l.length ≤ 1048576) {g : Gr} (hg : GOk g) {n : Nat} (hn : n ≤ 1000) : ∃ d, spec_MakeDivisor l (n : Int) g = some d ∧ (d.length : Int) = g.1 ∧ ∀ x ∈ d, -2 ≤ x ∧ x ≤ 6 := by
  obtain ⟨c, c1, c2⟩ := skip_p h hn
  have h6 := hg.1.1
  rw [spec_MakeDivisor_eq, c1, Option.bind_some, spec_l04Draw_eq]
  have draw : ∀ (m k : Nat) (c : Cur) (d : List Int), (k : Int) + (m : Int) = g.1 → CurOk c → d.length = k → (∀ x ∈ d, -2 ≤ x ∧ x ≤ 6) → ∃ d' c', spec_l04Draw_l0 c g d (k : Int) = some (d', c') ∧ (d'.length : Int) = g.1 ∧ (∀ x ∈ d', -2 ≤ x ∧ x ≤ 6) ∧ CurOk c' := by
    intro m
    induction m with
    | zero =>
      intro k c d hk hc hl hd
      rw [spec_l04Draw_l0_eq, decide_eq_false (by omega)]
      exact ⟨d, c, rfl, by omega, hd, hc⟩
    | succ m ih =>
      intro k c d hk hc hl hd
      obtain ⟨r, c1, a1, a2, a3⟩ := below_p hc (n := 7) (by omega) (by omega)
      obtain ⟨x, c2, b1, b2, b3⟩ := pick_p a3 a2
      rw [spec_l04Draw_l0_eq, decide_eq_true (by omega), cond_true, a1, Option.bind_some]
      simp only
      rw [b1, Option.bind_some, decide_eq_true (by rw [room]; simp only [List.length_singleton]; omega), cond_true, w64_id (by omega) (by omega)]
      refine ih (k + 1) c2 _ (by omega) b3 (by rw [List.length_append, hl]; rfl) fun y hy => ?_
      rcases List.mem_append.1 hy with hy | hy
      · exact hd y hy
      · rw [List.mem_singleton.1 hy]; exact b2
  obtain ⟨d, c3, d1, d2, d3, d4⟩ := draw g.1.toNat 0 c [] (by omega) c2 rfl (fun x hx => (List.not_mem_nil hx).elim)
  have d1' : spec_l04Draw_l0 c g [] 0 = some (d, c3) := d1
  rw [d1', Option.bind_some]
  exact ⟨d, rfl, d2, d3⟩
theorem isEff_o {d : List Int} (hl : d.length ≤ 1000) : ∃ b, impl_IsEffective d = some b ∧ (b = true ↔ ∀ v, v < d.length → 0 ≤ d.getD v 0) := by
  rw [impl_IsEffective_eq]
  have := upAll (n := d.length) (f := fun i => impl_IsEffective_l0 d (d.length : Int) i) (p := fun k => decide (0 ≤ d.getD k 0)) (fun k hk => by
    rw [impl_IsEffective_l0_eq, dec_lt_t hk, inside_lt hk, toNat_n, w64_succ hk (by omega)]
    simp only [cond_true]
    by_cases c : d.getD k 0 < 0
    · rw [decide_eq_true c, decide_eq_false (by omega)]; rfl
    · rw [decide_eq_false c, decide_eq_true (by omega)]; rfl) (by rw [impl_IsEffective_l0_eq, dec_lt_f]; rfl)
  obtain ⟨b, h1, h2⟩ := this
  refine ⟨b, h1, h2.trans ⟨fun h v hv => of_decide_eq_true (h v hv), fun h v hv => decide_eq_true (h v hv)⟩⟩
end Go.Proofs.YthmddgkpebneoaaDoor.D

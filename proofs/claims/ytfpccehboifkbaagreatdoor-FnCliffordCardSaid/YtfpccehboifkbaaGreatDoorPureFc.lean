/-
  The law FnClifford: one more chip; special divisors; base points.
-/
import Derived.Test.YtfpccehboifkbaaGreatDoorPureFt
namespace Go.Proofs.YtfpccehboifkbaaGreatDoor.D
open Go Go.Den
set_option linter.unusedVariables false
set_option linter.unusedSimpArgs false
/-- one more chip -/
def up1 (D : Nat → Int) (v : Nat) (w : Nat) : Int := if w = v then D w + 1 else D w
theorem Win.more {g : Gr} {D D' : Nat → Int} (h : Win g D) (hd : ∀ v, v < N g → D v ≤ D' v) : Win g D' := by
  obtain ⟨r, h1, h2, S, h3⟩ := h
  refine ⟨(List.range (N g)).map fun v => r.getD v 0 + (D' v - D v), by simp, fun v hv => ?_, S, fun v hv => ?_⟩
  · rw [getD_range_map _ hv]
    have := h2 v hv
    have := hd v hv
    omega
  · rw [getD_range_map _ hv, h3 v hv]; omega
theorem RK.more {g : Gr} {D D' : Nat → Int} (hd : ∀ v, v < N g → D v ≤ D' v) {r r' : Nat} {w w' : List Int} (h : RK g D r w) (h' : RK g D' r' w') : r ≤ r' := by
  rcases Nat.lt_or_ge r' r with c | c
  · exact absurd ((h.up r' c w' h'.mem).more fun v hv => by have := hd v hv; unfold Mi; omega) h'.bad
  · exact c
theorem plus1_in {n k v : Nat} {w : List Int} (h : w ∈ eff n k) (hv : v < n + 1) : w.set v (w.getD v 0 + 1) ∈ eff n (k + 1) := by
  obtain ⟨h1, h2⟩ := eff_mem h
  have hs := eff_sum h
  refine eff_in (by rw [List.length_set, h1]) (fun x hx => ?_) ?_
  · obtain ⟨j, hj, e⟩ := mem_getD hx
    rw [List.length_set] at hj
    rw [← e, getD_set (by omega)]
    have := h2 _ (getD_mem 0 hj)
    have := h2 _ (getD_mem 0 (show v < w.length by omega))
    split <;> omega
  · have a1 := sm_list (w.set v (w.getD v 0 + 1))
    have a2 := sm_list w
    rw [List.length_set] at a1
    have e : sm w.length (fun u => (w.set v (w.getD v 0 + 1)).getD u 0) = sm w.length (fun u => w.getD u 0 + if u = v then 1 else 0) := sm_congr fun u _ => by
      rw [getD_set (by omega)]
      by_cases c : u = v
      · rw [if_pos c, if_pos c, c]
      · rw [if_neg c, if_neg c]; omega
    rw [e, sm_add, sm_one, if_pos (show v < w.length by omega)] at a1
    omega
theorem RK.one {g : Gr} (hg : GOk g) {D D' : Nat → Int} {v : Nat} (hv : v < N g) (hd : ∀ w, w < N g → D' w = up1 D v w) {r r' : Nat} {w w' : List Int} (h : RK g D r w) (h' : RK g D' r' w') : r ≤ r' ∧ r' ≤ r + 1 := by
  have hn := gN hg
  refine ⟨h.more (fun u hu => by rw [hd u hu]; unfold up1; split <;> omega) h', ?_⟩
  rcases Nat.lt_or_ge (r + 1) r' with c | c
  · have hw := eff_mem h.mem
    exfalso
    refine h.bad ((h'.up (r + 1) c _ (plus1_in (v := v) h.mem (by omega))).congr fun u hu => ?_)
    unfold Mi
    rw [hd u hu, getD_set (by omega)]
    unfold up1
    by_cases c : u = v
    · rw [if_pos c, if_pos c, c]; omega
    · rw [if_neg c, if_neg c]
  · exact c
/-! ### special divisors -/
theorem split_row : ∀ (l : List Int) (a : Int), (∀ x ∈ l, 0 ≤ x) → 0 ≤ a → a ≤ l.sum → ∃ m : List Int, m.length = l.length ∧ m.sum = a ∧ ∀ j, j < l.length → 0 ≤ m.getD j 0 ∧ m.getD j 0 ≤ l.getD j 0
  | [], a, _, h0, h1 => ⟨[], rfl, by simp at h1 ⊢; omega, fun j hj => absurd hj (Nat.not_lt_zero j)⟩
  | x :: l, a, hp, h0, h1 => by
    have hx := hp x List.mem_cons_self
    rw [List.sum_cons] at h1
    by_cases c : a ≤ x
    · obtain ⟨m, m1, m2, m3⟩ := split_row l 0 (fun y hy => hp y (List.mem_cons_of_mem _ hy)) (Int.le_refl _) (by
        rw [← sm_list]
        exact sm_nonneg fun v hv => hp _ (List.mem_cons_of_mem _ (getD_mem 0 hv)))
      refine ⟨a :: m, by rw [List.length_cons, List.length_cons, m1], by rw [List.sum_cons, m2]; omega, fun j hj => ?_⟩
      cases j with
      | zero => exact ⟨h0, c⟩
      | succ j => exact m3 j (by simpa using hj)
    · obtain ⟨m, m1, m2, m3⟩ := split_row l (a - x) (fun y hy => hp y (List.mem_cons_of_mem _ hy)) (by omega) (by omega)
      refine ⟨x :: m, by rw [List.length_cons, List.length_cons, m1], by rw [List.sum_cons, m2]; omega, fun j hj => ?_⟩
      cases j with
      | zero => exact ⟨hx, Int.le_refl _⟩
      | succ j => exact m3 j (by simpa using hj)
theorem zero_red {g : Gr} (hg : GOk g) : Red (N g) (Eg g) 0 (fun _ => 0) := by
  have hn := gN hg
  obtain ⟨gE1, gE2, gE3⟩ := gE hg
  refine ⟨fun v _ _ => Int.le_refl _, fun A hA hq => ?_⟩
  obtain ⟨e, he, hne⟩ := gC hg A hA ⟨0, by omega, hq⟩
  obtain ⟨h1, h2⟩ := gE1 e he
  have key : ∀ (E : Es), GE (N g) E → e ∈ E → ∀ v, v < N g → ((v = e.1 ∧ A e.2 = false) ∨ (v = e.2 ∧ A e.1 = false)) → 0 < outd E A v := fun E => by
    induction E with
    | nil => intro _ h; cases h
    | cons b E ih =>
      intro hE hm v hv hc
      have h0 := outd_nonneg A v E
      obtain ⟨b1, b2⟩ := hE b List.mem_cons_self
      rw [outd_cons]
      rcases List.mem_cons.1 hm with k | k
      · subst k
        rcases hc with ⟨c1, c2⟩ | ⟨c1, c2⟩
        · rw [if_pos c1, c2]; simp only [cond_false]; omega
        · rw [if_neg (by omega), if_pos c1, c2]; simp only [cond_false]; omega
      · have := ih hE.tail k v hv hc
        have hb : ∀ z : Bool, (0 : Int) ≤ cond z 0 1 := fun z => by cases z <;> decide
        have := hb (A b.2)
        have := hb (A b.1)
        split
        · omega
        · split <;> omega
  cases a1 : A e.1 with
  | true =>
    cases a2 : A e.2 with
    | true => rw [a1, a2] at hne; exact absurd rfl hne
    | false => exact ⟨e.1, by omega, a1, key _ gE1 he _ (by omega) (.inl ⟨rfl, a2⟩)⟩
  | false =>
    cases a2 : A e.2 with
    | true => exact ⟨e.2, h2, a2, key _ gE1 he _ h2 (.inr ⟨rfl, a1⟩)⟩
    | false => rw [a1, a2] at hne; exact absurd rfl hne
theorem nu_pos {E : Es} {q : Nat} : ∀ {L : List Nat}, OrdL E (fun _ => 0) q L → L.Nodup → ∀ v ∈ L, v ≠ q → 0 ≤ nu E L v
  | a :: L, h, hn, v, hv, hne => by
    rw [List.nodup_cons] at hn
    simp only [nu]
    by_cases c : v = a
    · subst c
      rw [if_pos rfl]
      rcases h with ⟨h1, h2⟩ | ⟨h1, h2⟩
      · exact absurd h2 hne
      · have h1' : (0 : Int) < outd E (cmp L) v := h1
        omega
    · rw [if_neg c]
      have hm : v ∈ L := (List.mem_cons.1 hv).resolve_left c
      rcases h with ⟨h1, _⟩ | ⟨_, h2⟩
      · rw [h1] at hm; cases hm
      · exact nu_pos h2 hn.2 v hm hne
theorem Win.add {g : Gr} {D D' D'' : Nat → Int} (h : Win g D) (h' : Win g D') (e : ∀ v, v < N g → D'' v = D v + D' v) : Win g D'' := by
  obtain ⟨r, h1, h2, S, h3⟩ := h
  obtain ⟨r', k1, k2, S', k3⟩ := h'
  refine ⟨(List.range (N g)).map fun v => r.getD v 0 + r'.getD v 0, by simp, fun v hv => ?_, fun v => S v + S' v, fun v hv => ?_⟩
  · rw [getD_range_map _ hv]
    have := h2 v hv
    have := k2 v hv
    omega
  · rw [getD_range_map _ hv, h3 v hv, k3 v hv, e v hv, lap_add]; omega
/-- two ranks of divisors that add up to the canonical one -/
theorem cliff_add {g : Gr} (hg : GOk g) {D1 D2 : Nat → Int} (hK : ∀ v, v < N g → D1 v + D2 v = Kn g v) {r1 r2 : Nat} {w1 w2 : List Int} (h1 : RK g D1 r1 w1) (h2 : RK g D2 r2 w2) (p1 : 1 ≤ r1) (p2 : 1 ≤ r2) : (r1 : Int) + (r2 : Int) - 2 ≤ (g.2.length : Int) - (N g : Int) := by
  have hn := gN hg
  obtain ⟨gE1, gE2, gE3⟩ := gE hg
  refine Int.not_lt.1 fun hc => ?_
  obtain ⟨L, l1, l2, l3, l4, l5⟩ := ord_ex (q := 0) (by omega) (zero_red hg) (N g - 1) (by omega)
  have hl : L.length = N g := by omega
  have hf := full hl l2 l3
  have hdeg := nu_deg gE1 hl l2 l3
  rw [gE3] at hdeg
  have hnu0 : -1 ≤ nu (Eg g) L 0 := by
    have key : ∀ M : List Nat, -1 ≤ nu (Eg g) M 0 := fun M => by
      induction M with
      | nil => exact Int.le_refl _
      | cons a M ih =>
        rw [nu]
        have := outd_nonneg (cmp M) 0 (Eg g)
        split <;> omega
    exact key L
  let f : List Int := (List.range (N g)).map fun v => nu (Eg g) L v + if v = 0 then 1 else 0
  have hfl : f.length = N g := by simp [f]
  have hfv : ∀ v, v < N g → f.getD v 0 = nu (Eg g) L v + if v = 0 then 1 else 0 := fun v hv => getD_range_map _ hv
  have hfp : ∀ x ∈ f, 0 ≤ x := fun x hx => by
    obtain ⟨j, hj, e⟩ := mem_getD hx
    rw [← e, hfv j (by omega)]
    by_cases c : j = 0
    · rw [if_pos c, c]; omega
    · have := nu_pos l5 l2 j (hf j (by omega)) c
      rw [if_neg c]; omega
  have hfs : f.sum = (g.2.length : Int) - (N g : Int) + 1 := by
    have := sm_list f
    rw [hfl, sm_congr hfv, sm_add, sm_one, if_pos (show 0 < N g by omega)] at this
    omega
  have hs0 : 0 ≤ f.sum := by
    rw [← sm_list, hfl]
    exact sm_nonneg fun v hv => hfp _ (getD_mem 0 (by omega))
  let a : Int := min f.sum ((r1 : Int) - 1)
  have ha0 : 0 ≤ a := by simp only [a]; omega
  have haf : a ≤ f.sum := by simp only [a]; omega
  have har : a ≤ (r1 : Int) - 1 := by simp only [a]; omega
  have hab : f.sum - a ≤ (r2 : Int) - 1 := by simp only [a]; omega
  obtain ⟨m, m1, m2, m3⟩ := split_row f a hfp ha0 haf
  have hm0 : ∀ x ∈ m, 0 ≤ x := fun x hx => by
    obtain ⟨j, hj, e⟩ := mem_getD hx
    rw [← e]; exact (m3 j (by omega)).1
  let m' : List Int := (List.range (N g)).map fun v => f.getD v 0 - m.getD v 0
  have hm'l : m'.length = N g := by simp [m']
  have hm'v : ∀ v, v < N g → m'.getD v 0 = f.getD v 0 - m.getD v 0 := fun v hv => getD_range_map _ hv
  have hm'0 : ∀ x ∈ m', 0 ≤ x := fun x hx => by
    obtain ⟨j, hj, e⟩ := mem_getD hx
    rw [← e, hm'v j (by omega)]
    have := m3 j (by omega)
    omega
  have hm's : m'.sum = f.sum - a := by
    have b1 := sm_list m'
    have b2 := sm_list f
    have b3 := sm_list m
    rw [hm'l, sm_congr hm'v, sm_sub] at b1
    rw [hfl] at b2
    rw [m1, hfl] at b3
    omega
  have W1 := h1.up a.toNat (by omega) m (eff_in (by omega) hm0 (by omega))
  have W2 := h2.up (f.sum - a).toNat (by omega) m' (eff_in (by omega) hm'0 (by omega))
  have W := W1.add W2 (D'' := Mi (Kn g) f) (fun v hv => by
    have := hK v hv
    have := hm'v v hv
    unfold Mi; omega)
  have W3 : Win g (fun v => Kn g v - nu (Eg g) L v) := W.more fun v hv => by
    have := hfv v hv
    unfold Mi
    split at this <;> omega
  obtain ⟨r, q1, q2, S, q3⟩ := W3
  refine nu_lost hg hl l2 l3 S fun v hv => ?_
  have := q2 v hv
  rw [q3 v hv] at this
  exact this
/-! ### base points -/
theorem ibase_p {g : Gr} {d : List Int} (h : DOk g d) (h7 : sm (N g) (fn d) ≤ 7) {r : Int} (hr : impl_RankOf g d = some (r, true)) : ∃ x, impl_BasePoints g d = some x ∧ x.length ≤ 6 ∧ (r < 0 → x = []) ∧ (0 ≤ r → ∀ v : Nat, v < N g → ∃ q w, impl_rank g (d.set v (fn d v - 1)) = some (q, w) ∧ ((v : Int) ∈ x ↔ q = r)) := by
  have hn := gN h.1
  obtain ⟨h1, h2⟩ := h.vec
  rw [impl_BasePoints_eq, hr]
  simp only [Option.bind_some, Bool.not_true, cond_false]
  by_cases c : r < 0
  · rw [decide_eq_true c]; exact ⟨[], rfl, Nat.zero_le _, fun _ => rfl, fun k => by omega⟩
  · rw [decide_eq_false c]
    simp only [cond_false]
    have rk : ∀ v : Nat, v < N g → ∃ q w, impl_rank g (d.set v (fn d v - 1)) = some (q, w) := fun v hv => by
      obtain ⟨v1, v2⟩ := lessAt h hv
      obtain ⟨q, w, q1, _⟩ := rank_p h.1 v1 (v2.mono (by omega)) (by rw [lessAt_sum hv]; omega)
      exact ⟨_, _, q1⟩
    have key : ∀ (m k : Nat) (s : List Int), k + m = N g → s.length ≤ k → (∀ x ∈ s, x < (k : Int)) → (∀ v : Nat, v < k → ∃ q w, impl_rank g (d.set v (fn d v - 1)) = some (q, w) ∧ ((v : Int) ∈ s ↔ q = r)) →
        ∃ x, impl_BasePoints_l0 d g r s ((N g : Nat) : Int) (k : Int) = some x ∧ x.length ≤ 6 ∧ ∀ v : Nat, v < N g → ∃ q w, impl_rank g (d.set v (fn d v - 1)) = some (q, w) ∧ ((v : Int) ∈ x ↔ q = r) := by
      intro m
      induction m with
      | zero =>
        intro k s hk hs _ hv
        have : k = N g := by omega
        subst this
        rw [impl_BasePoints_l0_eq, dec_lt_f]
        exact ⟨s, rfl, by omega, hv⟩
      | succ m ih =>
        intro k s hk hs hlt hv
        have hk' : k < N g := by omega
        obtain ⟨v1, v2⟩ := lessAt h hk'
        obtain ⟨q, w, q1⟩ := rk k hk'
        have hb : vec (N g) ((List.replicate (N g) (0 : Int)).set k (-1)) (fun w => if w = k then -1 else 0) := (vec.zero _).set hk' _
        obtain ⟨y, y1, y2⟩ := plus_p hn.2.2 h1 hb (h2.mono (by omega)) (fun w hw => by
          show -100000 ≤ (if w = k then (-1 : Int) else 0) ∧ (if w = k then (-1 : Int) else 0) ≤ 100000
          split <;> omega)
        have hy : y = d.set k (fn d k - 1) := y2.eq v1 fun w hw => by
          by_cases c : w = k
          · subst c; rw [if_pos rfl, if_pos rfl]; omega
          · rw [if_neg c, if_neg c]; omega
        rw [impl_BasePoints_l0_eq, dec_lt_t hk', cond_true, w64_succ hk' (by omega), oneAt_p h.1 hk']
        simp only [Option.bind_some, y1, hy, q1]
        by_cases cq : q = r
        · rw [beq_t cq, cond_true, decide_eq_true (by rw [room]; simp only [List.length_singleton]; omega), cond_true]
          refine ih (k + 1) _ (by omega) (by rw [List.length_append]; simp only [List.length_singleton]; omega) (fun x hx => ?_) fun v hv' => ?_
          · rcases List.mem_append.1 hx with hx | hx
            · have := hlt x hx; omega
            · rw [List.mem_singleton.1 hx]; omega
          · rcases Nat.lt_or_ge v k with k1 | k1
            · obtain ⟨q', w', a1, a2⟩ := hv v k1
              refine ⟨q', w', a1, ?_⟩
              rw [List.mem_append, a2, List.mem_singleton]
              exact ⟨fun h => h.resolve_right fun h => by omega, .inl⟩
            · have : v = k := by omega
              subst this
              exact ⟨q, w, q1, ⟨fun _ => cq, fun _ => List.mem_append_right _ (List.mem_singleton.2 rfl)⟩⟩
        · rw [beq_f cq, cond_false]
          refine ih (k + 1) s (by omega) (by omega) (fun x hx => by have := hlt x hx; omega) fun v hv' => ?_
          rcases Nat.lt_or_ge v k with k1 | k1
          · exact hv v k1
          · have : v = k := by omega
            subst this
            exact ⟨q, w, q1, ⟨fun hm => by have := hlt _ hm; omega, fun h => absurd h cq⟩⟩
    rw [h1.1]
    obtain ⟨x, x1, x2, x3⟩ := key (N g) 0 [] (by omega) (Nat.le_refl _) (fun x hx => (List.not_mem_nil hx).elim) (fun v hv => by omega)
    exact ⟨x, x1, x2, fun k => absurd k c, fun _ => x3⟩
theorem lhas_p {l : List Int} {v : Int} (h : l.length ≤ 1000) : laws_has l v = some (decide (v ∈ l)) := by
  rw [laws_has_eq]
  obtain ⟨b, h1, h2⟩ := upAny (n := l.length) (f := fun i => laws_has_l0 v l (l.length : Int) i) (p := fun k => decide (l.getD k 0 = v)) (fun k hk => by
    rw [laws_has_l0_eq, dec_lt_t hk, inside_lt hk, toNat_n, w64_succ hk (by omega)]
    simp only [cond_true]
    by_cases c : l.getD k 0 = v
    · rw [beq_t c, decide_eq_true c]
    · rw [beq_f c, decide_eq_false c]) (by rw [laws_has_l0_eq, dec_lt_f]; rfl)
  have h1' : laws_has_l0 v l (l.length : Int) 0 = some b := h1
  rw [h1']
  congr 1
  rw [Bool.eq_iff_iff, h2, decide_eq_true_iff]
  constructor
  · rintro ⟨j, hj, e⟩
    rw [← of_decide_eq_true e]; exact getD_mem 0 hj
  · intro hm
    obtain ⟨j, hj, e⟩ := mem_getD hm
    exact ⟨j, hj, decide_eq_true e⟩
theorem law_Clifford {l : List Int} : laws_FnClifford l = some true := by
  rw [laws_FnClifford_eq]
  by_cases c0 : (l.length : Int) > 1048576
  · rw [decide_eq_true c0]; rfl
  rw [decide_eq_false c0, cond_false]
  obtain ⟨g, g1, g2, g3, g4⟩ := small_p (l := l) (by omega)
  obtain ⟨d, d1, d2, d3, d4⟩ := few_p (l := l) (by omega) g2 (n := 20) (by omega)
  have d1' : spec_MakeFew l 20 g = some d := d1
  obtain ⟨num, n1, n2, n3⟩ := num_p (l := l) (by omega) (n := 60) (by omega)
  have n1' : spec_MakeNum l 60 = some num := n1
  have hn := gN g2
  have h12 := g2.1.2.1
  obtain ⟨gE1, gE2, gE3⟩ := gE g2
  obtain ⟨v, hv⟩ : ∃ v : Nat, Int.tmod num g.1 = (v : Int) := ⟨(Int.tmod num g.1).toNat, by have := Int.tmod_nonneg g.1 n2; omega⟩
  have hvN : v < N g := by have := Int.tmod_lt_of_pos num (show 0 < g.1 by omega); omega
  obtain ⟨s1, s2⟩ := d2.small
  obtain ⟨h1, h2⟩ := d2.vec
  have hdv := d4 v hvN
  let e : List Int := d.set v (fn d v + 1)
  have efn : ∀ w, fn e w = if w = v then fn d v + 1 else fn d w := fun w => getD_set (by rw [h1.1]; exact hvN)
  have eok : DOk g e := ⟨g2, by simp only [e, List.length_set]; rw [h1.1]; omega, fun j hj => by
    simp only [e, List.length_set] at hj
    have a1 := d4 j (by rw [← h1.1]; exact hj)
    have a2 := efn j
    show -60 ≤ fn e j ∧ fn e j ≤ 60
    rw [a2]
    split <;> omega⟩
  have esum : sm (N g) (fn e) = sm (N g) (fn d) + 1 := by
    have : sm (N g) (fn e) = sm (N g) (fun w => fn d w + if w = v then 1 else 0) := sm_congr fun w _ => by
      rw [efn w]
      by_cases c : w = v
      · rw [if_pos c, if_pos c, c]
      · rw [if_neg c, if_neg c]; omega
    rw [this, sm_add, sm_one, if_pos hvN]
  obtain ⟨r, b, _, r2, r3, r4, r5, r6⟩ := rankOf_p (g := g) (d := d) s1 s2
  have hb := r3.2 ⟨d2, by omega⟩
  subst hb
  obtain ⟨kr, w, e1, e2, e3, e4, _⟩ := r6 rfl
  obtain ⟨n, b, _, t2, t3, t4, t5, t6⟩ := rankOf_p (g := g) (d := e) s1 eok.small.2
  have hb := t3.2 ⟨eok, by omega⟩
  subst hb
  obtain ⟨kn, w', f1, f2, f3, f4, _⟩ := t6 rfl
  have hone := e2.one g2 hvN (D' := fn e) (fun u _ => by
    rw [efn u]
    unfold up1
    by_cases c : u = v
    · rw [if_pos c, if_pos c, c]
    · rw [if_neg c, if_neg c]) f2
  rw [g1, Option.bind_some, d1', Option.bind_some, n1', Option.bind_some, decide_eq_false (by omega), cond_false, r2, Option.bind_some, decide_eq_true (by rw [h1.1, room]; simp only [List.length_nil]; omega), cond_true, hv]
  simp only [List.nil_append]
  rw [inside_lt (by rw [h1.1]; exact hvN), cond_true, cond_true, toNat_n, show d.getD v 0 = fn d v from rfl, w64_id (n := fn d v + 1) (by omega) (by omega)]
  have t2' : impl_RankOf g (d.set v (fn d v + 1)) = some (n, true) := t2
  rw [t2', Option.bind_some, laws_FnClifford_c10_eq]
  simp only [Bool.not_true, cond_false]
  rw [decide_eq_false (by omega), cond_false, w64_id (n := r + 1) (by omega) (by omega), decide_eq_false (by omega), cond_false]
  -- the base points
  have tail : laws_FnClifford_c15 g (v : Int) r e n = some true := by
    obtain ⟨x, x1, x2, x3, x4⟩ := ibase_p eok (by omega) t2
    rw [laws_FnClifford_c15_eq, x1, Option.bind_some, lhas_p (by omega)]
    by_cases c : n < 0
    · rw [decide_eq_true c, x3 c]; rfl
    · rw [decide_eq_false c, decide_eq_true (by omega)]
      simp only [cond_false, cond_true, Option.bind_some]
      obtain ⟨q, w2, q1, q2⟩ := x4 (by omega) v hvN
      have hback : e.set v (fn e v - 1) = d := by
        refine ext_getD (d := 0) (by simp [e]) fun j hj => ?_
        simp only [e, List.length_set] at hj
        have a1 : (e.set v (fn e v - 1)).getD j 0 = if j = v then fn e v - 1 else e.getD j 0 := getD_set (by simp only [e, List.length_set]; rw [h1.1]; exact hvN)
        have a2 := efn j
        have a3 := efn v
        rw [if_pos rfl] at a3
        rw [a1]
        unfold fn at a2 a3 ⊢
        rw [a2, a3]
        by_cases c : j = v
        · rw [if_pos c, c]; omega
        · rw [if_neg c, if_neg c]
      rw [hback, e4] at q1
      obtain ⟨rfl, rfl⟩ : r = q ∧ w = w2 := by
        have := Option.some.inj q1
        exact ⟨congrArg Prod.fst this, congrArg Prod.snd this⟩
      congr 1
      rw [beq_iff_eq, Bool.eq_iff_iff, decide_eq_true_iff, beq_iff_eq, q2]
      exact eq_comm
  -- the gap
  obtain ⟨x, b, _, x2, x3, x4, x5, _⟩ := residual_p (g := g) (d := d) s1 s2
  have hb := x4.2 d2
  subst hb
  obtain ⟨xv, xb⟩ := x5 rfl
  have xok : DOk g x := ⟨g2, by rw [xv.1]; omega, fun j hj => by
    rw [xv.1] at hj
    rw [xv.2 j hj]
    have := val_bd j (Eg g)
    have := d4 j hj
    unfold Rs Kn; omega⟩
  obtain ⟨s, f, _, u2, u3, u4, u5, u6⟩ := rankOf_p (g := g) (d := x) s1 (by rw [xv.1]; omega)
  have hrr := irr_p x2 r2 u2
  have hgap : ∃ q sp, impl_CliffordGap g d = some (q, sp) ∧ (sp = true → 0 ≤ q ∧ q = sm (N g) (fn d) - 2 * r ∧ impl_IsSpecial g d = some true) := by
    rw [impl_CliffordGap_eq, hrr]
    simp only [Option.bind_some]
    cases f with
    | false => exact ⟨_, _, rfl, fun k => by cases k⟩
    | true =>
      simp only [cond_true, Bool.not_true, cond_false]
      by_cases c1 : r < 0
      · rw [decide_eq_true c1]; exact ⟨_, _, rfl, fun k => by cases k⟩
      · rw [decide_eq_false c1]
        simp only [cond_false]
        by_cases c2 : s < 0
        · rw [decide_eq_true c2]; exact ⟨_, _, rfl, fun k => by cases k⟩
        · rw [decide_eq_false c2, (deg_p d2).2]
          have hdb := deg_bd g2 (by omega) d2.vec.2
          simp only [cond_false, Option.bind_some]
          rw [w64_id (n := 2 * r) (by omega) (by omega), w64_id (by omega) (by omega)]
          refine ⟨_, _, rfl, fun _ => ?_⟩
          obtain ⟨ks, w'', k1, k2, k3, _, _⟩ := u6 rfl
          have hKK : ∀ v, v < N g → fn d v + fn x v = Kn g v := fun v hv => by
            have := xv.2 v hv
            unfold fn
            unfold Rs fn at this
            omega
          have hRR := rr g2 hKK (d2.vec.2.mono (by omega)) (xok.vec.2.mono (by omega)) e2 k2 (by omega) (by omega)
          have hca := cliff_add g2 hKK e2 k2 (by omega) (by omega)
          refine ⟨by omega, rfl, ?_⟩
          obtain ⟨z, z1, _, z2⟩ := win_iff g2 xv (xb.mono (by omega))
          rw [impl_IsSpecial_eq, r2]
          simp only [Option.bind_some, Bool.not_true, cond_false, x2, z1]
          congr 1
          have hcong : Win g (Rs g d) ↔ Win g (fn x) := Win.iff fun v hv => (xv.2 v hv).symm
          rw [z2, hcong, ← k2.win g2]
          omega
  obtain ⟨q, sp, q1, q2⟩ := hgap
  rw [q1, Option.bind_some]
  cases sp with
  | false => exact tail
  | true =>
    obtain ⟨a1, a2, a3⟩ := q2 rfl
    have hdb := deg_bd g2 (by omega) d2.vec.2
    simp only [cond_true]
    rw [decide_eq_false (by omega), cond_false, (deg_p d2).2, Option.bind_some, w64_id (n := 2 * r) (by omega) (by omega), w64_id (by omega) (by omega), eq_f a2, cond_false, a3, Option.bind_some, Bool.not_true, cond_false]
    exact tail
end Go.Proofs.YtfpccehboifkbaaGreatDoor.D

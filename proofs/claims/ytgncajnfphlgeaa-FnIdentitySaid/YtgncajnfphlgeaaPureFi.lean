/-
  FnIdentity: the identity is a harmonic morphism of degree 1, and is counted.
-/
import Derived.Test.YtgncajnfphlgeaaPureMd
import Derived.Test.YtgncajnfphlgeaaPureCm
namespace Go.Proofs.Ytgncajnfphlgeaa.D
open Go Go.Den
set_option linter.unusedVariables false
set_option linter.unusedSimpArgs false
theorem sameI_p {a b : List Int} (ha : a.length ≤ 1000) : laws_same a b = some (decide (a = b)) := by
  rw [laws_same_eq]
  by_cases c : a.length = b.length
  · have key : ∀ m k, k + m = a.length → (∀ j, j < k → a.getD j 0 = b.getD j 0) → laws_same_l0 b a (a.length : Int) (k : Int) = some (decide (a = b)) := by
      intro m
      induction m with
      | zero =>
        intro k hk h
        have : k = a.length := by omega
        subst this
        rw [laws_same_l0_eq, dec_lt_f, decide_eq_true (ext_getD (d := 0) c fun j hj => h j hj)]; rfl
      | succ m ih =>
        intro k hk h
        have hk' : k < a.length := by omega
        rw [laws_same_l0_eq, dec_lt_t hk', inside_lt hk', inside_lt (by omega), w64_succ hk' (by omega), toNat_n]
        simp only [cond_true]
        by_cases e : a.getD k 0 = b.getD k 0
        · rw [eq_f e, cond_false]
          exact ih (k + 1) (by omega) fun j hj => by
            by_cases e2 : j = k
            · subst e2; exact e
            · exact h j (by omega)
        · rw [ne_t e, cond_true, decide_eq_false (fun k => e (by rw [k]))]
    rw [eq_f (show (a.length : Int) = (b.length : Int) by omega), cond_false]
    exact key a.length 0 (by omega) (fun j hj => by omega)
  · rw [ne_t (show ¬ (a.length : Int) = (b.length : Int) by omega), cond_true, decide_eq_false (fun k => c (by rw [k]))]
theorem smallG_p {l : List Int} (h : l.length ≤ 1048576) : ∃ g, spec_MakeSmall l = some g ∧ GOk g ∧ 2 ≤ g.1 ∧ g.1 ≤ 4 ∧ 1 ≤ g.2.length := by
  obtain ⟨c, c1, c2⟩ := new_p h
  obtain ⟨r, c', r1, r2, r3⟩ := below_p c2 (n := 3) (by omega) (by omega)
  rw [spec_MakeSmall_eq, c1, Option.bind_some, spec_l02Draw_eq, show w64 ((4 : Int) - 1) = 3 from rfl, r1, Option.bind_some]
  obtain ⟨n, hn⟩ : ∃ n : Nat, 2 + r = (n : Int) := ⟨(2 + r).toNat, by omega⟩
  simp only
  rw [w64_id (by omega) (by omega), hn]
  have tree : ∀ (m k : Nat) (c : Cur) (es : List (Int × Int)), k + m = n → 1 ≤ k → CurOk c → TrE es → es.length + 1 = k → ∃ c' es', spec_l02Draw_l0 c (0, []) ((k : Int), es) (n : Int) (k : Int) = spec_l02Draw_l2 c' (0, []) ((n : Int), es') (n : Int) ((n : Int), []) 0 ∧ CurOk c' ∧ TrE es' ∧ es'.length + 1 = n := by
    intro m
    induction m with
    | zero =>
      intro k c es hk hk1 hc ht hl
      have : k = n := by omega
      subst this
      rw [spec_l02Draw_l0_eq, dec_lt_f]
      exact ⟨c, es, rfl, hc, ht, hl⟩
    | succ m ih =>
      intro k c es hk hk1 hc ht hl
      have hk' : k < n := by omega
      obtain ⟨x, c', a1, a2, a3⟩ := below_p hc (n := (k : Int)) (by omega) (by omega)
      rw [spec_l02Draw_l0_eq, dec_lt_t hk', cond_true, a1, Option.bind_some, decide_eq_true (by rw [room]; simp only [List.length_singleton]; omega), cond_true, w64_succ hk' (by omega)]
      refine ih (k + 1) c' _ (by omega) (by omega) a3 (fun j hj => ?_) (by rw [List.length_append]; simp only [List.length_singleton]; omega)
      have hj : j < es.length + 1 := by simpa using hj
      rcases Nat.lt_or_ge j es.length with q | q
      · rw [getD_appL q]; exact ht j q
      · have : j = es.length := by omega
        subst this
        rw [List.getD_eq_getElem?_getD, List.getElem?_append_right (Nat.le_refl _), Nat.sub_self]
        refine ⟨by show (k : Int) = _; omega, by show 0 ≤ x; omega, by show x ≤ _; omega⟩
  obtain ⟨c2', es, e1, e2, e3, e4⟩ := tree (n - 1) 1 c' [] (by omega) (Nat.le_refl _) r3 (fun j hj => absurd hj (Nat.not_lt_zero j)) rfl
  obtain ⟨hs, h1, h2⟩ := draw2 (c := c2') (x4 := (0, [])) e3 e4 (by omega) n 0 [] (by omega) ⟨List.Pairwise.nil, fun e he => (List.not_mem_nil he).elim, fun j hj hlt => by
    obtain ⟨q1, q2, q3⟩ := e3 j hj
    unfold Lt at hlt
    simp only at hlt
    omega, fun e he => (List.not_mem_nil he).elim⟩
  have hG : GOk ((n : Int), hs) := by
    refine ⟨⟨⟨by show 1 ≤ (n : Int); omega, by show (n : Int) ≤ 6; omega⟩, Nat.le_trans (h2.len (by omega)) (by decide), fun j hj => (h2.ok _ (getD_mem (0, 0) hj)).1⟩, pair_srt (h2.srt.imp fun {a b} hab k => Lt.irrefl (Lt.trans hab k)), fun v h0 hv => ?_⟩
    have key : ∀ (m v : Nat), v ≤ m → v < n → Conn hs (v : Int) := by
      intro m
      induction m with
      | zero => intro v hv _; rw [show v = 0 by omega]; exact .zero
      | succ m ih =>
        intro v hv hvn
        rcases Nat.eq_zero_or_pos v with k | k
        · rw [k]; exact .zero
        · obtain ⟨q1, q2, q3⟩ := e3 (v - 1) (by omega)
          have hm := h2.all (v - 1) (by omega) (by unfold Lt; simp only; omega)
          obtain ⟨i, hi, e⟩ := List.getElem_of_mem hm
          have hgi : hs.getD i (0, 0) = es.getD (v - 1) (0, 0) := by rw [getD_lt hi]; exact e
          have hu := ih (es.getD (v - 1) (0, 0)).1.toNat (by omega) (by omega)
          rw [show (((es.getD (v - 1) (0, 0)).1.toNat : Nat) : Int) = (es.getD (v - 1) (0, 0)).1 by omega, ← hgi] at hu
          have := Conn.fwd hi hu
          rw [hgi, q1, show ((v - 1 : Nat) : Int) + 1 = (v : Int) by omega] at this
          exact this
    have := key v.toNat v.toNat (Nat.le_refl _) (by show v.toNat < n; have : v < (n : Int) := hv; omega)
    rwa [show ((v.toNat : Nat) : Int) = v by omega] at this
  obtain ⟨x, c3, a1, a2, a3⟩ := below_p e2 (n := 5) (by omega) (by omega)
  have h2l := h2.len2
  obtain ⟨g', c4, b1, b2, b3, b4, b5⟩ := draw8 (x4 := (0, [])) (n := n) (by omega) (by omega) x.toNat c3 _ (by omega) a3 hG rfl
  rw [show ((x.toNat : Nat) : Int) = x by omega] at b1
  have e1' : spec_l02Draw_l0 c' (0, []) (1, []) (n : Int) 1 = _ := e1
  have h1' : spec_l02Draw_l2 c2' (0, []) ((n : Int), es) (n : Int) ((n : Int), []) 0 = _ := h1
  rw [e1', h1', spec_l02Draw_l2_eq, dec_lt_f, cond_false, a1, Option.bind_some]
  simp only
  rw [b1]
  have b5' : g'.2.length ≤ hs.length + x.toNat := b5
  refine ⟨g', rfl, b2, by rw [b3]; omega, by rw [b3]; omega, ?_⟩
  apply Classical.byContradiction
  intro hz
  have hz' : g'.2 = [] := List.eq_nil_of_length_eq_zero (by omega)
  obtain ⟨v, hv⟩ : ∃ v, v < N g' ∧ v ≠ 0 := ⟨1, by have := (gN b2).1; omega, by omega⟩
  have := val_pos b2 hv.1 (q := 0) (by have := (gN b2).2.1; omega) hv.2
  have e : Eg g' = [] := by unfold Eg; rw [hz']; rfl
  rw [e] at this
  simp [val] at this
theorem SS_ge : ∀ {n i : Nat} {f : Nat → Nat}, i < n → f i ≤ SS n f
  | 0, _, _, h => absurd h (Nat.not_lt_zero _)
  | n + 1, i, f, h => by
    show f i ≤ SS n f + f n
    by_cases c : i = n
    · subst c; omega
    · have := SS_ge (n := n) (f := f) (show i < n by omega)
      omega
theorem cnt_pos {g h : Gr} {V W : List Int} (hl : W.length = g.2.length) (hw : ∀ k, k < g.2.length → ∃ i, i < h.2.length + 1 ∧ W.getD k 0 = (i : Int) - 1 ∧ Lb.cmHit g h V k ((i : Int) - 1) = true) (h1 : hm g h V W = 1) : ∀ d, d ≤ g.2.length → 1 ≤ cnt g h V d (W.take (g.2.length - d))
  | 0, _ => by
    rw [Nat.sub_zero, ← hl, List.take_length]
    show 1 ≤ hm g h V W
    omega
  | d + 1, hd => by
    have ih := cnt_pos hl hw h1 d (by omega)
    obtain ⟨k, hk⟩ : ∃ k, k = g.2.length - (d + 1) := ⟨_, rfl⟩
    obtain ⟨i, i1, i2, i3⟩ := hw k (by omega)
    rw [← hk]
    have := SS_ge (f := fun i => cond (Lb.cmHit g h V (W.take k).length ((i : Int) - 1)) (cnt g h V d (W.take k ++ [(i : Int) - 1])) 0) i1
    refine Nat.le_trans ?_ this
    rw [List.length_take, Nat.min_eq_left (by omega), i3, cond_true, ← i2, ← take_succ 0 (by omega), show k + 1 = g.2.length - d by omega]
    exact ih
theorem vs_pos {F : List Int → Nat} {H : Nat} {P : List Int} (hp : ∀ k, k < P.length → ∃ i, i < H ∧ P.getD k 0 = (i : Int)) (h1 : 1 ≤ F P) : ∀ d, d ≤ P.length → 1 ≤ vs F H d (P.take (P.length - d))
  | 0, _ => by
    rw [Nat.sub_zero, List.take_length]
    exact h1
  | d + 1, hd => by
    have ih := vs_pos hp h1 d (by omega)
    obtain ⟨k, hk⟩ : ∃ k, k = P.length - (d + 1) := ⟨_, rfl⟩
    obtain ⟨i, i1, i2⟩ := hp k (by omega)
    rw [← hk]
    have := SS_ge (f := fun x => vs F H d (P.take k ++ [(x : Int)])) i1
    refine Nat.le_trans ?_ this
    rw [← i2, ← take_succ 0 (by omega), show k + 1 = P.length - d by omega]
    exact ih
theorem impl_small {g h : Gr} (G : GOk g) (K : GOk h) (c1 : g.1 ≤ 4) (c2 : g.2.length ≤ 5) (c3 : h.1 ≤ 3) (c4 : h.2.length ≤ 3) : impl_CountMorphisms g h = some ((vs (uu g h) (N h) (N g) [] : Nat) : Int) := by
  obtain ⟨b, _, p2, p3⟩ := graphOk_p (g := g) (by omega)
  obtain ⟨c, _, q2, q3⟩ := graphOk_p (g := h) (by omega)
  have hb := p3.2 G
  have hc := q3.2 K
  subst hb; subst hc
  rw [impl_CountMorphisms_eq]
  unfold Lb.cm
  rw [p2, q2]
  simp only [Option.bind_some, cond_true]
  rw [decide_eq_true c1, decide_eq_true c2, decide_eq_true c3, decide_eq_true c4]
  simp only [Bool.and_self, cond_true]
  have hin : Lb.cmIn g h = true := by
    unfold Lb.cmIn
    rw [Bool.and_eq_true, Bool.and_eq_true, decide_eq_true_eq, decide_eq_true_eq, List.all_eq_true]
    refine ⟨⟨G.1.1.1, K.1.1.1⟩, fun e he => ?_⟩
    obtain ⟨j, hj, rfl⟩ := List.getElem_of_mem he
    have := G.1.2.2 j hj
    rw [List.getD_eq_getElem?_getD, List.getElem?_eq_getElem hj, Option.getD_some] at this
    obtain ⟨e1, e2, e3⟩ := this
    simp only [Bool.and_eq_true, decide_eq_true_eq]
    omega
  rw [hin, cond_true]
  have gn := gN G
  have kn := gN K
  unfold Lb.cmAll
  obtain ⟨V', E', v1, v2, v3, v4⟩ := verts_p (g := g) (h := h) c2 c4 gn.2.1 (by omega) (by omega : N h ≤ 3) (N g) (Nat.le_refl _) (List.replicate (N g) 0) (List.replicate g.2.length 0) 0 List.length_replicate List.length_replicate (by
    have b2 : 3 ^ (N g) ≤ 3 ^ 4 := Nat.pow_le_pow_right (by omega) (by omega)
    omega)
  rw [Nat.sub_self, Nat.zero_add] at v1
  refine Eq.trans (congrArg (fun o => Option.bind o _) v1) ?_
  rfl
theorem impl_large {g h : Gr} (G : GOk g) (K : GOk h) (c : 3 < h.1 ∨ 3 < h.2.length) : impl_CountMorphisms g h = some (-1) := by
  obtain ⟨b, _, p2, p3⟩ := graphOk_p (g := g) (by have := G.1.2.1; omega)
  obtain ⟨d, _, q2, q3⟩ := graphOk_p (g := h) (by have := K.1.2.1; omega)
  have hb := p3.2 G
  have hc := q3.2 K
  subst hb; subst hc
  rw [impl_CountMorphisms_eq]
  unfold Lb.cm
  rw [p2, q2]
  simp only [Option.bind_some, cond_true]
  rw [show (decide (g.1 ≤ 4) && decide (g.2.length ≤ 5) && decide (h.1 ≤ 3) && decide (h.2.length ≤ 3)) = false by
    rw [← Bool.not_eq_true]; simp only [Bool.and_eq_true, decide_eq_true_eq]; omega]
  rfl
theorem idm1 {g : Gr} {v : Nat} (hv : v < N g) : (idm g).1.getD v 0 = (v : Int) := getD_range_map _ hv
theorem idm2 {g : Gr} {k : Nat} (hk : k < g.2.length) : (idm g).2.getD k 0 = (k : Int) := getD_range_map _ hk
theorem idm1_len (g : Gr) : (idm g).1.length = N g := by
  show (List.map _ _).length = _
  rw [List.length_map, List.length_range]; rfl
theorem idm2_len (g : Gr) : (idm g).2.length = g.2.length := by
  show (List.map _ _).length = _
  rw [List.length_map, List.length_range]
theorem idm_h {g : Gr} (G : GOk g) : HOk g g (idm g) := ident_h G
theorem hr_one {g : Gr} (G : GOk g) (h2 : 2 ≤ g.1) {v : Nat} (hv : v < N g) : Hr g g (idm g) v = 1 := by
  have gn := gN G
  obtain ⟨e, he, hne⟩ := gC G (fun w => decide (w = v)) ⟨v, hv, decide_eq_true rfl⟩ ⟨if v = 0 then 1 else 0, by split <;> omega, decide_eq_false (by split <;> omega)⟩
  obtain ⟨x, hx, rfl⟩ := List.mem_map.1 he
  obtain ⟨k, hk, hxk⟩ := List.getElem_of_mem hx
  have hg : g.2.getD k (0, 0) = x := by rw [List.getD_eq_getElem?_getD, List.getElem?_eq_getElem hk]; exact hxk
  obtain ⟨e1, e2, e3⟩ := G.1.2.2 k hk
  rw [hg] at e1 e2 e3
  have hx12 : x.1 = (v : Int) ∨ x.2 = (v : Int) := by
    have hne' : decide (x.1.toNat = v) ≠ decide (x.2.toNat = v) := hne
    by_cases a : x.1.toNat = v
    · left; omega
    · by_cases b : x.2.toNat = v
      · right; omega
      · rw [decide_eq_false a, decide_eq_false b] at hne'; exact absurd rfl hne'
  have hc : cAt (g.2.getD k (0, 0)) (v : Int) = true := by
    rw [hg]; unfold cAt
    rw [Bool.or_eq_true, beq_iff_eq, beq_iff_eq]; exact hx12
  rw [Hr_at (idm_h G) (by rw [idm1_len]; exact hv) hk (by rw [idm1 hv]; exact hc)]
  unfold ov
  rw [sm_congr (g := fun i => if i = k then 1 else 0) fun i hi => ?_, sm_one, if_pos hk]
  unfold cEq
  rw [idm2 hi]
  by_cases c : i = k
  · subst c
    rw [if_pos rfl, hc, beq_self_eq_true]; rfl
  · rw [if_neg c, show ((i : Int) == (k : Int)) = false from bq_f (by omega), Bool.and_false]; rfl
theorem id_count {g : Gr} (G : GOk g) (h2 : 2 ≤ g.1) (c1 : g.1 ≤ 3) (c2 : g.2.length ≤ 3) : ∃ r, impl_CountMorphisms g g = some r ∧ 1 ≤ r := by
  refine ⟨_, impl_small G G (by omega) (by omega) c1 c2, ?_⟩
  have gn := gN G
  have h1 : 1 ≤ vs (uu g g) (N g) (N g) ((idm g).1.take ((idm g).1.length - N g)) := by
    refine vs_pos (fun k hk => ⟨k, by rw [idm1_len] at hk; exact hk, idm1 (by rw [idm1_len] at hk; exact hk)⟩) ?_ _ (by rw [idm1_len]; exact Nat.le_refl _)
    have hs : same (idm g).1 = false := by
      rw [← Bool.not_eq_true]
      intro c
      unfold same at c
      rw [List.all_eq_true] at c
      have hm : (idm g).1.getD 1 0 ∈ (idm g).1 := by
        rw [List.getD_eq_getElem?_getD, List.getElem?_eq_getElem (by rw [idm1_len]; omega)]; exact List.getElem_mem _
      have := c _ hm
      rw [idm1 (by omega), idm1 (by omega), beq_iff_eq] at this
      omega
    unfold uu
    rw [hs, cond_false]
    have hh : hm g g (idm g).1 (idm g).2 = 1 := by
      obtain ⟨b, _, r2, r3⟩ := harmonic_p (g := g) (h := g) (m := idm g) (by omega) (by omega) (by rw [idm1_len]; omega) (by rw [idm2_len]; omega)
      have hb := r3.2 (idm_h G)
      subst hb
      unfold hm
      exact if_pos r2
    have := cnt_pos (g := g) (h := g) (V := (idm g).1) (W := (idm g).2) (idm2_len g) (fun k hk => ⟨k + 1, by omega, by rw [idm2 hk]; omega, by
      obtain ⟨e1, e2, e3⟩ := G.1.2.2 k hk
      rw [hit1, idm1 (by omega), idm1 (by omega), Bool.and_eq_true, decide_eq_true_eq, decide_eq_true_eq]
      omega⟩) hh g.2.length (Nat.le_refl _)
    rw [Nat.sub_self] at this
    exact this
  rw [idm1_len, Nat.sub_self] at h1
  exact Int.ofNat_le.2 h1
theorem law_Identity {l : List Int} : laws_FnIdentity l = some true := by
  rw [laws_FnIdentity_eq]
  by_cases c0 : (l.length : Int) > 1048576
  · rw [decide_eq_true c0]; rfl
  obtain ⟨g, g1, G, n2, n4, e1⟩ := smallG_p (l := l) (by omega)
  have gn := gN G
  have g12 := G.1.2.1
  have H := idm_h G
  obtain ⟨b, _, p2, p3⟩ := graphOk_p (g := g) (by omega)
  have hb := p3.2 G
  subst hb
  have hid := impl_id_p (g := g) (by omega) p2 fun _ => G
  rw [cond_true] at hid
  obtain ⟨d, D, d1, d2, d3⟩ := makeDivisor_p (l := l) (by omega) G (n := 20) (by omega)
  have d1' : spec_MakeDivisor l 20 g = some d := d1
  have hD : Bd (N g) 60 D := fun v hv => by have := d3 v hv; omega
  obtain ⟨x, x1, x2⟩ := push_i H d2 hD
  obtain ⟨y, y1, y2⟩ := pull_i H d2 hD
  have hx : x = d := by
    refine ext_getD (d := 0) (by rw [x2.1, d2.1]) fun j hj => ?_
    rw [x2.1] at hj
    rw [x2.2 j hj, d2.2 j hj]
    unfold fib
    rw [sm_congr (g := fun v => if v = j then D j else 0) fun v hv => ?_, sm_one, if_pos hj]
    rw [idm1 hv]
    by_cases c : v = j
    · subst c; rw [if_pos rfl, if_pos rfl]
    · rw [if_neg c, if_neg (by omega)]
  have hy : y = d := by
    refine ext_getD (d := 0) (by rw [y2.1, d2.1]) fun j hj => ?_
    rw [y2.1] at hj
    rw [y2.2 j hj, d2.2 j hj]
    show Hr g g (idm g) j * D ((idm g).1.getD j 0).toNat = D j
    rw [hr_one G n2 hj, idm1 hj, Int.toNat_natCast, Int.one_mul]
  subst hx
  have hyx : y = x := hy
  subst hyx
  obtain ⟨b, _, r2, r3⟩ := harmonic_p (g := g) (h := g) (m := idm g) (by omega) (by omega) (by rw [idm1_len]; omega) (by rw [idm2_len]; omega)
  have hb := r3.2 H
  subst hb
  have hct : ct g (idm g) 0 = 1 := by
    unfold ct
    rw [sm_congr (g := fun v => if v = 0 then 1 else 0) fun v hv => ?_, sm_one, if_pos (by omega)]
    rw [idm2 hv]
    by_cases c : v = 0
    · subst c; rfl
    · rw [if_neg c, if_neg (by omega)]
  have hsame : laws_same y y = some true := by
    rw [sameI_p (by have := d2.1; omega), decide_eq_true rfl]
  have rest : ∀ r, (1 ≤ r ∧ g.1 ≤ 3 ∧ g.2.length ≤ 3) ∨ (r = -1 ∧ (3 < g.1 ∨ 3 < g.2.length)) → laws_FnIdentity_c9 g (idm g) true y y true y true r = some true := by
    intro r hr
    rw [laws_FnIdentity_c9_eq, r2, degree_i H, hct, hsame]
    simp only [Option.bind_some, cond_true, beq_self_eq_true]
    rcases hr with ⟨a, b, c⟩ | ⟨rfl, a⟩
    · rw [decide_eq_true b, decide_eq_true (show r ≥ 1 from a), decide_eq_true (show (g.2.length : Int) ≤ 3 by omega), show (r == (-1 : Int)) = false from bq_f (by omega)]
      rfl
    · by_cases b : g.1 ≤ 3
      · rw [decide_eq_true b, decide_eq_false (show ¬ (g.2.length : Int) ≤ 3 by omega)]
        rfl
      · rw [decide_eq_false b]
        rfl
  rw [decide_eq_false c0, cond_false, g1, Option.bind_some, hid, Option.bind_some, d1', Option.bind_some]
  simp only
  rw [x1, Option.bind_some, y1, Option.bind_some]
  by_cases c : g.1 ≤ 3 ∧ g.2.length ≤ 3
  · obtain ⟨r, k1, k2⟩ := id_count G n2 c.1 c.2
    rw [k1, Option.bind_some]
    exact rest r (.inl ⟨k2, c⟩)
  · rw [impl_large G G (by omega), Option.bind_some]
    exact rest (-1) (.inr ⟨rfl, by omega⟩)
end Go.Proofs.Ytgncajnfphlgeaa.D

/-
  What the law file draws for morphisms: a harmonic one, with few edges and small fibres; divisors; scripts.
-/
import Derived.Test.YtikkkdpemjcjlaaPureMh
namespace Go.Proofs.Ytikkkdpemjcjlaa.D
open Go Go.Den
set_option linter.unusedVariables false
set_option linter.unusedSimpArgs false
theorem pickA_p {c : Cur} (hc : CurOk c) {l : List Int} (h1 : 1 ≤ l.length) (h2 : l.length ≤ 256) : ∃ x c', spec_l01Pick c l = some (x, c') ∧ x ∈ l ∧ CurOk c' := by
  obtain ⟨i, c', a1, a2, a3⟩ := below_p hc (n := (l.length : Int)) (by omega) (by omega)
  rw [spec_l01Pick_eq, a1, Option.bind_some, inside_int a2.1 a2.2, cond_true]
  exact ⟨_, _, rfl, getD_mem (0 : Int) (by omega), a3⟩
theorem near_p {c : Cur} (hc : CurOk c) {lo hi : Int} (h1 : -1 ≤ lo) (h2 : lo ≤ hi) (h3 : hi ≤ 20) : ∃ x c', spec_l01Near c lo hi = some (x, c') ∧ CurOk c' := by
  obtain ⟨k, c', a1, a2, a3⟩ := below_p hc (n := 12) (by omega) (by omega)
  have e1 : w64 (hi - lo) = hi - lo := w64_id (by omega) (by omega)
  rw [spec_l01Near_eq, a1, Option.bind_some]
  simp only
  cases (k == 0) with
  | true => exact ⟨_, _, rfl, a3⟩
  | false =>
    cases (k == 1) with
    | true => exact ⟨_, _, rfl, a3⟩
    | false =>
      cases (k == 2) with
      | true => exact ⟨_, _, rfl, a3⟩
      | false =>
        cases (k == 3) with
        | true => exact ⟨_, _, rfl, a3⟩
        | false =>
          cases (k == 4) with
          | true =>
            obtain ⟨x, c2, b1, _, b3⟩ := pickA_p a3 (l := [9223372036854775807, (-9223372036854775808), (-1), 0, 1000000000]) (by decide) (by decide)
            simp only [cond_true, cond_false]
            rw [b1]
            exact ⟨_, _, rfl, b3⟩
          | false =>
            simp only [cond_false]
            rw [e1, decide_eq_false (by omega), cond_false, w64_id (n := hi - lo + 1) (by omega) (by omega)]
            obtain ⟨x, c2, b1, _, b3⟩ := below_p a3 (n := hi - lo + 1) (by omega) (by omega)
            rw [b1]
            exact ⟨_, _, rfl, b3⟩
theorem any_p {c : Cur} (hc : CurOk c) : ∃ g c', spec_l02Any c = some (g, c') ∧ g.2.length ≤ 9 ∧ CurOk c' := by
  obtain ⟨g, c1, g1, hG, g2, g3, g4, g5, g6⟩ := graph_p hc
  obtain ⟨k, c2, a1, a2, a3⟩ := below_p g4 (n := 14) (by omega) (by omega)
  have i0 : inside 0 g.2.length = true := inside_int (by omega) (by omega)
  rw [spec_l02Any_eq, g1, Option.bind_some]
  simp only
  rw [a1, Option.bind_some]
  simp only
  cases (k == 0) with
  | true =>
    obtain ⟨x, c3, b1, b3⟩ := near_p a3 (lo := 1) (hi := 6) (by omega) (by omega) (by omega)
    simp only [cond_true]
    rw [b1]
    exact ⟨_, _, rfl, by show g.2.length ≤ 9; omega, b3⟩
  | false =>
    cases (k == 1) with
    | true =>
      simp only [cond_true, cond_false]
      exact ⟨(g.1, (g.2.take ((g.2.length : Int).toNat)).drop 1), c2, by
        rw [show (decide (0 ≤ 1) && decide (1 ≤ (g.2.length : Int)) && decide ((g.2.length : Int) ≤ (g.2.length : Int))) = true by simp; omega]; rfl, by show ((g.2.take _).drop 1).length ≤ 9; rw [List.length_drop, List.length_take]; omega, a3⟩
    | false =>
      cases (k == 2) with
      | true =>
        obtain ⟨x, c3, b1, b3⟩ := near_p a3 (lo := 0) (hi := g.1 - 1) (by omega) (by omega) (by omega)
        simp only [cond_true, cond_false]
        rw [w64_id (n := g.1 - 1) (by omega) (by omega), b1, Option.bind_some, i0]
        exact ⟨_, _, rfl, by show (g.2.set 0 _).length ≤ 9; rw [List.length_set]; omega, b3⟩
      | false =>
        cases (k == 3) with
        | true =>
          simp only [cond_true, cond_false]
          rw [i0]
          simp only [cond_true]
          rw [decide_eq_true (by rw [room, List.length_singleton]; omega)]
          exact ⟨_, _, rfl, by show (g.2 ++ [_]).length ≤ 9; rw [List.length_append, List.length_singleton]; omega, a3⟩
        | false => exact ⟨_, _, rfl, by show g.2.length ≤ 9; omega, a3⟩
theorem all3_p {n : Nat} (hn : n ≤ 1000) : spec_l03All (n : Int) = some ((List.range n).map fun (i : Nat) => (i : Int)) := by
  rw [spec_l03All_eq]
  have key : ∀ (m k : Nat), k + m = n → spec_l03All_l0 (n : Int) ((List.range k).map fun (i : Nat) => (i : Int)) (k : Int) = some ((List.range n).map fun (i : Nat) => (i : Int)) := by
    intro m
    induction m with
    | zero =>
      intro k hk
      have : k = n := by omega
      subst this
      rw [spec_l03All_l0_eq, dec_lt_f]; rfl
    | succ m ih =>
      intro k hk
      have hk' : k < n := by omega
      rw [spec_l03All_l0_eq, dec_lt_t hk', cond_true, decide_eq_true (by rw [room, List.length_map, List.length_range, List.length_singleton]; omega), cond_true, w64_succ hk' (by omega)]
      have := ih (k + 1) (by omega)
      rw [List.range_succ, List.map_append] at this
      exact this
  exact key n 0 (by omega)
/-- few edges, and fibres of at most two vertices (or few vertices) -/
def Inv (g : Gr) (m : Mo) : Prop := (1 ≤ g.2.length ∧ g.2.length ≤ 8) ∧ (m.1.length ≤ 5 ∧ m.2.length ≤ 8) ∧ ((∀ v : Nat, 1 ≤ v → v < m.1.length → m.1.getD v 0 = (v : Int)) ∨ (m.1.length ≤ 4 ∧ g.2.length ≤ 4))
theorem ident_p {g : Gr} (hG : GOk g) (h5 : g.1 ≤ 5) (h1 : 1 ≤ g.2.length) (h8 : g.2.length ≤ 8) : ∃ m, spec_IdentityMorphism g = some (m, true) ∧ Inv g m ∧ 1 ≤ m.1.length ∧ 1 ≤ m.2.length ∧ m = ((List.range (N g)).map fun (i : Nat) => (i : Int), (List.range g.2.length).map fun (i : Nat) => (i : Int)) := by
  have hn := gN hG
  obtain ⟨b, p1, _, p3⟩ := graphOk_p (g := g) (by omega)
  have hb := p3.2 hG
  subst hb
  rw [spec_IdentityMorphism_eq, p1, Option.bind_some]
  simp only [Bool.not_true, cond_false]
  rw [show g.1 = ((N g : Nat) : Int) by omega, all3_p (by omega), Option.bind_some, all3_p (by omega), Option.bind_some]
  refine ⟨_, rfl, ⟨⟨h1, h8⟩, ⟨by show (List.map _ _).length ≤ 5; rw [List.length_map, List.length_range]; omega, by show (List.map _ _).length ≤ 8; rw [List.length_map, List.length_range]; omega⟩, .inl fun v _ hv => ?_⟩, by show 1 ≤ (List.map _ _).length; rw [List.length_map, List.length_range]; omega, by show 1 ≤ (List.map _ _).length; rw [List.length_map, List.length_range]; omega, rfl⟩
  have hv' : v < N g := by
    have : v < (List.map (fun (i : Nat) => (i : Int)) (List.range (N g))).length := hv
    rwa [List.length_map, List.length_range] at this
  exact getD_range_map _ hv'
theorem case_p {c : Cur} (hc : CurOk c) : ∃ g h m c', spec_l16Case c = some (g, h, m, c') ∧ Inv g m ∧ h.2.length ≤ 9 ∧ CurOk c' := by
  obtain ⟨g, c1, g1, hG, g2, g3, g4, g5, g6⟩ := graph_p hc
  obtain ⟨m, m1, m2, m3, m4, _⟩ := ident_p hG g3 g5 g6
  obtain ⟨k, c2, a1, a2, a3⟩ := below_p g4 (n := 4) (by omega) (by omega)
  have c20 : ∀ (c : Cur) (x2 x3 : Gr) (x4 : Mo) (g h : Gr) (m : Mo) (k : Int), CurOk c → Inv g m → 1 ≤ m.1.length → 1 ≤ m.2.length → h.2.length ≤ 9 → 1 ≤ h.1 → h.1 ≤ 6 → ∃ g' h' m' c', spec_l16Case_c20 c x2 x3 x4 g h m k = some (g', h', m', c') ∧ Inv g' m' ∧ h'.2.length ≤ 9 ∧ CurOk c' := by
    intro c x2 x3 x4 g h m k hc hI hm1 hm2 hh h1 h6
    obtain ⟨i1, i2, i3⟩ := hI
    rw [spec_l16Case_c20_eq]
    cases (k == 0) with
    | true =>
      obtain ⟨x, c3, b1, b3⟩ := near_p hc (lo := 0) (hi := h.1 - 1) (by omega) (by omega) (by omega)
      simp only [cond_true]
      rw [w64_id (n := h.1 - 1) (by omega) (by omega), b1, Option.bind_some, inside_int (n := 0) (by omega) (by omega)]
      refine ⟨_, _, _, _, rfl, ⟨i1, ⟨by show (m.1.set 0 _).length ≤ 5; rw [List.length_set]; exact i2.1, i2.2⟩, ?_⟩, hh, b3⟩
      rcases i3 with i3 | i3
      · refine .inl fun v hv hvl => ?_
        have hvl' : v < (m.1.set 0 x).length := hvl
        rw [List.length_set] at hvl'
        show (m.1.set 0 x).getD v 0 = _
        rw [getD_set (by omega), if_neg (by omega)]
        exact i3 v hv hvl'
      · refine .inr ⟨by show (m.1.set 0 _).length ≤ 4; rw [List.length_set]; exact i3.1, i3.2⟩
    | false =>
      cases (k == 1) with
      | true =>
        obtain ⟨x, c3, b1, b3⟩ := near_p hc (lo := -1) (hi := (h.2.length : Int) - 1) (by omega) (by omega) (by omega)
        simp only [cond_true, cond_false]
        rw [w64_id (n := (h.2.length : Int) - 1) (by omega) (by omega), b1, Option.bind_some, inside_int (n := 0) (by omega) (by omega)]
        exact ⟨_, _, _, _, rfl, ⟨i1, ⟨i2.1, by show (m.2.set 0 _).length ≤ 8; rw [List.length_set]; exact i2.2⟩, i3⟩, hh, b3⟩
      | false =>
        cases (k == 2) with
        | true =>
          obtain ⟨x, c3, b1, b2, b3⟩ := any_p hc
          simp only [cond_true, cond_false]
          rw [b1]
          exact ⟨_, _, _, _, rfl, ⟨i1, i2, i3⟩, b2, b3⟩
        | false => exact ⟨_, _, _, _, rfl, ⟨i1, i2, i3⟩, hh, hc⟩
  rw [spec_l16Case_eq, g1, Option.bind_some]
  simp only
  rw [m1, Option.bind_some, a1, Option.bind_some]
  simp only
  cases (k == 0) with
  | true =>
    obtain ⟨n, c3, b1, b2, b3⟩ := below_p a3 (n := 4) (by omega) (by omega)
    simp only [cond_true]
    rw [b1, Option.bind_some, w64_id (n := 1 + n) (by omega) (by omega)]
    obtain ⟨n', hn'⟩ : ∃ n' : Nat, 1 + n = (n' : Int) := ⟨(1 + n).toNat, by omega⟩
    rw [hn']
    have key : ∀ (d k : Nat) (es : List (Int × Int)) (fs : List Int), k + d = n' → es.length = k → fs.length = k → ∃ g' h' m' c', spec_l16Case_l1 c3 (0, []) (0, []) ([], []) (2, es) (2, [(0, 1)]) ([0, 1], fs) (n' : Int) (k : Int) = some (g', h', m', c') ∧ Inv g' m' ∧ h'.2.length ≤ 9 ∧ CurOk c' := by
      intro d
      induction d with
      | zero =>
        intro k es fs hk he hf
        have : k = n' := by omega
        subst this
        obtain ⟨x, c4, d1, d2, d3⟩ := below_p b3 (n := 10) (by omega) (by omega)
        rw [spec_l16Case_l1_eq, dec_lt_f, cond_false, d1, Option.bind_some]
        exact c20 _ _ _ _ _ _ _ _ d3 ⟨⟨by show 1 ≤ es.length; omega, by show es.length ≤ 8; omega⟩, ⟨by show 2 ≤ 5; omega, by show fs.length ≤ 8; omega⟩, .inr ⟨by show 2 ≤ 4; omega, by show es.length ≤ 4; omega⟩⟩ (by show 1 ≤ 2; omega) (by show 1 ≤ fs.length; omega) (by show 1 ≤ 9; omega) (by show (1 : Int) ≤ 2; omega) (by show (2 : Int) ≤ 6; omega)
      | succ d ih =>
        intro k es fs hk he hf
        have hk' : k < n' := by omega
        rw [spec_l16Case_l1_eq, dec_lt_t hk', cond_true, decide_eq_true (by rw [room, List.length_singleton]; simp only; omega), cond_true, decide_eq_true (by rw [room, List.length_singleton]; simp only; omega), cond_true, w64_succ hk' (by omega)]
        exact ih (k + 1) _ _ (by omega) (by rw [List.length_append, List.length_singleton, he]) (by rw [List.length_append, List.length_singleton, hf])
    exact key n' 0 [] [] (by omega) rfl rfl
  | false =>
    obtain ⟨x, c3, b1, b2, b3⟩ := below_p a3 (n := 10) (by omega) (by omega)
    cases (k == 1) with
    | true =>
      simp only [cond_true, cond_false]
      rw [b1, Option.bind_some]
      exact c20 _ _ _ _ _ _ _ _ b3 ⟨⟨by show 1 ≤ 4; omega, by show 4 ≤ 8; omega⟩, ⟨by show 4 ≤ 5; omega, by show 4 ≤ 8; omega⟩, .inr ⟨by show 4 ≤ 4; omega, by show 4 ≤ 4; omega⟩⟩ (by show 1 ≤ 4; omega) (by show 1 ≤ 4; omega) (by show 2 ≤ 9; omega) (by show (1 : Int) ≤ 3; omega) (by show (3 : Int) ≤ 6; omega)
    | false =>
      simp only [cond_false]
      rw [b1, Option.bind_some]
      exact c20 _ _ _ _ _ _ _ _ b3 m2 m3 m4 (by omega) (by omega) (by omega)
theorem ident_h {g : Gr} (hG : GOk g) : HOk g g ((List.range (N g)).map fun (i : Nat) => (i : Int), (List.range g.2.length).map fun (i : Nat) => (i : Int)) := by
  have hn := gN hG
  generalize hm : ((List.range (N g)).map fun (i : Nat) => (i : Int), (List.range g.2.length).map fun (i : Nat) => (i : Int)) = m
  have l1 : m.1.length = N g := by rw [← hm]; show (List.map _ _).length = _; rw [List.length_map, List.length_range]
  have l2 : m.2.length = g.2.length := by rw [← hm]; show (List.map _ _).length = _; rw [List.length_map, List.length_range]
  have v1 : ∀ v, v < N g → m.1.getD v 0 = (v : Int) := fun v hv => by rw [← hm]; exact getD_range_map _ hv
  have v2 : ∀ v, v < g.2.length → m.2.getD v 0 = (v : Int) := fun v hv => by rw [← hm]; exact getD_range_map _ hv
  refine ⟨⟨hG, hG, by omega, l2, fun j hj => by rw [v1 j (by omega)]; omega, fun j hj => ?_⟩, fun v hv => allE_iff.2 fun x hx y hy => ?_⟩
  · obtain ⟨a, b, e1, _, e3, e4⟩ := gEk hG hj
    refine .inr ⟨by rw [v2 j hj]; omega, ?_⟩
    rw [v2 j hj, Int.toNat_natCast, e1]
    simp only [Int.toNat_natCast]
    rw [v1 a (by omega), v1 b e4]
    unfold imin imax
    constructor <;> split <;> omega
  · have one : ∀ x, x ∈ mult g g m v g.2.length → x = 1 := fun x hx => by
      obtain ⟨k, k1, k2, k3⟩ := mem_mult.1 hx
      rw [v1 v (by omega)] at k2
      rw [k3]
      unfold ov
      rw [sm_congr (g := fun i => if i = k then 1 else 0) fun i hi => by
        unfold cEq
        rw [v2 i hi]
        by_cases c : i = k
        · subst c; rw [k2, if_pos (by simp), if_pos rfl]
        · rw [if_neg (by
            rw [beq_f (show ¬ (i : Int) = (k : Int) by omega), Bool.and_false]; decide), if_neg c], sm_one, if_pos k1]
    rw [one x hx, one y hy]
/-- the drawn morphism is harmonic -/
theorem makeMorphism_p {l : List Int} (hl : l.length ≤ 1048576) : ∃ g h m, spec_MakeMorphism l = some (g, h, m) ∧ Inv g m ∧ HOk g h m := by
  obtain ⟨c, c1, c2⟩ := new_p hl
  rw [spec_MakeMorphism_eq, c1, Option.bind_some]
  have key : ∀ (d k : Nat) (c : Cur), k + d = 9 → CurOk c → ∃ g h m, spec_MakeMorphism_l0 (0, []) (0, []) ([], []) (k : Int) c = some (g, h, m) ∧ Inv g m ∧ HOk g h m := by
    intro d
    induction d with
    | zero =>
      intro k c hk hc
      obtain ⟨g, c', g1, hG, g2, g3, g4, g5, g6⟩ := graph_p hc
      obtain ⟨m, m1, m2, m3, m4, m5⟩ := ident_p hG g3 g5 g6
      rw [spec_MakeMorphism_l0_eq, decide_eq_false (by omega), cond_false, g1, Option.bind_some]
      simp only
      rw [m1, Option.bind_some]
      exact ⟨g, g, m, rfl, m2, by rw [m5]; exact ident_h hG⟩
    | succ d ih =>
      intro k c hk hc
      obtain ⟨g, h, m, c', e1, e2, e3, e4⟩ := case_p hc
      obtain ⟨b, p1, _, p3⟩ := harmonic_p (g := g) (h := h) (m := m) (by have := e2.1; omega) (by omega) (by have := e2.2.1; omega) (by have := e2.2.1; omega)
      rw [spec_MakeMorphism_l0_eq, decide_eq_true (by omega), cond_true, e1, Option.bind_some]
      simp only
      rw [p1, Option.bind_some]
      cases b with
      | true => exact ⟨g, h, m, rfl, e2, p3.1 rfl⟩
      | false =>
        rw [cond_false, w64_id (n := (k : Int) + 1) (by omega) (by omega)]
        exact ih (k + 1) c' (by omega) e4
  exact key 9 0 c rfl c2
/-! ### divisors and scripts -/
theorem pick_p {c : Cur} (hc : CurOk c) {r : Int} (hr : 0 ≤ r ∧ r < 7) : ∃ x c', spec_l01Pick c ([0, 1, 2, (-1), 3, (-2), r] : List Int) = some (x, c') ∧ (-2 ≤ x ∧ x ≤ 6) ∧ CurOk c' := by
  obtain ⟨x, c', h1, h2, h3⟩ := pickA_p hc (l := ([0, 1, 2, (-1), 3, (-2), r] : List Int)) (by simp) (by simp)
  refine ⟨x, c', h1, ?_, h3⟩
  simp only [List.mem_cons, List.not_mem_nil, or_false] at h2
  omega
theorem makeDivisor_p {l : List Int} (h : l.length ≤ 1048576) {g : Gr} (hg : GOk g) {n : Nat} (hn : n ≤ 1000) : ∃ d D, spec_MakeDivisor l (n : Int) g = some d ∧ vec (N g) d D ∧ ∀ v, v < N g → -2 ≤ D v ∧ D v ≤ 6 := by
  obtain ⟨c, c1, c2⟩ := skip_p h hn
  have hN := gN hg
  rw [spec_MakeDivisor_eq, c1, Option.bind_some, spec_l04Draw_eq]
  have draw : ∀ (m k : Nat) (c : Cur) (d : List Int), k + m = N g → CurOk c → d.length = k → (∀ x ∈ d, -2 ≤ x ∧ x ≤ 6) → ∃ d' c', spec_l04Draw_l0 c g d (k : Int) = some (d', c') ∧ d'.length = N g ∧ (∀ x ∈ d', -2 ≤ x ∧ x ≤ 6) ∧ CurOk c' := by
    intro m
    induction m with
    | zero =>
      intro k c d hk hc hl hd
      rw [spec_l04Draw_l0_eq, decide_eq_false (by omega)]
      exact ⟨d, c, rfl, by omega, hd, hc⟩
    | succ m ih =>
      intro k c d hk hc hl hd
      obtain ⟨r, c1, a1, a2, a3⟩ := below_p hc (n := 7) (by omega) (by omega)
      obtain ⟨x, c2, b1, b2, b3⟩ := pick_p a3 a2
      rw [spec_l04Draw_l0_eq, decide_eq_true (by omega), cond_true, a1, Option.bind_some]
      simp only
      rw [b1, Option.bind_some, decide_eq_true (by rw [room]; simp only [List.length_singleton]; omega), cond_true, w64_id (by omega) (by omega)]
      refine ih (k + 1) c2 _ (by omega) b3 (by rw [List.length_append, hl]; rfl) fun y hy => ?_
      rcases List.mem_append.1 hy with hy | hy
      · exact hd y hy
      · rw [List.mem_singleton.1 hy]; exact b2
  obtain ⟨d, c3, d1, d2, d3, d4⟩ := draw (N g) 0 c [] (by omega) c2 rfl (fun x hx => (List.not_mem_nil hx).elim)
  have d1' : spec_l04Draw_l0 c g [] 0 = some (d, c3) := d1
  rw [d1', Option.bind_some]
  exact ⟨d, fun v => d.getD v 0, rfl, ⟨d2, fun _ _ => rfl⟩, fun v hv => d3 _ (getD_mem 0 (by omega))⟩
theorem makeScript_p {l : List Int} (h : l.length ≤ 1048576) {g : Gr} (hg : GOk g) {n : Nat} (hn : n ≤ 1000) : ∃ s S, spec_MakeScript l (n : Int) g = some s ∧ vec (N g) s S ∧ ∀ v, v < N g → -3 ≤ S v ∧ S v ≤ 3 := by
  obtain ⟨c, c1, c2⟩ := skip_p h hn
  have hN := gN hg
  rw [spec_MakeScript_eq, c1, Option.bind_some]
  have draw : ∀ (m k : Nat) (c : Cur) (d : List Int), k + m = N g → CurOk c → d.length = k → (∀ x ∈ d, -3 ≤ x ∧ x ≤ 3) → ∃ d', spec_MakeScript_l0 g d (k : Int) c = some d' ∧ d'.length = N g ∧ ∀ x ∈ d', -3 ≤ x ∧ x ≤ 3 := by
    intro m
    induction m with
    | zero =>
      intro k c d hk hc hl hd
      rw [spec_MakeScript_l0_eq, decide_eq_false (by omega)]
      exact ⟨d, rfl, by omega, hd⟩
    | succ m ih =>
      intro k c d hk hc hl hd
      obtain ⟨r, c1, a1, a2, a3⟩ := below_p hc (n := 7) (by omega) (by omega)
      rw [spec_MakeScript_l0_eq, decide_eq_true (by omega), cond_true, a1, Option.bind_some]
      simp only
      rw [decide_eq_true (by rw [room]; simp only [List.length_singleton]; omega), cond_true, w64_id (n := r - 3) (by omega) (by omega), w64_id (n := (k : Int) + 1) (by omega) (by omega)]
      refine ih (k + 1) c1 _ (by omega) a3 (by rw [List.length_append, hl]; rfl) fun y hy => ?_
      rcases List.mem_append.1 hy with hy | hy
      · exact hd y hy
      · rw [List.mem_singleton.1 hy]; omega
  obtain ⟨d, d1, d2, d3⟩ := draw (N g) 0 c [] (by omega) c2 rfl (fun x hx => (List.not_mem_nil hx).elim)
  exact ⟨d, fun v => d.getD v 0, d1, ⟨d2, fun _ _ => rfl⟩, fun v hv => d3 _ (getD_mem 0 (by omega))⟩
end Go.Proofs.Ytikkkdpemjcjlaa.D

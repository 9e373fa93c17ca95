/-
  The law FnTexts: graphs, divisors and morphisms are recovered from their text.
-/
import Derived.Test.YthmddgkpebneoaaGreatDoorPurePG
import Derived.Test.YthmddgkpebneoaaGreatDoorPurePM
import Derived.Test.YthmddgkpebneoaaGreatDoorPureH
import Derived.Test.YthmddgkpebneoaaGreatDoorPureGy
namespace Go.Proofs.YthmddgkpebneoaaGreatDoor.D
open Go Go.Den
set_option linter.unusedVariables false
set_option linter.unusedSimpArgs false
theorem harm_s {g h : Gr} {m : Mo} (hg : g.2.length ≤ 1048576) (hh : h.2.length ≤ 1048576) (h1 : m.1.length ≤ 1048576) (h2 : m.2.length ≤ 1048576) : ∃ b, spec_IsHarmonic g h m = some b ∧ (b = true → MOk g h m) := by
  obtain ⟨b, p1, p2⟩ := spec_MorphismOk_p hg hh h1 h2
  rw [spec_IsHarmonic_eq, p1]
  simp only [Option.bind_some]
  cases b with
  | false => exact ⟨false, rfl, fun h => by cases h⟩
  | true =>
    have hM := p2.1 rfl
    obtain ⟨hG, hH, l1, l2, _⟩ := hM
    have hn := hG.1.1
    simp only [Bool.not_true, cond_false]
    have key : ∀ (n k : Nat), (k : Int) + (n : Int) = g.1 → ∃ b, spec_IsHarmonic_l0 g h m (k : Int) = some b := by
      intro n
      induction n with
      | zero =>
        intro k hk
        rw [spec_IsHarmonic_l0_eq, decide_eq_false (by omega)]
        exact ⟨true, rfl⟩
      | succ n ih =>
        intro k hk
        rw [spec_IsHarmonic_l0_eq, decide_eq_true (by omega), cond_true, spec_hor_p l2 hG.1.2.1 hH.1.2.1 (by omega), Option.bind_some, w64_id (n := (k : Int) + 1) (by omega) (by omega)]
        cases decide (hor (mult g h m k h.2.length) < 0) with
        | true => exact ⟨false, rfl⟩
        | false => exact ih (k + 1) (by omega)
    obtain ⟨b, hb⟩ := key g.1.toNat 0 (by omega)
    have hb' : spec_IsHarmonic_l0 g h m 0 = some b := hb
    exact ⟨b, hb', fun _ => p2.1 rfl⟩
theorem below_r {c : Cur} (hc : CurOk c) {n : Int} (h2 : n ≤ 1000000) : ∃ x c', spec_l01Below c n = some (x, c') ∧ (1 ≤ n → 0 ≤ x ∧ x < n) ∧ CurOk c' := by
  by_cases c0 : n ≤ 0
  · rw [spec_l01Below_eq, decide_eq_true c0]
    exact ⟨0, c, rfl, fun h => by omega, hc⟩
  by_cases c1 : n ≤ 256
  · obtain ⟨x, c', a1, a2, a3⟩ := below_p hc (n := n) (by omega) c1
    exact ⟨x, c', a1, fun _ => a2, a3⟩
  · obtain ⟨x1, d1, a1, a2, a3⟩ := byte_p hc
    obtain ⟨x2, d2, b1, b2, b3⟩ := byte_p a3
    obtain ⟨x3, d3, e1, e2, e3⟩ := byte_p b3
    obtain ⟨x4, d4, f1, f2, f3⟩ := byte_p e3
    rw [spec_l01Below_eq, decide_eq_false (by omega), cond_false, decide_eq_false c1, cond_false, a1, Option.bind_some]
    simp only
    rw [b1, Option.bind_some]
    simp only
    rw [e1, Option.bind_some]
    simp only
    rw [f1, Option.bind_some, decide_eq_false (by omega), cond_false]
    simp only
    rw [w64_id (n := x1 * 16777216) (by omega) (by omega), w64_id (n := x2 * 65536) (by omega) (by omega), w64_id (n := x1 * 16777216 + x2 * 65536) (by omega) (by omega), w64_id (n := x3 * 256) (by omega) (by omega), w64_id (n := x1 * 16777216 + x2 * 65536 + x3 * 256) (by omega) (by omega), w64_id (n := x1 * 16777216 + x2 * 65536 + x3 * 256 + x4) (by omega) (by omega)]
    refine ⟨_, d4, rfl, fun _ => ?_, f3⟩
    have h0 : 0 ≤ x1 * 16777216 + x2 * 65536 + x3 * 256 + x4 := by omega
    exact ⟨Int.tmod_nonneg _ h0, Int.tmod_lt_of_pos _ (by omega)⟩
theorem near_p {c : Cur} (hc : CurOk c) {lo hi : Int} : ∃ x c', spec_l01Near c lo hi = some (x, c') ∧ CurOk c' := by
  obtain ⟨k, c1, a1, a2, a3⟩ := below_p hc (n := 12) (by omega) (by omega)
  rw [spec_l01Near_eq, a1, Option.bind_some]
  simp only
  cases (k == 0) with
  | true => exact ⟨_, c1, rfl, a3⟩
  | false =>
    cases (k == 1) with
    | true => exact ⟨_, c1, rfl, a3⟩
    | false =>
      cases (k == 2) with
      | true => exact ⟨_, c1, rfl, a3⟩
      | false =>
        cases (k == 3) with
        | true => exact ⟨_, c1, rfl, a3⟩
        | false =>
          cases (k == 4) with
          | true =>
            obtain ⟨i, c2, b1, b2, b3⟩ := below_p a3 (n := 5) (by omega) (by omega)
            have h5 : (([9223372036854775807, (-9223372036854775808), (-1), 0, 1000000000] : List Int).length : Int) = 5 := rfl
            simp only [cond_true, cond_false]
            rw [spec_l01Pick_eq, h5, b1, Option.bind_some, inside_int b2.1 (by rw [h5]; exact b2.2), cond_true]
            exact ⟨_, c2, rfl, b3⟩
          | false =>
            simp only [cond_false]
            by_cases c5 : w64 (hi - lo) > 60000
            · rw [decide_eq_true c5, cond_true]
              obtain ⟨y, c2, b1, _, b3⟩ := below_r a3 (n := 60000) (by omega)
              rw [b1]
              exact ⟨_, c2, rfl, b3⟩
            · rw [decide_eq_false c5, cond_false]
              have hr : w64 (w64 (hi - lo) + 1) ≤ 1000000 := by
                have h0 : -9223372036854775808 ≤ w64 (hi - lo) := by
                  simp [w64, IntKind.wrap, IntKind.bits, IntKind.signed]
                  omega
                rw [w64_id (n := w64 (hi - lo) + 1) (by omega) (by omega)]
                omega
              obtain ⟨y, c2, b1, _, b3⟩ := below_r a3 (n := w64 (w64 (hi - lo) + 1)) hr
              rw [b1]
              exact ⟨_, c2, rfl, b3⟩
theorem edge_ex {g : Gr} (hG : GOk g) (h2 : 2 ≤ g.1) : 0 < g.2.length := by
  rcases Nat.eq_zero_or_pos g.2.length with c | c
  · exfalso
    have h1 := hG.2.2 1 (by omega) (by omega)
    have key : ∀ v, Conn g.2 v → v = 0 := by
      intro v h
      induction h with
      | zero => rfl
      | fwd hj _ _ => omega
      | bwd hj _ _ => omega
    have := key 1 h1
    omega
  · exact c
theorem any_p {c : Cur} (hc : CurOk c) : ∃ g c', spec_l02Any c = some (g, c') ∧ g.2.length ≤ 100 ∧ CurOk c' := by
  obtain ⟨g, c1, g1, hG, g2, g3, hc1⟩ := graph_p hc
  have h12 := hG.1.2.1
  have hpos := edge_ex hG g2
  obtain ⟨k, c2, a1, a2, a3⟩ := below_p hc1 (n := 14) (by omega) (by omega)
  have i0 : inside 0 g.2.length = true := inside_int (by omega) (by omega)
  rw [spec_l02Any_eq, g1, Option.bind_some]
  simp only
  rw [a1, Option.bind_some]
  simp only
  cases (k == 0) with
  | true =>
    obtain ⟨x, c3, b1, b2⟩ := near_p a3 (lo := 1) (hi := 6)
    rw [cond_true, b1]
    exact ⟨_, c3, rfl, by show g.2.length ≤ 100; omega, b2⟩
  | false =>
    rw [cond_false]
    cases (k == 1) with
    | true =>
      have t : (decide ((0 : Nat) ≤ 1) && decide ((1 : Int) ≤ (g.2.length : Int)) && decide ((g.2.length : Int) ≤ (g.2.length : Int))) = true := by
        rw [decide_eq_true (show (1 : Int) ≤ (g.2.length : Int) by omega), decide_eq_true (show (g.2.length : Int) ≤ (g.2.length : Int) by omega)]; rfl
      rw [cond_true, t]
      refine ⟨_, c2, rfl, ?_, a3⟩
      show ((g.2.take _).drop 1).length ≤ 100
      rw [List.length_drop, List.length_take]; omega
    | false =>
      rw [cond_false]
      cases (k == 2) with
      | true =>
        obtain ⟨x, c3, b1, b2⟩ := near_p a3 (lo := 0) (hi := w64 (g.1 - 1))
        rw [cond_true, b1, Option.bind_some, i0]
        refine ⟨_, c3, rfl, ?_, b2⟩
        show (g.2.set 0 _).length ≤ 100
        rw [List.length_set]; omega
      | false =>
        rw [cond_false]
        cases (k == 3) with
        | true =>
          rw [cond_true, i0, cond_true, decide_eq_true (by rw [room]; simp only [List.length_singleton]; omega)]
          refine ⟨_, c2, rfl, ?_, a3⟩
          show (g.2 ++ [_]).length ≤ 100
          rw [List.length_append, List.length_singleton]; omega
        | false => exact ⟨_, c2, rfl, by show g.2.length ≤ 100; omega, a3⟩
theorem end_p {c : Cur} (hc : CurOk c) {x2 x3 : Gr} {x4 : Mo} {g h : Gr} {m : Mo} (hg : g.2.length ≤ 100) (hh : h.2.length ≤ 100) (h1 : 0 < m.1.length) (h1' : m.1.length ≤ 100) (h2 : 0 < m.2.length) (h2' : m.2.length ≤ 100) {k : Int} : ∃ g' h' m' c', spec_l16Case_c20 c x2 x3 x4 g h m k = some (g', h', m', c') ∧ g'.2.length ≤ 100 ∧ h'.2.length ≤ 100 ∧ m'.1.length ≤ 100 ∧ m'.2.length ≤ 100 ∧ CurOk c' := by
  have i1 : inside 0 m.1.length = true := inside_int (by omega) (by omega)
  have i2 : inside 0 m.2.length = true := inside_int (by omega) (by omega)
  rw [spec_l16Case_c20_eq]
  cases (k == 0) with
  | true =>
    obtain ⟨x, c3, b1, b2⟩ := near_p hc (lo := 0) (hi := w64 (h.1 - 1))
    rw [cond_true, b1, Option.bind_some, i1]
    exact ⟨_, _, _, c3, rfl, hg, hh, by show (m.1.set 0 _).length ≤ 100; rw [List.length_set]; exact h1', h2', b2⟩
  | false =>
    rw [cond_false]
    cases (k == 1) with
    | true =>
      obtain ⟨x, c3, b1, b2⟩ := near_p hc (lo := -1) (hi := w64 ((h.2.length : Int) - 1))
      rw [cond_true, b1, Option.bind_some, i2]
      exact ⟨_, _, _, c3, rfl, hg, hh, h1', by show (m.2.set 0 _).length ≤ 100; rw [List.length_set]; exact h2', b2⟩
    | false =>
      rw [cond_false]
      cases (k == 2) with
      | true =>
        obtain ⟨x, c3, b1, b2, b3⟩ := any_p hc
        rw [cond_true, b1]
        exact ⟨_, _, _, c3, rfl, hg, b2, h1', h2', b3⟩
      | false => exact ⟨_, _, _, c, rfl, hg, hh, h1', h2', hc⟩
theorem case_p {c : Cur} (hc : CurOk c) : ∃ g h m c', spec_l16Case c = some (g, h, m, c') ∧ g.2.length ≤ 100 ∧ h.2.length ≤ 100 ∧ m.1.length ≤ 100 ∧ m.2.length ≤ 100 ∧ CurOk c' := by
  obtain ⟨g, c1, g1, hG, g2, g3, hc1⟩ := graph_p hc
  have h12 := hG.1.2.1
  have hpos := edge_ex hG g2
  obtain ⟨b, p1, p2⟩ := spec_GraphOk_p (g := g) (by omega)
  have hb := p2.2 hG
  subst hb
  have hid := spec_id_p (g := g) (by omega) p1 (fun _ => hG)
  obtain ⟨k, c2, a1, a2, a3⟩ := below_p hc1 (n := 4) (by omega) (by omega)
  rw [spec_l16Case_eq, g1, Option.bind_some]
  simp only
  rw [hid, Option.bind_some]
  simp only [cond_true]
  rw [a1, Option.bind_some]
  simp only
  cases (k == 0) with
  | true =>
    obtain ⟨n, c3, b1, b2, b3⟩ := below_p a3 (n := 4) (by omega) (by omega)
    rw [cond_true, b1, Option.bind_some]
    simp only
    rw [w64_id (n := 1 + n) (by omega) (by omega)]
    obtain ⟨d, c4, e1, e2, e3⟩ := below_p b3 (n := 10) (by omega) (by omega)
    have key : ∀ (j i : Nat) (x5 : Gr) (x7 : Mo), (i : Int) + (j : Int) = 1 + n → x5.2.length = i → x7.2.length = i → x7.1.length = 2 → ∃ g h m c', spec_l16Case_l1 c3 (0, []) (0, []) ([], []) x5 (2, [(0, 1)]) x7 (1 + n) (i : Int) = some (g, h, m, c') ∧ g.2.length ≤ 100 ∧ h.2.length ≤ 100 ∧ m.1.length ≤ 100 ∧ m.2.length ≤ 100 ∧ CurOk c' := by
      intro j
      induction j with
      | zero =>
        intro i x5 x7 hi h5 h7 h71
        rw [spec_l16Case_l1_eq, decide_eq_false (by omega), cond_false, e1, Option.bind_some]
        exact end_p e3 (by omega) (by show (1 : Nat) ≤ 100; omega) (by omega) (by omega) (by omega) (by omega)
      | succ j ih =>
        intro i x5 x7 hi h5 h7 h71
        rw [spec_l16Case_l1_eq, decide_eq_true (by omega), cond_true, decide_eq_true (by rw [room]; simp only [List.length_singleton]; omega), cond_true, decide_eq_true (by rw [room]; simp only [List.length_singleton]; omega), cond_true, w64_id (n := (i : Int) + 1) (by omega) (by omega)]
        exact ih (i + 1) _ _ (by omega) (by show (x5.2 ++ [_]).length = _; rw [List.length_append, h5]; rfl) (by show (x7.2 ++ [_]).length = _; rw [List.length_append, h7]; rfl) h71
    exact key (1 + n).toNat 0 (2, []) ([0, 1], []) (by omega) rfl rfl rfl
  | false =>
    rw [cond_false]
    obtain ⟨d, c4, e1, e2, e3⟩ := below_p a3 (n := 10) (by omega) (by omega)
    cases (k == 1) with
    | true =>
      rw [cond_true, e1, Option.bind_some]
      exact end_p e3 (by show (4 : Nat) ≤ 100; omega) (by show (2 : Nat) ≤ 100; omega) (by show 0 < 4; omega) (by show (4 : Nat) ≤ 100; omega) (by show 0 < 4; omega) (by show (4 : Nat) ≤ 100; omega)
    | false =>
      rw [cond_false, e1, Option.bind_some]
      have u1 : (idm g).1.length = g.1.toNat := by simp [idm, upto]
      have u2 : (idm g).2.length = g.2.length := by simp [idm, upto]
      exact end_p e3 (by omega) (by omega) (by rw [u1]; omega) (by rw [u1]; omega) (by rw [u2]; omega) (by rw [u2]; omega)
theorem makeM_p {l : List Int} (h : l.length ≤ 1048576) : ∃ g h m, spec_MakeMorphism l = some (g, h, m) ∧ GOk g ∧ GOk h ∧ m.1.length ≤ 12 ∧ m.2.length ≤ 12 ∧ IM m := by
  obtain ⟨c, c1, c2⟩ := new_p h
  rw [spec_MakeMorphism_eq, c1, Option.bind_some]
  have key : ∀ (n k : Nat) (c : Cur), k + n = 9 → CurOk c → ∃ g h m, spec_MakeMorphism_l0 (0, []) (0, []) ([], []) (k : Int) c = some (g, h, m) ∧ GOk g ∧ GOk h ∧ m.1.length ≤ 12 ∧ m.2.length ≤ 12 ∧ IM m := by
    intro n
    induction n with
    | zero =>
      intro k c hk hc
      obtain ⟨g, c1, g1, hG, g2, g3, hc1⟩ := graph_p hc
      have h12 := hG.1.2.1
      obtain ⟨b, p1, p2⟩ := spec_GraphOk_p (g := g) (by omega)
      have hb := p2.2 hG
      subst hb
      have hid := spec_id_p (g := g) (by omega) p1 (fun _ => hG)
      rw [spec_MakeMorphism_l0_eq, decide_eq_false (by omega), cond_false, g1, Option.bind_some]
      simp only
      rw [hid, Option.bind_some]
      have up : ∀ n : Nat, n ≤ 12 → ∀ x ∈ upto n, I64 x := fun n hn x hx => by
        obtain ⟨k, hk, rfl⟩ := List.mem_map.1 hx
        rw [List.mem_range] at hk
        exact ⟨by omega, by omega⟩
      exact ⟨g, g, idm g, rfl, hG, hG, by simp [idm, upto]; omega, by simp [idm, upto]; omega, up _ (by omega), up _ h12⟩
    | succ n ih =>
      intro k c hk hc
      obtain ⟨g, h, m, c', a1, a2, a3, a4, a5, a6⟩ := case_p hc
      obtain ⟨b, b1, b2⟩ := harm_s (g := g) (h := h) (m := m) (by omega) (by omega) (by omega) (by omega)
      rw [spec_MakeMorphism_l0_eq, decide_eq_true (by omega), cond_true, a1, Option.bind_some]
      simp only
      rw [b1, Option.bind_some]
      cases b with
      | false =>
        rw [cond_false, w64_id (n := (k : Int) + 1) (by omega) (by omega)]
        exact ih (k + 1) c' (by omega) a6
      | true =>
        obtain ⟨hG, hH, l1, l2, l3, l4⟩ := b2 rfl
        have hn := hG.1.1
        have hn' := hH.1.1
        have h12 := hG.1.2.1
        have h12' := hH.1.2.1
        refine ⟨g, h, m, rfl, hG, hH, by omega, by omega, fun x hx => ?_, fun x hx => ?_⟩
        · obtain ⟨j, hj, e⟩ := List.getElem_of_mem hx
          have := l3 j hj
          rw [getD_lt hj, e] at this
          exact ⟨by omega, by omega⟩
        · obtain ⟨j, hj, e⟩ := List.getElem_of_mem hx
          have := l4 j (by omega)
          rw [getD_lt hj, e] at this
          rcases this with ⟨u, _⟩ | ⟨u, _⟩ <;> exact ⟨by omega, by omega⟩
  exact key 9 0 c rfl c2
theorem pick_p {c : Cur} (hc : CurOk c) {r : Int} (hr : 0 ≤ r ∧ r < 7) : ∃ x c', spec_l01Pick c ([0, 1, 2, (-1), 3, (-2), r] : List Int) = some (x, c') ∧ (-2 ≤ x ∧ x ≤ 6) ∧ CurOk c' := by
  obtain ⟨i, c', a1, a2, a3⟩ := below_p hc (n := 7) (by omega) (by omega)
  have h7 : (([0, 1, 2, (-1), 3, (-2), r] : List Int).length : Int) = 7 := rfl
  rw [spec_l01Pick_eq, h7, a1, Option.bind_some, inside_int a2.1 (by rw [h7]; exact a2.2), cond_true]
  refine ⟨_, _, rfl, ?_, a3⟩
  have hm := getD_mem (0 : Int) (l := ([0, 1, 2, (-1), 3, (-2), r] : List Int)) (k := i.toNat) (by show i.toNat < 7; omega)
  generalize ([0, 1, 2, (-1), 3, (-2), r] : List Int).getD i.toNat 0 = x at hm
  simp only [List.mem_cons, List.not_mem_nil, or_false] at hm
  omega
theorem div_p {l : List Int} (h : l.length ≤ 1048576) {g : Gr} (hg : GOk g) {n : Nat} (hn : n ≤ 1000) : ∃ d, spec_MakeDivisor l (n : Int) g = some d ∧ (d.length : Int) = g.1 ∧ ∀ x ∈ d, -2 ≤ x ∧ x ≤ 6 := by
  obtain ⟨c, c1, c2⟩ := skip_p h hn
  have h6 := hg.1.1
  rw [spec_MakeDivisor_eq, c1, Option.bind_some, spec_l04Draw_eq]
  have draw : ∀ (m k : Nat) (c : Cur) (d : List Int), (k : Int) + (m : Int) = g.1 → CurOk c → d.length = k → (∀ x ∈ d, -2 ≤ x ∧ x ≤ 6) → ∃ d' c', spec_l04Draw_l0 c g d (k : Int) = some (d', c') ∧ (d'.length : Int) = g.1 ∧ (∀ x ∈ d', -2 ≤ x ∧ x ≤ 6) ∧ CurOk c' := by
    intro m
    induction m with
    | zero =>
      intro k c d hk hc hl hd
      rw [spec_l04Draw_l0_eq, decide_eq_false (by omega)]
      exact ⟨d, c, rfl, by omega, hd, hc⟩
    | succ m ih =>
      intro k c d hk hc hl hd
      obtain ⟨r, c1, a1, a2, a3⟩ := below_p hc (n := 7) (by omega) (by omega)
      obtain ⟨x, c2, b1, b2, b3⟩ := pick_p a3 a2
      rw [spec_l04Draw_l0_eq, decide_eq_true (by omega), cond_true, a1, Option.bind_some]
      simp only
      rw [b1, Option.bind_some, decide_eq_true (by rw [room]; simp only [List.length_singleton]; omega), cond_true, w64_id (by omega) (by omega)]
      refine ih (k + 1) c2 _ (by omega) b3 (by rw [List.length_append, hl]; rfl) fun y hy => ?_
      rcases List.mem_append.1 hy with hy | hy
      · exact hd y hy
      · rw [List.mem_singleton.1 hy]; exact b2
  obtain ⟨d, c3, d1, d2, d3, d4⟩ := draw g.1.toNat 0 c [] (by omega) c2 rfl (fun x hx => (List.not_mem_nil hx).elim)
  have d1' : spec_l04Draw_l0 c g [] 0 = some (d, c3) := d1
  rw [d1', Option.bind_some]
  exact ⟨d, rfl, d2, d3⟩
theorem sameT_p {l : List Int} (h : l.length ≤ 1000) : laws_same l l = some true := by
  have key : ∀ m k, k + m = l.length → laws_same_l0 l l (l.length : Int) (k : Int) = some true := by
    intro m
    induction m with
    | zero =>
      intro k hk
      have : k = l.length := by omega
      subst this
      rw [laws_same_l0_eq, dec_lt_f]; rfl
    | succ m ih =>
      intro k hk
      have hk' : k < l.length := by omega
      rw [laws_same_l0_eq, dec_lt_t hk', inside_lt hk', w64_succ hk' (by omega)]
      simp only [cond_true, bne_self_eq_false, cond_false]
      exact ih (k + 1) (by omega)
  rw [laws_same_eq]
  simp only [bne_self_eq_false, cond_false]
  exact key l.length 0 (by omega)
theorem sameG_p {g : Gr} (h : g.2.length ≤ 1000) : impl_SameGraph g g = some true := by
  have key : ∀ m k, k + m = g.2.length → impl_Edge_l0 g.2 g.2 (g.2.length : Int) (k : Int) = some true := by
    intro m
    induction m with
    | zero =>
      intro k hk
      have : k = g.2.length := by omega
      subst this
      rw [impl_Edge_l0_eq, dec_lt_f]; rfl
    | succ m ih =>
      intro k hk
      have hk' : k < g.2.length := by omega
      rw [impl_Edge_l0_eq, dec_lt_t hk', inside_lt hk', w64_succ hk' (by omega)]
      simp
      exact ih (k + 1) (by omega)
  rw [impl_SameGraph_eq, beq_self_eq_true, cond_true, impl_Edge_eq]
  simp only [bne_self_eq_false, cond_false]
  have k0 : impl_Edge_l0 g.2 g.2 (g.2.length : Int) 0 = some true := key g.2.length 0 (by omega)
  rw [k0]; rfl
theorem law_Texts {l : List Int} : laws_FnTexts l = some true := by
  rw [laws_FnTexts_eq]
  by_cases c0 : (l.length : Int) > 1048576
  · rw [decide_eq_true c0]; rfl
  obtain ⟨g, h, m, m1, hG, hH, l1, l2, hI⟩ := makeM_p (l := l) (by omega)
  obtain ⟨d, d1, d2, d3⟩ := div_p (l := l) (by omega) hG (n := 20) (by omega)
  have d1' : spec_MakeDivisor l 20 g = some d := d1
  have hn := hG.1.1
  have h12 := hG.1.2.1
  have h12' := hH.1.2.1
  have hdI : ∀ x ∈ d, I64 x := fun x hx => by have := d3 x hx; exact ⟨by omega, by omega⟩
  obtain ⟨s, s1, s2, _⟩ := formatGraph_i (g := g) (by omega)
  rw [s2 hG] at s1
  have i2 : ∀ k, k < g.2.length → I64 (g.2.getD k (0, 0)).1 ∧ I64 (g.2.getD k (0, 0)).2 := fun k hk => by
    have := hG.1.2.2 k hk
    unfold EdOk at this
    exact ⟨⟨by omega, by omega⟩, ⟨by omega, by omega⟩⟩
  have z1 : (fg g).size ≤ 1048576 := by
    have s0 := fi_size (n := g.1) ⟨by omega, by omega⟩
    have key : ∀ n, n ≤ g.2.length → (itr (fun k s => s ++ et (g.2.getD k (0, 0))) n (fi g.1 ++ ⟨#[58]⟩)).size ≤ 21 + n * 42 := by
      intro n
      induction n with
      | zero =>
        intro _
        show (fi g.1 ++ ⟨#[58]⟩).size ≤ _
        have e3 : (⟨#[58]⟩ : ByteArray).size = 1 := rfl
        rw [size_app]; omega
      | succ n ih =>
        intro hn
        have := ih (by omega)
        have := et_size (i2 n (by omega)).1 (i2 n (by omega)).2
        rw [itr, size_app]; omega
    have := key g.2.length (Nat.le_refl _)
    unfold fg
    omega
  have fdz : ∀ (d : List Int), d.length ≤ 12 → (∀ x ∈ d, I64 x) → (fd d).size ≤ 24004 := by
    intro d hd hI
    unfold fd
    split
    · decide
    · have := jn_size (l := d.map fi) (sep := ⟨#[32]⟩) (fun s hs => by
        obtain ⟨x, hx, rfl⟩ := List.mem_map.1 hs
        have := fi_size (hI x hx)
        omega) (by decide) (d.map fi).length (Nat.le_refl _)
      rw [List.take_length, List.length_map] at this
      omega
  have zd := fdz d (by omega) hdI
  have zm1 := fdz m.1 l1 hI.1
  have zm2 := fdz m.2 l2 hI.2
  have z3 : (fm m).size ≤ 1048576 := by
    have e3 : (⟨#[32, 124, 32]⟩ : ByteArray).size = 3 := rfl
    unfold fm
    rw [size_app, size_app]; omega
  obtain ⟨r1, p1, p2⟩ := impl_pg z1
  have e1 := p2.2 g hG rfl
  subst e1
  have e2 := impl_ParseDivisor_p (s := fd d) (by omega)
  rw [pd_fd hdI] at e2
  obtain ⟨r3, q1, q2⟩ := impl_pm z3
  have e3 := q2.2 m hI rfl
  subst e3
  have hdok : impl_DivisorOk g d = some true := by
    obtain ⟨b, b1, b2⟩ := impl_GraphOk_p (g := g) (by omega)
    have hb := b2.2 hG
    subst hb
    obtain ⟨b, w1, w2⟩ := allWithin_p (l := d) (lo := -60) (hi := 60) (by omega)
    have hb := w2.2 fun j hj => by
      have := d3 _ (getD_mem 0 hj)
      omega
    subst hb
    rw [impl_DivisorOk_eq, b1, Option.bind_some, cond_true, beq_t d2, cond_true, w1]; rfl
  have hgh : impl_GraphOk h = some true := by
    obtain ⟨b, b1, b2⟩ := impl_GraphOk_p (g := h) (by omega)
    have hb := b2.2 hH
    subst hb
    exact b1
  rw [decide_eq_false c0, cond_false, m1, Option.bind_some]
  simp only
  rw [d1', Option.bind_some, s1, Option.bind_some, p1, Option.bind_some, impl_FormatDivisor_p (by omega) hdI, Option.bind_some, e2, Option.bind_some, formatMorphism_i (by omega) (by omega) hI, Option.bind_some, q1, Option.bind_some, laws_FnTexts_c8_eq]
  simp only [cond_true]
  rw [sameG_p (by omega), Option.bind_some, cond_true, sameT_p (by omega), Option.bind_some, cond_true, sameT_p (by omega), Option.bind_some, cond_true, sameT_p (by omega), Option.bind_some, cond_true, hgh, Option.bind_some, cond_true, hdok]
  rfl
end Go.Proofs.YthmddgkpebneoaaGreatDoor.D

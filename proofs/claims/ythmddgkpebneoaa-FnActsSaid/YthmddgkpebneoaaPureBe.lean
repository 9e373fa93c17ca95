/-
  The tree that the law file draws is a spanning tree of a valid graph.
-/
import Derived.Test.YthmddgkpebneoaaPureBd
namespace Go.Proofs.Ythmddgkpebneoaa.D
open Go Go.Den
set_option linter.unusedVariables false
set_option linter.unusedSimpArgs false
theorem spec_val_p {g : Gr} (hg : GOk g) {v : Nat} (hv : v < N g) : spec_Valence g (v : Int) = some (val (Eg g) v) := by
  obtain ⟨gE1, gE2, gE3⟩ := gE hg
  have hn := gN hg
  rw [spec_Valence_eq, spec_l02Vert_eq, decide_eq_true (by omega), decide_eq_true (by omega)]
  simp only [cond_true, Option.bind_some, Bool.not_true, cond_false]
  have := upFold (n := g.2.length) (f := fun s i => spec_Valence_l0 (v : Int) s g.2 (g.2.length : Int) i) (g := fun k s => val ((Eg g).take (k + 1)) v) (fun k s => s = val ((Eg g).take k) v) (fun k s hk hs => ⟨by
    obtain ⟨x, y, q1, q2, q3, q4⟩ := gEk hg hk
    have b1 := val_bd v ((Eg g).take k)
    have b2 : ((Eg g).take k).length ≤ k := by rw [List.length_take]; omega
    subst hs
    rw [spec_Valence_l0_eq, dec_lt_t hk, inside_lt hk, toNat_n, q1, w64_succ hk (by omega), val_take (by omega), q2]
    simp only [cond_true, ends]
    rw [w64_id (by omega) (by omega)]
    by_cases c : v = x
    · subst c; rw [beq_t rfl]; simp
    · by_cases c2 : v = y
      · subst c2; rw [beq_f (by omega), beq_t rfl]; simp
      · rw [beq_f (by omega), beq_f (by omega)]; simp [c, c2], rfl⟩) (s := 0) (by simp [val])
  refine this.1.trans ?_
  rw [this.2, spec_Valence_l0_eq, dec_lt_f, cond_false, ← gE3, List.take_length]
/-! ### the count is a number -/
def ent (g : Gr) (a b : Nat) : Int := if a = b then val (Eg g) a else - mul (Eg g) a b
def lrow (g : Gr) (a : Nat) : List Int := (List.range (N g)).map (ent g a)
def lapM (g : Gr) : List (List Int) := (List.range (N g)).map (lrow g)
theorem rmap_succ {α : Type} (f : Nat → α) (k : Nat) : (List.range k).map f ++ [f k] = (List.range (k + 1)).map f := by
  rw [List.range_succ, List.map_append]; rfl
theorem lapl_p {g : Gr} (hG : GOk g) : spec_LaplacianOf g = some (lapM g) := by
  have hn := gN hG
  obtain ⟨b, p1, p2, p3⟩ := graphOk_p (g := g) (by have := hG.1.2.1; omega)
  have hb := p3.2 hG
  subst hb
  rw [spec_LaplacianOf_eq, p1]
  simp only [Option.bind_some, Bool.not_true, cond_false]
  have row : ∀ (a : Nat), a < N g → ∀ (X : List (List Int)) (m b : Nat), b + m = N g → spec_LaplacianOf_l2 g X (a : Int) ((List.range b).map (ent g a)) (b : Int) = spec_LaplacianOf_l2 g X (a : Int) (lrow g a) ((N g : Nat) : Int) := by
    intro a ha X m
    induction m with
    | zero =>
      intro b hb
      have : b = N g := by omega
      subst this; rfl
    | succ m ih =>
      intro b hb
      have hb' : b < N g := by omega
      have hlen : ((List.range b).map (ent g a)).length = b := by simp
      rw [spec_LaplacianOf_l2_eq, decide_eq_true (by omega), cond_true]
      have next := ih (b + 1) (by omega)
      rw [← rmap_succ] at next
      by_cases c : a = b
      · have e : ent g a b = val (Eg g) a := if_pos c
        rw [e] at next
        rw [beq_t (by omega), cond_true, spec_val_p hG ha, Option.bind_some, decide_eq_true (by rw [room, hlen]; simp only [List.length_singleton]; omega), cond_true, w64_succ hb' (by omega)]
        exact next
      · have e : ent g a b = - mul (Eg g) a b := if_neg c
        have hm := mul_bd a b (Eg g)
        have hE := (gE hG).2.1
        rw [e] at next
        rw [beq_f (by omega), cond_false, spec_mul_p hG ha hb', Option.bind_some, decide_eq_true (by rw [room, hlen]; simp only [List.length_singleton]; omega), cond_true, w64_succ hb' (by omega), w64_id (n := 0 - mul (Eg g) a b) (by omega) (by omega), show 0 - mul (Eg g) a b = - mul (Eg g) a b by omega]
        exact next
  have key : ∀ (m a : Nat), a + m = N g → spec_LaplacianOf_l0 g ((List.range a).map (lrow g)) (a : Int) = some (lapM g) := by
    intro m
    induction m with
    | zero =>
      intro a ha
      have : a = N g := by omega
      subst this
      rw [spec_LaplacianOf_l0_eq, decide_eq_false (by omega)]; rfl
    | succ m ih =>
      intro a ha
      have ha' : a < N g := by omega
      have r := row a ha' ((List.range a).map (lrow g)) (N g) 0 (by omega)
      have r' : spec_LaplacianOf_l2 g ((List.range a).map (lrow g)) (a : Int) [] 0 = _ := r
      rw [spec_LaplacianOf_l0_eq, decide_eq_true (by omega), cond_true, r', spec_LaplacianOf_l2_eq, decide_eq_false (by omega), cond_false, decide_eq_true (by rw [room]; simp only [List.length_singleton, List.length_map, List.length_range]; omega), cond_true, w64_succ ha' (by omega), rmap_succ]
      exact ih (a + 1) (by omega)
  exact key (N g) 0 (by omega)
def redM (g : Gr) : List (List Int) := ((lapM g).drop 1).map (List.drop 1)
theorem redl_p {g : Gr} (hG : GOk g) : spec_ReducedLaplacian g 0 = some (redM g) := by
  have hn := gN hG
  obtain ⟨b, p1, p2, p3⟩ := graphOk_p (g := g) (by have := hG.1.2.1; omega)
  have hb := p3.2 hG
  subst hb
  rw [spec_ReducedLaplacian_eq, p1]
  simp only [Option.bind_some, Bool.not_true, cond_false]
  rw [in_p, w64_id (n := g.1 - 1) (by omega) (by omega), decide_eq_true (by omega), Option.bind_some]
  simp only [Bool.not_true, cond_false]
  rw [lapl_p hG, Option.bind_some]
  have hL : (lapM g).length = N g := by simp [lapM]
  have hrow : ∀ j, j < N g → ((lapM g).getD j []).length = N g := fun j hj => by
    have hm := getD_mem [] (l := lapM g) (k := j) (by omega)
    obtain ⟨a, _, e⟩ := List.mem_map.1 hm
    rw [← e]; simp [lrow]
  have key : ∀ (m j : Nat), j + m = N g → 1 ≤ j → spec_ReducedLaplacian_l0 0 ((((lapM g).take j).drop 1).map (List.drop 1)) (lapM g) ((lapM g).length : Int) (j : Int) = some (redM g) := by
    intro m
    induction m with
    | zero =>
      intro j hj h1
      have : j = (lapM g).length := by omega
      rw [this, spec_ReducedLaplacian_l0_eq, dec_lt_f, cond_false, List.take_length]; rfl
    | succ m ih =>
      intro j hj h1
      have hj' : j < (lapM g).length := by omega
      have hr := hrow j (by omega)
      rw [spec_ReducedLaplacian_l0_eq, dec_lt_t hj', inside_lt hj', toNat_n, w64_succ hj' (by omega)]
      generalize hrd : (lapM g).getD j [] = r at hr
      have e1 : w64 ((0 : Int) + 1) = 1 := rfl
      simp only [cond_true]
      rw [ne_t (show ¬ (j : Int) = 0 by omega), cond_true, e1]
      have t0 : (decide ((0 : Nat) ≤ 0) && decide ((0 : Int) ≤ 0) && decide ((0 : Int) ≤ (r.length : Int))) = true := by
        rw [decide_eq_true (show (0 : Int) ≤ (r.length : Int) by omega)]; rfl
      have t1 : (decide ((0 : Int) ≤ 1) && decide ((1 : Int) ≤ (r.length : Int)) && decide ((r.length : Int) ≤ (r.length : Int))) = true := by
        rw [decide_eq_true (show (1 : Int) ≤ (r.length : Int) by omega), decide_eq_true (show (r.length : Int) ≤ (r.length : Int) by omega)]; rfl
      have e2 : ([] : List Int) ++ ((r.take (0 : Int).toNat).drop 0) = [] := rfl
      have e3 : (r.take ((r.length : Int)).toNat).drop (1 : Int).toNat = r.drop 1 := by rw [Int.toNat_natCast, List.take_length]; rfl
      rw [t0, cond_true, t1, e2, e3, List.nil_append]
      rw [decide_eq_true (by rw [room]; show (0 : Nat) + 0 ≤ _; omega), cond_true, cond_true, decide_eq_true (by rw [room, List.length_drop]; simp only [List.length_nil]; omega), cond_true, decide_eq_true (by rw [room]; simp only [List.length_singleton, List.length_map, List.length_drop, List.length_take]; omega), cond_true]
      have e4 : (((lapM g).take j).drop 1).map (List.drop 1) ++ [r.drop 1] = (((lapM g).take (j + 1)).drop 1).map (List.drop 1) := by
        rw [take_succ [] hj', hrd, List.drop_append_of_le_length (by rw [List.length_take]; omega), List.map_append]; rfl
      rw [e4]
      exact ih (j + 1) (by omega) (by omega)
  have k1 := key (N g - 1) 1 (by omega) (Nat.le_refl _)
  have e : (((lapM g).take 1).drop 1).map (List.drop 1) = [] := by
    have : ((lapM g).take 1).length = 1 := by rw [List.length_take]; omega
    rw [List.drop_eq_nil_of_le (by omega)]; rfl
  rw [e] at k1
  have h0 : (0 : Nat) < (lapM g).length := by omega
  have k1' : spec_ReducedLaplacian_l0 0 [] (lapM g) ((lapM g).length : Int) 1 = some (redM g) := k1
  rw [spec_ReducedLaplacian_l0_eq, decide_eq_true (by omega), cond_true, show inside 0 (lapM g).length = true from inside_lt h0, cond_true, show ((0 : Int) != 0) = false from rfl, cond_false, show w64 ((0 : Int) + 1) = 1 from rfl]
  exact k1'
theorem matOk_p {M : List (List Int)} (h : M.length ≤ 10) (hr : ∀ r ∈ M, r.length ≤ 10) : ∃ b, spec_MatrixOk M = some b := by
  rw [spec_MatrixOk_eq]
  cases decide ((M.length : Int) > 6) with
  | true => exact ⟨_, rfl⟩
  | false =>
    rw [cond_false]
    have key : ∀ (m j : Nat), j + m = M.length → ∃ b, spec_MatrixOk_l0 M M (M.length : Int) (j : Int) = some b := by
      intro m
      induction m with
      | zero =>
        intro j hj
        have : j = M.length := by omega
        subst this
        rw [spec_MatrixOk_l0_eq, dec_lt_f]; exact ⟨_, rfl⟩
      | succ m ih =>
        intro j hj
        have hj' : j < M.length := by omega
        have hrl := hr _ (getD_mem [] hj')
        rw [spec_MatrixOk_l0_eq, dec_lt_t hj', inside_lt hj', toNat_n]
        generalize M.getD j [] = r at hrl
        simp only [cond_true]
        cases ((r.length : Int) : Int) != (M.length : Int) with
        | true => exact ⟨_, rfl⟩
        | false =>
          rw [cond_false]
          have inner : ∀ (m i : Nat), i + m = r.length → ∃ b, spec_MatrixOk_l2 M M (M.length : Int) (j : Int) r (r.length : Int) (i : Int) = some b := by
            intro m
            induction m with
            | zero =>
              intro i hi
              have : i = r.length := by omega
              subst this
              rw [spec_MatrixOk_l2_eq, dec_lt_f, cond_false, w64_succ hj' (by omega)]
              exact ih (j + 1) (by omega)
            | succ m ih2 =>
              intro i hi
              have hi' : i < r.length := by omega
              rw [spec_MatrixOk_l2_eq, dec_lt_t hi', inside_lt hi', in_p, w64_succ hi' (by omega)]
              simp only [cond_true, Option.bind_some]
              cases decide ((-500) ≤ r.getD (i : Int).toNat 0 ∧ r.getD (i : Int).toNat 0 ≤ 500) with
              | false => exact ⟨_, rfl⟩
              | true => exact ih2 (i + 1) (by omega)
          exact inner r.length 0 (by omega)
    exact key M.length 0 (by omega)
theorem l03all_p {n : Nat} (hn : n ≤ 1000) : spec_l03All (n : Int) = some ((List.range n).map fun k : Nat => (k : Int)) := by
  rw [spec_l03All_eq]
  have key : ∀ (m k : Nat), k + m = n → spec_l03All_l0 (n : Int) ((List.range k).map fun k : Nat => (k : Int)) (k : Int) = some ((List.range n).map fun k : Nat => (k : Int)) := by
    intro m
    induction m with
    | zero =>
      intro k hk
      have : k = n := by omega
      subst this
      rw [spec_l03All_l0_eq, dec_lt_f]; rfl
    | succ m ih =>
      intro k hk
      have hk' : k < n := by omega
      rw [spec_l03All_l0_eq, dec_lt_t hk', cond_true, decide_eq_true (by rw [room]; simp only [List.length_singleton, List.length_map, List.length_range]; omega), cond_true, w64_succ hk' (by omega), rmap_succ (fun k : Nat => (k : Int))]
      exact ih (k + 1) (by omega)
  exact key n 0 (by omega)
theorem det_p {M : List (List Int)} {n : Nat} (hr : ∀ r ∈ M, r.length = n) : ∀ (rows : List Int), (∀ x ∈ rows, 0 ≤ x ∧ x < (M.length : Int)) → rows.length ≤ 10 → ∀ (cols : List Int), (∀ x ∈ cols, 0 ≤ x ∧ x < (n : Int)) → cols.length ≤ 10 → ∃ v, spec_l03Det M rows cols = some v := by
  intro rows
  induction rows with
  | nil => intro _ _ cols _ _; exact ⟨1, by rw [spec_l03Det_eq]; rfl⟩
  | cons r0 rs ih =>
    intro hx hl cols hc hcl
    rw [List.length_cons] at hl
    have h0 := hx r0 List.mem_cons_self
    rw [spec_l03Det_eq, beq_f (by rw [List.length_cons]; omega), cond_false]
    have key : ∀ (m j : Nat) (s sg : Int), j + m = cols.length → ∃ v, spec_l03Det_l0 M (r0 :: rs) cols s sg cols (cols.length : Int) (j : Int) = some v := by
      intro m
      induction m with
      | zero =>
        intro j s sg hj
        have : j = cols.length := by omega
        subst this
        rw [spec_l03Det_l0_eq, dec_lt_f]; exact ⟨_, rfl⟩
      | succ m ih2 =>
        intro j s sg hj
        have hj' : j < cols.length := by omega
        have hcj := hc _ (getD_mem 0 hj')
        have hrM : r0.toNat < M.length := by have := h0.1; have := h0.2; omega
        have hrl := hr _ (getD_mem [] (l := M) (k := r0.toNat) hrM)
        have g0 : (r0 :: rs).getD 0 0 = r0 := rfl
        rw [spec_l03Det_l0_eq, dec_lt_t hj', inside_lt hj', toNat_n, g0]
        simp only [cond_true]
        have i0 : inside 0 (r0 :: rs).length = true := inside_int (by omega) (by rw [List.length_cons]; omega)
        rw [i0, cond_true, inside_int h0.1 h0.2, cond_true, inside_int hcj.1 (by rw [hrl]; exact hcj.2), cond_true]
        have last : ∀ s, ∃ v, spec_l03Det_c12 M (r0 :: rs) cols s sg cols (cols.length : Int) (j : Int) = some v := fun s => by
          rw [spec_l03Det_c12_eq, w64_succ hj' (by omega)]
          exact ih2 (j + 1) s _ (by omega)
        cases (((M.getD r0.toNat []).getD (cols.getD j 0).toNat 0 : Int) != 0) with
        | false => exact last s
        | true =>
          rw [cond_true]
          have t0 : (decide ((0 : Nat) ≤ 0) && decide ((0 : Int) ≤ (j : Int)) && decide ((j : Int) ≤ (cols.length : Int))) = true := by
            rw [decide_eq_true (show (0 : Int) ≤ (j : Int) by omega), decide_eq_true (show (j : Int) ≤ (cols.length : Int) by omega)]; rfl
          have t1 : (decide ((0 : Int) ≤ w64 ((j : Int) + 1)) && decide (w64 ((j : Int) + 1) ≤ (cols.length : Int)) && decide ((cols.length : Int) ≤ (cols.length : Int))) = true := by
            rw [w64_succ hj' (by omega), decide_eq_true (by omega), decide_eq_true (by omega), decide_eq_true (by omega)]; rfl
          have t2 : (decide ((0 : Nat) ≤ 1) && decide ((1 : Int) ≤ ((r0 :: rs).length : Int)) && decide (((r0 :: rs).length : Int) ≤ ((r0 :: rs).length : Int))) = true := by
            rw [decide_eq_true (show (1 : Int) ≤ ((r0 :: rs).length : Int) by rw [List.length_cons]; omega), decide_eq_true (show ((r0 :: rs).length : Int) ≤ ((r0 :: rs).length : Int) by omega)]; rfl
          have t3 : ((r0 :: rs).take (((r0 :: rs).length : Int)).toNat).drop 1 = rs := by rw [Int.toNat_natCast, List.take_length]; rfl
          rw [t0, cond_true, decide_eq_true (by rw [room, List.drop_zero, List.length_take]; simp only [List.length_nil]; omega), cond_true, t1, cond_true, decide_eq_true (by rw [room, List.length_append, List.drop_zero, List.length_take, List.length_drop, List.length_take]; simp only [List.length_nil]; omega), cond_true, t2, cond_true, t3]
          obtain ⟨v, hv⟩ := ih (fun x h => hx x (List.mem_cons_of_mem _ h)) (by omega) (([] : List Int) ++ ((cols.take j).drop 0) ++ ((cols.take ((cols.length : Int)).toNat).drop (w64 ((j : Int) + 1)).toNat)) (fun x h => by
            rcases List.mem_append.1 h with h | h
            · rw [List.nil_append, List.drop_zero] at h
              exact hc x (List.mem_of_mem_take h)
            · exact hc x (List.mem_of_mem_take (List.mem_of_mem_drop h))) (by
            rw [List.length_append, List.nil_append, List.drop_zero, List.length_take, List.length_drop, List.length_take, w64_succ hj' (by omega), Int.toNat_natCast, Int.toNat_natCast]; omega)
          rw [hv, Option.bind_some]
          exact last _
    exact key cols.length 0 0 1 (by omega)
theorem count_p {g : Gr} (hG : GOk g) : ∃ n, spec_CountTrees g = some n := by
  have hn := gN hG
  obtain ⟨b, p1, p2, p3⟩ := graphOk_p (g := g) (by have := hG.1.2.1; omega)
  have hb := p3.2 hG
  subst hb
  have hl : (redM g).length = N g - 1 := by simp [redM, lapM]
  have hr : ∀ r ∈ redM g, r.length = N g - 1 := fun r h => by
    obtain ⟨r', h', rfl⟩ := List.mem_map.1 h
    obtain ⟨a, _, rfl⟩ := List.mem_map.1 (List.mem_of_mem_drop h')
    simp [lrow]
  obtain ⟨b, hb⟩ := matOk_p (M := redM g) (by omega) (fun r h => by rw [hr r h]; omega)
  rw [spec_CountTrees_eq, p1]
  simp only [Option.bind_some, Bool.not_true, cond_false]
  rw [redl_p hG, Option.bind_some, spec_Determinant_eq, hb, Option.bind_some]
  cases b with
  | false => exact ⟨0, rfl⟩
  | true =>
    simp only [Bool.not_true, cond_false]
    have hm : ∀ x ∈ (List.range (redM g).length).map (fun k : Nat => (k : Int)), 0 ≤ x ∧ x < ((redM g).length : Int) := fun x h => by
      obtain ⟨k, hk, rfl⟩ := List.mem_map.1 h
      rw [List.mem_range] at hk
      omega
    obtain ⟨v, hv⟩ := det_p (M := redM g) (n := N g - 1) hr ((List.range (redM g).length).map fun k : Nat => (k : Int)) hm (by simp; omega) ((List.range (redM g).length).map fun k : Nat => (k : Int)) (fun x h => by have := hm x h; omega) (by simp; omega)
    rw [l03all_p (by omega), Option.bind_some, Option.bind_some, hv]
    exact ⟨v, rfl⟩
/-! ### the triangle -/
def T3 : Gr := (3, [(0, 1), (0, 2), (1, 2)])
theorem T3_ok : GOk T3 := by
  refine ⟨⟨by decide, by decide, fun j hj => ?_⟩, fun j hj => ?_, fun v h0 h1 => ?_⟩
  · have hj' : j < 3 := hj
    have : j = 0 ∨ j = 1 ∨ j = 2 := by omega
    rcases this with rfl | rfl | rfl <;> decide
  · have hj' : j + 1 < 3 := hj
    have : j = 0 ∨ j = 1 := by omega
    rcases this with rfl | rfl <;> decide
  · have h1' : v < 3 := h1
    have c1 : Conn T3.2 1 := Conn.fwd (es := T3.2) (j := 0) (by decide) .zero
    have c2 : Conn T3.2 2 := Conn.fwd (es := T3.2) (j := 1) (by decide) .zero
    have : v = 0 ∨ v = 1 ∨ v = 2 := by omega
    rcases this with rfl | rfl | rfl
    · exact .zero
    · exact c1
    · exact c2
def M3 : List (List Int) := [[2, -1], [-1, 2]]
theorem M3_det : spec_l03Det M3 [0, 1] [0, 1] = some 3 := by
  have z : ∀ c, spec_l03Det M3 [] c = some 1 := fun c => (spec_l03Det_eq _ _ _).trans (by kernel_rfl)
  have one : ∀ c : Int, c = 0 ∨ c = 1 → spec_l03Det M3 [1] [c] = some ((M3.getD 1 []).getD c.toNat 0) := by
    intro c hc
    rcases hc with rfl | rfl
    · refine (spec_l03Det_eq _ _ _).trans ((spec_l03Det_l0_eq _ _ _ _ _ _ _ _).trans (Eq.trans (b := (spec_l03Det M3 [] []).bind fun r1 => spec_l03Det_c12 M3 [1] [0] (w64 (0 + w64 (w64 (1 * (-1)) * r1))) 1 [0] 1 0) (by kernel_rfl) ?_))
      rw [z, Option.bind_some, spec_l03Det_c12_eq]
      exact (spec_l03Det_l0_eq _ _ _ _ _ _ _ _).trans (by kernel_rfl)
    · refine (spec_l03Det_eq _ _ _).trans ((spec_l03Det_l0_eq _ _ _ _ _ _ _ _).trans (Eq.trans (b := (spec_l03Det M3 [] []).bind fun r1 => spec_l03Det_c12 M3 [1] [1] (w64 (0 + w64 (w64 (1 * 2) * r1))) 1 [1] 1 0) (by kernel_rfl) ?_))
      rw [z, Option.bind_some, spec_l03Det_c12_eq]
      exact (spec_l03Det_l0_eq _ _ _ _ _ _ _ _).trans (by kernel_rfl)
  refine (spec_l03Det_eq _ _ _).trans ((spec_l03Det_l0_eq _ _ _ _ _ _ _ _).trans (Eq.trans (b := (spec_l03Det M3 [1] [1]).bind fun r1 => spec_l03Det_c12 M3 [0, 1] [0, 1] (w64 (0 + w64 (w64 (1 * 2) * r1))) 1 [0, 1] 2 0) (by kernel_rfl) ?_))
  rw [one 1 (.inr rfl), Option.bind_some, spec_l03Det_c12_eq]
  refine (spec_l03Det_l0_eq _ _ _ _ _ _ _ _).trans (Eq.trans (b := (spec_l03Det M3 [1] [0]).bind fun r1 => spec_l03Det_c12 M3 [0, 1] [0, 1] (w64 (4 + w64 (w64 ((-1) * (-1)) * r1))) (-1) [0, 1] 2 1) (by kernel_rfl) ?_)
  rw [one 0 (.inl rfl), Option.bind_some, spec_l03Det_c12_eq]
  exact (spec_l03Det_l0_eq _ _ _ _ _ _ _ _).trans (by kernel_rfl)
theorem T3_count : ∃ n, spec_CountTrees T3 = some n ∧ n ≤ 400 := by
  obtain ⟨b, p1, p2, p3⟩ := graphOk_p (g := T3) (by decide)
  have hb := p3.2 T3_ok
  subst hb
  have hM : redM T3 = M3 := by decide
  obtain ⟨b, hb⟩ := matOk_p (M := M3) (by decide) (by decide)
  rw [spec_CountTrees_eq, p1]
  simp only [Option.bind_some, Bool.not_true, cond_false]
  rw [redl_p T3_ok, Option.bind_some, hM, spec_Determinant_eq, hb, Option.bind_some]
  cases b with
  | false => exact ⟨0, rfl, by decide⟩
  | true =>
    have ha : spec_l03All (M3.length : Int) = some [0, 1] := l03all_p (n := 2) (by decide)
    simp only [Bool.not_true, cond_false]
    rw [ha, Option.bind_some, Option.bind_some, M3_det]
    exact ⟨3, rfl, by decide⟩
/-! ### the draw -/
theorem trees_p {g : Gr} (hG : GOk g) (h2 : 2 ≤ g.1) {n : Int} (hn : spec_CountTrees g = some n) : ∃ x, spec_TreesOf g = some x ∧ (x.2 = true ↔ n ≤ 400) ∧ x.1.length ≤ 1000000 ∧ (x.2 = true → 0 < x.1.length ∧ ∀ t ∈ x.1, (t.length : Int) = g.1 - 1 ∧ Tr g t) := by
  have hN := gN hG
  have h12 := hG.1.2.1
  obtain ⟨b, p1, p2, p3⟩ := graphOk_p (g := g) (by omega)
  have hb := p3.2 hG
  subst hb
  rw [spec_TreesOf_eq, p1]
  simp only [Option.bind_some, Bool.not_true, cond_false]
  rw [hn, Option.bind_some]
  by_cases c : n > 400
  · rw [decide_eq_true c]
    exact ⟨_, rfl, ⟨fun h => (by cases h), fun h => (by omega)⟩, Nat.zero_le _, fun h => by cases h⟩
  · rw [decide_eq_false c, cond_false, w64_id (by omega) (by omega), show g.1 - 1 = ((N g - 1 : Nat) : Int) by omega]
    obtain ⟨S, s1, s2, s3⟩ := sets_p (n := g.2.length) (by omega) (N g - 1) (by omega)
    have h5 : 12 ^ (N g - 1) ≤ 12 ^ 5 := Nat.pow_le_pow_right (by decide) (by omega)
    have hSl : S.length ≤ 1000000 := Nat.le_trans s2 (Nat.le_trans h5 (by decide))
    obtain ⟨T, t1, t2, t3, t4, t5⟩ := trees0_p hG (k := N g - 1) (by omega) (fun s hs => (s3 s).1 hs) hSl S.length 0 [] (by omega) (Nat.zero_le _)
    have t1' : spec_TreesOf_l0 g [] S (S.length : Int) 0 = some (T, true) := t1
    rw [s1, Option.bind_some, t1']
    refine ⟨(T, true), rfl, ⟨fun _ => by omega, fun _ => rfl⟩, Nat.le_trans t2 hSl, fun _ => ⟨?_, fun t ht => ?_⟩⟩
    · obtain ⟨s, q1, q2, q3, q4⟩ := tree_ex hG
      obtain ⟨i, hi, e⟩ := List.getElem_of_mem ((s3 s).2 ⟨by omega, q2, q3⟩)
      have hm := t5 i (Nat.zero_le _) hi (by rw [getD_lt hi, e]; exact q4)
      exact List.length_pos_of_mem hm
    · rcases t3 t ht with h | ⟨h, hA⟩
      · exact absurd h List.not_mem_nil
      · obtain ⟨q1, q2, q3⟩ := (s3 t).1 h
        refine ⟨by rw [q1], ⟨fun k hk => q3 _ (getD_mem 0 hk), fun k hk => ?_⟩, hA⟩
        rw [getD_lt (by omega), getD_lt hk]
        exact (List.pairwise_iff_getElem.1 q2) k (k + 1) (by omega) hk (by omega)
theorem below_q {c : Cur} (hc : CurOk c) {n : Int} (h1 : 1 ≤ n) (h2 : n ≤ 1000000) : ∃ x c', spec_l01Below c n = some (x, c') ∧ (0 ≤ x ∧ x < n) ∧ CurOk c' := by
  by_cases c1 : n ≤ 256
  · exact below_p hc h1 c1
  · obtain ⟨x1, d1, a1, a2, a3⟩ := byte_p hc
    obtain ⟨x2, d2, b1, b2, b3⟩ := byte_p a3
    obtain ⟨x3, d3, e1, e2, e3⟩ := byte_p b3
    obtain ⟨x4, d4, f1, f2, f3⟩ := byte_p e3
    rw [spec_l01Below_eq, decide_eq_false (by omega), cond_false, decide_eq_false c1, cond_false, a1, Option.bind_some]
    simp only
    rw [b1, Option.bind_some]
    simp only
    rw [e1, Option.bind_some]
    simp only
    rw [f1, Option.bind_some, decide_eq_false (by omega), cond_false]
    simp only
    rw [w64_id (n := x1 * 16777216) (by omega) (by omega), w64_id (n := x2 * 65536) (by omega) (by omega), w64_id (n := x1 * 16777216 + x2 * 65536) (by omega) (by omega), w64_id (n := x3 * 256) (by omega) (by omega), w64_id (n := x1 * 16777216 + x2 * 65536 + x3 * 256) (by omega) (by omega), w64_id (n := x1 * 16777216 + x2 * 65536 + x3 * 256 + x4) (by omega) (by omega)]
    refine ⟨_, d4, rfl, ?_, f3⟩
    have h0 : 0 ≤ x1 * 16777216 + x2 * 65536 + x3 * 256 + x4 := by omega
    exact ⟨Int.tmod_nonneg _ h0, Int.tmod_lt_of_pos _ (by omega)⟩
theorem makeTree_p {l : List Int} (h : l.length ≤ 1048576) : ∃ g t, spec_MakeTree l = some (g, t) ∧ GOk g ∧ 2 ≤ g.1 ∧ (t.length : Int) = g.1 - 1 ∧ Tr g t := by
  obtain ⟨c, c1, c2⟩ := new_p h
  obtain ⟨g, c', g1, hG, g2, g3, hc'⟩ := graph_p c2
  obtain ⟨n, hn⟩ := count_p hG
  obtain ⟨x, x1, x2, x3, x4⟩ := trees_p hG g2 hn
  rw [spec_MakeTree_eq, c1, Option.bind_some, g1, Option.bind_some]
  simp only
  rw [x1, Option.bind_some]
  have fin : ∀ {g : Gr} {x : List (List Int) × Bool}, x.1.length ≤ 1000000 → 0 < x.1.length → (∀ t ∈ x.1, (t.length : Int) = g.1 - 1 ∧ Tr g t) → ∃ y c'', spec_l01Below c' (x.1.length : Int) = some (y, c'') ∧ inside y x.1.length = true ∧ ((x.1.getD y.toNat []).length : Int) = g.1 - 1 ∧ Tr g (x.1.getD y.toNat []) := by
    intro g x h1 h2 h3
    obtain ⟨y, c'', y1, y2, y3⟩ := below_q hc' (n := (x.1.length : Int)) (by omega) (by omega)
    exact ⟨y, c'', y1, inside_int y2.1 y2.2, h3 _ (getD_mem [] (by omega))⟩
  cases hx : x.2 with
  | true =>
    obtain ⟨h0, hall⟩ := x4 hx
    obtain ⟨y, c'', y1, y2, y3, y4⟩ := fin x3 h0 hall
    simp only [Bool.not_true, cond_false]
    rw [y1, Option.bind_some]
    simp only
    rw [y2]
    exact ⟨g, _, rfl, hG, g2, y3, y4⟩
  | false =>
    obtain ⟨n3, m1, m2⟩ := T3_count
    obtain ⟨z, z1, z2, z3, z4⟩ := trees_p T3_ok (by decide) m1
    obtain ⟨h0, hall⟩ := z4 (z2.2 m2)
    obtain ⟨y, c'', y1, y2, y3, y4⟩ := fin z3 h0 hall
    have z1' : spec_TreesOf (3, ([(0, 1), (0, 2), (1, 2)] : List (Int × Int))) = some z := z1
    simp only [Bool.not_false, cond_true]
    rw [z1', Option.bind_some, y1, Option.bind_some]
    simp only
    rw [y2]
    exact ⟨T3, _, rfl, T3_ok, by decide, y3, y4⟩
end Go.Proofs.Ythmddgkpebneoaa.D

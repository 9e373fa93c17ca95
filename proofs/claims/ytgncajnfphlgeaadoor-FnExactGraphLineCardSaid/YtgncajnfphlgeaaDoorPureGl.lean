/-
  The group and the trees of a graph, and the line that tells of them: both programs alike.
-/
import Derived.Test.YtgncajnfphlgeaaDoorPureDv
import Derived.Test.YtgncajnfphlgeaaDoorPureS
namespace Go.Proofs.YtgncajnfphlgeaaDoor.D
open Go Go.Den
set_option linter.unusedVariables false
set_option linter.unusedSimpArgs false
theorem spec_valG {g : Gr} (hg : GOk g) {v : Nat} (hv : v < N g) : spec_Valence g (v : Int) = some (val (Eg g) v) := by
  obtain ⟨gE1, gE2, gE3⟩ := gE hg
  have hn := gN hg
  rw [spec_Valence_eq, spec_l02Vert_eq, decide_eq_true (by omega), decide_eq_true (by omega)]
  simp only [cond_true, Option.bind_some, Bool.not_true, cond_false]
  have := upFold (n := g.2.length) (f := fun s i => spec_Valence_l0 (v : Int) s g.2 (g.2.length : Int) i) (g := fun k s => val ((Eg g).take (k + 1)) v) (fun k s => s = val ((Eg g).take k) v) (fun k s hk hs => ⟨by
    obtain ⟨x, y, q1, q2, q3, q4⟩ := gEk hg hk
    subst hs
    have bd := val_bd v ((Eg g).take k)
    have ln : ((Eg g).take k).length ≤ 12 := by rw [List.length_take]; omega
    rw [spec_Valence_l0_eq, dec_lt_t hk, inside_lt hk, toNat_n, q1, w64_succ hk (by omega), val_take (by omega), q2]
    simp only [cond_true]
    unfold ends
    by_cases c1 : v = x
    · rw [beq_t (show (x : Int) = (v : Int) by omega), cond_true, if_pos c1, w64_id (by omega) (by omega)]
    · rw [beq_f (show ¬ (x : Int) = (v : Int) by omega), cond_false, if_neg c1]
      by_cases c2 : v = y
      · rw [beq_t (show (y : Int) = (v : Int) by omega), cond_true, if_pos c2, w64_id (by omega) (by omega)]
      · rw [beq_f (show ¬ (y : Int) = (v : Int) by omega), cond_false, if_neg c2, Int.add_zero], rfl⟩) (s := 0) (by simp [val])
  refine this.1.trans ?_
  rw [this.2, spec_Valence_l0_eq, dec_lt_f, cond_false, ← gE3, List.take_length]
/-- an entry of the Laplacian -/
def le (E : Es) (a b : Nat) : Int := if b = a then val E a else - mul E a b
def lrow (g : Gr) (a : Nat) : List Int := (List.range (N g)).map (le (Eg g) a)
def LAP (g : Gr) : List (List Int) := (List.range (N g)).map (lrow g)
def RLM (g : Gr) : List (List Int) := (List.range (N g - 1)).map fun a => (List.range (N g - 1)).map fun b => le (Eg g) (a + 1) (b + 1)
theorem le_bd {g : Gr} (hg : GOk g) (a b : Nat) : -12 ≤ le (Eg g) a b ∧ le (Eg g) a b ≤ 12 := by
  obtain ⟨gE1, gE2, gE3⟩ := gE hg
  have h1 := val_bd a (Eg g)
  have h2 := mul_bd a b (Eg g)
  unfold le
  split <;> omega
theorem lrow_len (g : Gr) (a : Nat) : (lrow g a).length = N g := by unfold lrow; rw [List.length_map, List.length_range]
theorem sLap_p {g : Gr} (hg : GOk g) : spec_LaplacianOf_l0 g [] 0 = some (LAP g) := by
  have hn := gN hg
  have row : ∀ (out : List (List Int)) (a : Nat), a < N g → out.length ≤ 6 → spec_LaplacianOf_l2 g out (a : Int) [] 0 = spec_LaplacianOf_l0 g (out ++ [lrow g a]) ((a + 1 : Nat) : Int) := by
    intro out a ha ho
    have key : ∀ (m b : Nat), b + m = N g → spec_LaplacianOf_l2 g out (a : Int) ((List.range b).map (le (Eg g) a)) (b : Int) = spec_LaplacianOf_l0 g (out ++ [lrow g a]) ((a + 1 : Nat) : Int) := by
      intro m
      induction m with
      | zero =>
        intro b hb
        have : b = N g := by omega
        subst this
        rw [spec_LaplacianOf_l2_eq, ← hn.1, dec_lt_f, cond_false, decide_eq_true (by rw [room]; simp only [List.length_singleton]; omega), cond_true, w64_succ ha (by omega)]
        rfl
      | succ m im =>
        intro b hb
        have hb' : b < N g := by omega
        have bd := le_bd hg a b
        have hnext : ∀ x, x = le (Eg g) a b → spec_LaplacianOf_l2 g out (a : Int) ((List.range b).map (le (Eg g) a) ++ [x]) ((b + 1 : Nat) : Int) = spec_LaplacianOf_l0 g (out ++ [lrow g a]) ((a + 1 : Nat) : Int) := by
          rintro x rfl
          rw [show (List.range b).map (le (Eg g) a) ++ [le (Eg g) a b] = (List.range (b + 1)).map (le (Eg g) a) by rw [List.range_succ, List.map_append]; rfl]
          exact im (b + 1) (by omega)
        have hroom : ∀ x : Int, decide (((List.range b).map (le (Eg g) a)).length + ([x] : List Int).length ≤ room) = true := fun x => decide_eq_true (by rw [List.length_map, List.length_range, room]; simp only [List.length_singleton]; omega)
        rw [spec_LaplacianOf_l2_eq, ← hn.1, dec_lt_t hb', cond_true]
        by_cases e : a = b
        · rw [beq_t (show (a : Int) = (b : Int) by omega), cond_true, spec_valG hg ha, Option.bind_some, hroom, cond_true, w64_succ hb' (by omega)]
          exact hnext _ (by unfold le; rw [if_pos e.symm])
        · have hm := mul_bd a b (Eg g)
          obtain ⟨gE1, gE2, gE3⟩ := gE hg
          rw [beq_f (show ¬ (a : Int) = (b : Int) by omega), cond_false, spec_mul_p hg ha hb', Option.bind_some, hroom, cond_true, w64_succ hb' (by omega), w64_id (n := 0 - mul (Eg g) a b) (by omega) (by omega)]
          exact hnext _ (by unfold le; rw [if_neg (fun c => e c.symm)]; omega)
    have := key (N g) 0 (by omega)
    exact this
  have key : ∀ (m a : Nat), a + m = N g → spec_LaplacianOf_l0 g ((List.range a).map (lrow g)) (a : Int) = some (LAP g) := by
    intro m
    induction m with
    | zero =>
      intro a ha
      have : a = N g := by omega
      subst this
      rw [spec_LaplacianOf_l0_eq, ← hn.1, dec_lt_f]
      rfl
    | succ m im =>
      intro a ha
      have ha' : a < N g := by omega
      rw [spec_LaplacianOf_l0_eq, ← hn.1, dec_lt_t ha', cond_true, row _ a ha' (by rw [List.length_map, List.length_range]; omega)]
      rw [show (List.range a).map (lrow g) ++ [lrow g a] = (List.range (a + 1)).map (lrow g) by rw [List.range_succ, List.map_append]; rfl]
      exact im (a + 1) (by omega)
  exact key (N g) 0 (by omega)
theorem iLap_p {g : Gr} (hg : GOk g) : impl_LaplacianOf_l0 g [] 0 = some (LAP g) := by
  have hn := gN hg
  obtain ⟨gE1, gE2, gE3⟩ := gE hg
  have row : ∀ (out : List (List Int)) (a : Nat), a < N g → out.length ≤ 6 → impl_LaplacianOf_l2 g out (a : Int) (List.replicate (N g) 0) (N g : Int) 0 = impl_LaplacianOf_l0 g (out ++ [lrow g a]) ((a + 1 : Nat) : Int) := by
    intro out a ha ho
    have key : ∀ (m b : Nat) (r : List Int), b + m = N g → r.length = N g → (∀ w, w < b → r.getD w 0 = - mul (Eg g) a w) → impl_LaplacianOf_l2 g out (a : Int) r (N g : Int) (b : Int) = impl_LaplacianOf_l0 g (out ++ [lrow g a]) ((a + 1 : Nat) : Int) := by
      intro m
      induction m with
      | zero =>
        intro b r hb hr hw
        have : b = N g := by omega
        subst this
        have e : r.set a (val (Eg g) a) = lrow g a := by
          refine ext_getD (d := 0) (by rw [List.length_set, hr, lrow_len]) fun j hj => ?_
          rw [List.length_set, hr] at hj
          rw [getD_set (by omega)]
          unfold lrow
          rw [getD_range_map _ hj]
          unfold le
          split
          · rfl
          · exact hw j hj
        rw [impl_LaplacianOf_l2_eq, dec_lt_f, cond_false, impl_val_p hg ha, Option.bind_some, inside_lt (by rw [hr]; exact ha), cond_true, decide_eq_true (by rw [room]; simp only [List.length_singleton]; omega), cond_true, w64_succ ha (by omega), toNat_n, e]
      | succ m im =>
        intro b r hb hr hw
        have hb' : b < N g := by omega
        have hm := mul_bd a b (Eg g)
        rw [impl_LaplacianOf_l2_eq, dec_lt_t hb', cond_true, impl_mul_p hg ha hb', Option.bind_some, inside_lt (by rw [hr]; exact hb'), cond_true, w64_succ hb' (by omega), toNat_n, w64_id (n := 0 - mul (Eg g) a b) (by omega) (by omega)]
        refine im (b + 1) _ (by omega) (by rw [List.length_set]; exact hr) fun w hw' => ?_
        rw [getD_set (by omega)]
        split
        · rename_i e; rw [e]; omega
        · exact hw w (by omega)
    exact key (N g) 0 _ (by omega) List.length_replicate fun w hw => absurd hw (Nat.not_lt_zero _)
  have key : ∀ (m a : Nat), a + m = N g → impl_LaplacianOf_l0 g ((List.range a).map (lrow g)) (a : Int) = some (LAP g) := by
    intro m
    induction m with
    | zero =>
      intro a ha
      have : a = N g := by omega
      subst this
      rw [impl_LaplacianOf_l0_eq, ← hn.1, dec_lt_f]
      rfl
    | succ m im =>
      intro a ha
      have ha' : a < N g := by omega
      rw [impl_LaplacianOf_l0_eq, ← hn.1, dec_lt_t ha', cond_true, decide_eq_true (by omega), decide_eq_true (by rw [room]; omega), Bool.and_self, cond_true, toNat_n, List.length_replicate, row _ a ha' (by rw [List.length_map, List.length_range]; omega)]
      rw [show (List.range a).map (lrow g) ++ [lrow g a] = (List.range (a + 1)).map (lrow g) by rw [List.range_succ, List.map_append]; rfl]
      exact im (a + 1) (by omega)
  exact key (N g) 0 (by omega)
theorem LAP_len (g : Gr) : (LAP g).length = N g := by unfold LAP; rw [List.length_map, List.length_range]
theorem LAP_get {g : Gr} {a : Nat} (h : a < N g) : (LAP g).getD a [] = lrow g a := getD_range_map _ h
theorem drop_row {g : Gr} (hn : 1 ≤ N g) (a : Nat) : (lrow g a).drop 1 = (List.range (N g - 1)).map fun b => le (Eg g) a (b + 1) := by
  unfold lrow
  obtain ⟨m, hm⟩ : ∃ m, N g = m + 1 := ⟨N g - 1, by omega⟩
  rw [hm, List.range_succ_eq_map, List.map_cons, List.drop_succ_cons, List.drop_zero, List.map_map]
  rfl
theorem sRed_p {g : Gr} (hg : GOk g) : spec_ReducedLaplacian g 0 = some (RLM g) := by
  have hn := gN hg
  have hl : g.2.length ≤ 1048576 := by have := hg.1.2.1; omega
  obtain ⟨b, p1, p2, p3⟩ := graphOk_p (g := g) (by omega)
  have hb := p3.2 hg
  have hlap : spec_LaplacianOf g = some (LAP g) := by
    rw [spec_LaplacianOf_eq, p1, hb, Option.bind_some]
    exact sLap_p hg
  rw [spec_ReducedLaplacian_eq, p1, hb, Option.bind_some, Bool.not_true, cond_false, in_p, w64_id (by omega) (by omega), Option.bind_some, decide_eq_true (show (0 : Int) ≤ 0 ∧ (0 : Int) ≤ g.1 - 1 by omega), Bool.not_true, cond_false, hlap, Option.bind_some, LAP_len]
  have key : ∀ (m a : Nat), a + m = N g → 1 ≤ a → spec_ReducedLaplacian_l0 0 ((List.range (a - 1)).map fun a => (List.range (N g - 1)).map fun b => le (Eg g) (a + 1) (b + 1)) (LAP g) (N g : Int) (a : Int) = some (RLM g) := by
    intro m
    induction m with
    | zero =>
      intro a ha h1
      have : a = N g := by omega
      subst this
      rw [spec_ReducedLaplacian_l0_eq, dec_lt_f]
      rfl
    | succ m im =>
      intro a ha h1
      have ha' : a < N g := by omega
      have hne : ((a : Int) != 0) = true := by rw [bne_iff_ne]; omega
      have ht0 : (0 : Int).toNat = 0 := rfl
      have hw1 : w64 ((0 : Int) + 1) = 1 := rfl
      have ht1 : (1 : Int).toNat = 1 := rfl
      have hrl := lrow_len g a
      rw [spec_ReducedLaplacian_l0_eq, dec_lt_t ha', inside_lt (by rw [LAP_len]; exact ha'), cond_true, cond_true, hne, cond_true, toNat_n, LAP_get ha', hw1, ht0, ht1, toNat_n, hrl, w64_succ ha' (by omega)]
      have z1 : (decide (0 ≤ 0) && decide ((0 : Int) ≤ 0) && decide ((0 : Int) ≤ (N g : Int))) = true := by rw [decide_eq_true (by omega), decide_eq_true (by omega), decide_eq_true (by omega)]; rfl
      have z2 : (decide ((0 : Int) ≤ 1) && decide ((1 : Int) ≤ (N g : Int)) && decide ((N g : Int) ≤ (N g : Int))) = true := by rw [decide_eq_true (by omega), decide_eq_true (by omega), decide_eq_true (by omega)]; rfl
      have ht : (lrow g a).take (N g) = lrow g a := by rw [← hrl, List.take_length]
      rw [z1, cond_true, z2, ht, List.take_zero, List.drop_zero, List.nil_append, List.nil_append, drop_row (by omega)]
      rw [decide_eq_true (by rw [room]; simp only [List.length_nil]; omega), cond_true, cond_true, decide_eq_true (by rw [List.length_map, List.length_range, room]; simp only [List.length_nil]; omega), cond_true, decide_eq_true (by rw [List.length_map, List.length_range, room]; simp only [List.length_singleton]; omega), cond_true]
      have := im (a + 1) (by omega) (by omega)
      rw [show a + 1 - 1 = (a - 1) + 1 by omega, List.range_succ, List.map_append, List.map_singleton, show a - 1 + 1 = a by omega] at this
      exact this
  have h0 : spec_ReducedLaplacian_l0 0 [] (LAP g) (N g : Int) 0 = spec_ReducedLaplacian_l0 0 [] (LAP g) (N g : Int) ((1 : Nat) : Int) := by
    have h0' : (0 : Nat) < N g := by omega
    have := dec_lt_t h0'
    rw [show ((0 : Nat) : Int) = 0 from rfl] at this
    have hi := inside_lt (k := 0) (n := (LAP g).length) (by rw [LAP_len]; omega)
    rw [show ((0 : Nat) : Int) = 0 from rfl] at hi
    conv => lhs; rw [spec_ReducedLaplacian_l0_eq, this, hi, cond_true, cond_true]
    rfl
  rw [h0]
  exact key (N g - 1) 1 (by omega) (Nat.le_refl _)
theorem iRed_p {g : Gr} (hg : GOk g) : impl_ReducedLaplacian g 0 = some (RLM g) := by
  have hn := gN hg
  have hl : g.2.length ≤ 1048576 := by have := hg.1.2.1; omega
  obtain ⟨b, p1, p2, p3⟩ := graphOk_p (g := g) (by omega)
  have hb := p3.2 hg
  have hlap : impl_LaplacianOf g = some (LAP g) := by
    rw [impl_LaplacianOf_eq, p2, hb, Option.bind_some]
    exact iLap_p hg
  have hv : impl_isVertex g 0 = some true := by
    rw [impl_isVertex_eq, p2, hb, Option.bind_some, cond_true, within_p, w64_id (by omega) (by omega), Option.bind_some, decide_eq_true (show (0 : Int) ≤ 0 ∧ (0 : Int) ≤ g.1 - 1 by omega)]
  rw [impl_ReducedLaplacian_eq]
  unfold Lb.redLap
  rw [hv, Option.bind_some, cond_true, hlap, Option.bind_some]
  unfold Lb.redOf
  rw [if_pos ⟨by rw [LAP_len]; omega, by rw [LAP_len]; omega, by omega, by omega, fun r hr => by
    obtain ⟨a, ha, rfl⟩ := List.mem_map.1 hr
    rw [lrow_len]; omega⟩]
  congr 1
  unfold Lb.redUp RLM
  rw [LAP_len]
  obtain ⟨m, hm⟩ : ∃ m, N g = m + 1 := ⟨N g - 1, by omega⟩
  have h1 : (List.range (N g)).filter (fun j => j != (0 : Int).toNat) = (List.range (N g - 1)).map (· + 1) := by
    rw [hm, List.range_succ_eq_map, List.filter_cons]
    simp only [Int.toNat_zero, bne_self_eq_false, Bool.false_eq_true, if_false]
    rw [List.filter_eq_self.2]
    · rfl
    · intro a ha
      obtain ⟨x, _, rfl⟩ := List.mem_map.1 ha
      simp
  rw [h1, List.map_map]
  refine List.map_congr_left fun a ha => ?_
  rw [List.mem_range] at ha
  show Lb.delAt 0 ((LAP g).getD (a + 1) []) = _
  rw [LAP_get (by omega)]
  unfold Lb.delAt
  rw [List.take_zero, List.nil_append, Nat.zero_add, drop_row (by omega)]
theorem RLM_ok {g : Gr} (hg : GOk g) : MxOk (RLM g) (N g - 1) := by
  have hn := gN hg
  have hget : ∀ r, r < N g - 1 → (RLM g).getD r [] = (List.range (N g - 1)).map fun b => le (Eg g) (r + 1) (b + 1) := fun r hr => getD_range_map _ hr
  have hlen : (RLM g).length = N g - 1 := by unfold RLM; rw [List.length_map, List.length_range]
  refine ⟨hlen, fun r hr => by rw [hget r hr, List.length_map, List.length_range], fun r c => ?_, by omega⟩
  unfold ent
  by_cases hr : r < N g - 1
  · rw [hget r hr]
    by_cases hc : c < N g - 1
    · rw [getD_range_map _ hc]
      exact le_bd hg _ _
    · rw [List.getD_eq_getElem?_getD, List.getElem?_eq_none (by rw [List.length_map, List.length_range]; omega)]
      exact ⟨by decide, by decide⟩
  · rw [List.getD_eq_getElem?_getD (l := RLM g), List.getElem?_eq_none (by omega)]
    show -12 ≤ ([] : List Int).getD c 0 ∧ ([] : List Int).getD c 0 ≤ 12
    simp
theorem sMat_p {M : List (List Int)} {n : Nat} (hM : MxOk M n) : spec_MatrixOk M = some true := by
  have hn5 := hM.n5
  rw [spec_MatrixOk_eq, hM.len, decide_eq_false (by omega), cond_false]
  have key : ∀ (m r : Nat), r + m = n → spec_MatrixOk_l0 M M (n : Int) (r : Int) = some true := by
    intro m
    induction m with
    | zero =>
      intro r hr
      have : r = n := by omega
      subst this
      rw [spec_MatrixOk_l0_eq, dec_lt_f]
      rfl
    | succ m im =>
      intro r hr
      have hr' : r < n := by omega
      have hne : (((n : Nat) : Int) != (n : Int)) = false := by simp
      rw [spec_MatrixOk_l0_eq, dec_lt_t hr', inside_lt (by rw [hM.len]; exact hr'), cond_true, cond_true, toNat_n, hM.row r hr', hM.len, hne, cond_false]
      have k2 : ∀ (m c : Nat), c + m = n → spec_MatrixOk_l2 M M (n : Int) (r : Int) (M.getD r []) (n : Int) (c : Int) = some true := by
        intro m
        induction m with
        | zero =>
          intro c hc
          have : c = n := by omega
          subst this
          rw [spec_MatrixOk_l2_eq, dec_lt_f, cond_false, w64_succ hr' (by omega)]
          exact im (r + 1) (by omega)
        | succ m im2 =>
          intro c hc
          have hc' : c < n := by omega
          have hb := hM.bd r c
          unfold ent at hb
          rw [spec_MatrixOk_l2_eq, dec_lt_t hc', inside_lt (by rw [hM.row r hr']; exact hc'), cond_true, cond_true, toNat_n, in_p, Option.bind_some, decide_eq_true (by omega), Bool.not_true, cond_false, w64_succ hc' (by omega)]
          exact im2 (c + 1) (by omega)
      exact k2 n 0 (by omega)
  exact key n 0 (by omega)
theorem iMat_p {M : List (List Int)} {n : Nat} (hM : MxOk M n) : impl_MatrixOk M = some true := by
  have hn5 := hM.n5
  rw [impl_MatrixOk_eq, hM.len, decide_eq_false (by omega), cond_false]
  have key : ∀ (m r : Nat), r + m = n → impl_MatrixOk_l0 M M (n : Int) (r : Int) = some true := by
    intro m
    induction m with
    | zero =>
      intro r hr
      have : r = n := by omega
      subst this
      rw [impl_MatrixOk_l0_eq, dec_lt_f]
      rfl
    | succ m im =>
      intro r hr
      have hr' : r < n := by omega
      have hne : (((n : Nat) : Int) != (n : Int)) = false := by simp
      have k2 : ∀ (m c : Nat), c + m = n → impl_allWithin_l0 (-500) 500 (M.getD r []) (n : Int) (c : Int) = some true := by
        intro m
        induction m with
        | zero =>
          intro c hc
          have : c = n := by omega
          subst this
          rw [impl_allWithin_l0_eq, dec_lt_f]
          rfl
        | succ m im2 =>
          intro c hc
          have hc' : c < n := by omega
          have hb := hM.bd r c
          unfold ent at hb
          rw [impl_allWithin_l0_eq, dec_lt_t hc', inside_lt (by rw [hM.row r hr']; exact hc'), cond_true, cond_true, toNat_n, within_p, Option.bind_some, decide_eq_true (by omega), Bool.not_true, cond_false, w64_succ hc' (by omega)]
          exact im2 (c + 1) (by omega)
      have hw : impl_allWithin (M.getD r []) (-500) 500 = some true := by
        rw [impl_allWithin_eq, hM.row r hr']
        exact k2 n 0 (by omega)
      rw [impl_MatrixOk_l0_eq, dec_lt_t hr', inside_lt (by rw [hM.len]; exact hr'), cond_true, cond_true, toNat_n, hM.row r hr', hM.len, hne, cond_false, hw, Option.bind_some, Bool.not_true, cond_false, w64_succ hr' (by omega)]
      exact im (r + 1) (by omega)
  exact key n 0 (by omega)
/-- how many trees -/
def trs (g : Gr) : Int := dts (ent (RLM g)) (List.range (N g - 1)) (List.range (N g - 1))
theorem trs_bd {g : Gr} (hg : GOk g) : -777600000 ≤ trs g ∧ trs g ≤ 777600000 := by
  have hn := gN hg
  have := dts_gb (RLM_ok hg) (rows := List.range (N g - 1)) (cols := List.range (N g - 1)) (by rw [List.length_range]; omega) (by rw [List.length_range]; omega)
  unfold trs
  unfold GB at this
  omega
theorem upto_ints (n : Nat) : upto n = ints (List.range n) := rfl
theorem sTrees_p {g : Gr} (hg : GOk g) : spec_CountTrees g = some (trs g) := by
  have hn := gN hg
  have hl : g.2.length ≤ 1048576 := by have := hg.1.2.1; omega
  obtain ⟨b, p1, p2, p3⟩ := graphOk_p (g := g) (by omega)
  have hb := p3.2 hg
  have hM := RLM_ok hg
  have hd := det_p hM (List.range (N g - 1)) (List.range (N g - 1)) (by rw [List.length_range]; omega) (by rw [List.length_range]; omega) (fun r hr => List.mem_range.1 hr) (fun r hr => List.mem_range.1 hr)
  rw [spec_CountTrees_eq, p1, hb, Option.bind_some, Bool.not_true, cond_false, sRed_p hg, Option.bind_some, spec_Determinant_eq, sMat_p hM, Option.bind_some, Bool.not_true, cond_false, hM.len, all_p (by omega), Option.bind_some, Option.bind_some, upto_ints, hd]
  rfl
theorem lo_full (n : Nat) : lo (2 ^ n - 1) n = List.range n := by
  unfold lo
  refine List.filter_eq_self.2 fun i hi => ?_
  rw [List.mem_range] at hi
  rw [Nat.testBit_two_pow_sub_one]
  exact decide_eq_true hi
theorem iTrees_p {g : Gr} (hg : GOk g) : impl_CountTrees g = some (trs g) := by
  have hn := gN hg
  have hl : g.2.length ≤ 1048576 := by have := hg.1.2.1; omega
  obtain ⟨b, p1, p2, p3⟩ := graphOk_p (g := g) (by omega)
  have hb := p3.2 hg
  have hM := RLM_ok hg
  have hp := Nat.two_pow_pos (N g - 1)
  have h5 : 2 ^ (N g - 1) ≤ 2 ^ 5 := Nat.pow_le_pow_right (by decide) (by omega)
  have h32 : (2 : Nat) ^ 5 = 32 := rfl
  have hc : 2 ^ (N g - 1) - 1 < 2 ^ (N g - 1) := by omega
  have hd := idet_p hM (List.range (N g - 1)) (2 ^ (N g - 1) - 1) (by rw [List.length_range]; omega) (fun r hr => List.mem_range.1 hr) hc
  have hw : w64 ((w64 (1 * 2 ^ (min (N g - 1) 64))) - 1) = ((2 ^ (N g - 1) - 1 : Nat) : Int) := by
    rw [pow_p (by omega)]
    generalize 2 ^ (N g - 1) = z at hp h5
    rw [w64_id (by omega) (by omega)]; omega
  rw [impl_CountTrees_eq, p2, hb, Option.bind_some, Bool.not_true, cond_false, iRed_p hg, Option.bind_some, impl_Determinant_eq, iMat_p hM, Option.bind_some, Bool.not_true, cond_false, hM.len, decide_eq_false (show ¬ ((N g - 1 : Nat) : Int) < 0 by omega), cond_false, toNat_n, hw, bitsOf_p (by omega) hc, Option.bind_some, cond_false, lo_full, hd]
  rw [lo_full]
  rfl
/-- the factors of the group -/
theorem factors_p {g : Gr} (hg : GOk g) : ∃ F : List Int, spec_GroupFactors g = some F ∧ impl_GroupFactors g = some F ∧ F.length ≤ 5 ∧ ∀ x ∈ F, 0 ≤ x ∧ x ≤ 777600000 := by
  have hn := gN hg
  have hl : g.2.length ≤ 1048576 := by have := hg.1.2.1; omega
  obtain ⟨b, p1, p2, p3⟩ := graphOk_p (g := g) (by omega)
  have hb := p3.2 hg
  have hM := RLM_ok hg
  obtain ⟨Gs, g0, g1, g2⟩ := sinv_p hM
  have hs : spec_InvariantFactors (RLM g) = some (facs Gs (N g - 1)) := by
    rw [spec_InvariantFactors_eq, sMat_p hM, Option.bind_some, Bool.not_true, cond_false]
    exact g2
  have hi : impl_InvariantFactors (RLM g) = some (facs Gs (N g - 1)) := by
    rw [impl_InvariantFactors_eq, iMat_p hM, Option.bind_some, Bool.not_true, cond_false, hM.len]
    by_cases c : N g - 1 = 0
    · rw [c]; rfl
    · rw [beq_f (show ¬ ((N g - 1 : Nat) : Int) = 0 by omega), cond_false, show w64 (((N g - 1 : Nat) : Int) + 1) = ((N g - 1 + 1 : Nat) : Int) from w64_succ (show N g - 1 < N g by omega) (by omega), decide_eq_true (by omega), decide_eq_true (by rw [room]; omega), Bool.and_self, cond_true, toNat_n]
      exact iinv_p hM g1
  have hfb := facs_bd (Gs := Gs) (n := N g - 1) fun k hk => (g1 k hk).2
  have hfl := facs_len Gs (N g - 1)
  rw [spec_GroupFactors_eq, impl_GroupFactors_eq, p1, p2, hb]
  simp only [Option.bind_some, Bool.not_true, cond_false]
  rw [sRed_p hg, iRed_p hg, Option.bind_some, Option.bind_some, hs, hi, Option.bind_some, Option.bind_some]
  generalize facs Gs (N g - 1) = L at hfb hfl
  have key : ∀ (m k : Nat) (F : List Int), k + m = L.length → F.length ≤ k → (∀ x ∈ F, 0 ≤ x ∧ x ≤ 777600000) → ∃ F', spec_GroupFactors_l0 F L (L.length : Int) (k : Int) = some F' ∧ impl_GroupFactors_l0 F L (L.length : Int) (k : Int) = some F' ∧ F'.length ≤ L.length ∧ ∀ x ∈ F', 0 ≤ x ∧ x ≤ 777600000 := by
    intro m
    induction m with
    | zero =>
      intro k F hk hF hx
      have : k = L.length := by omega
      subst this
      rw [spec_GroupFactors_l0_eq, impl_GroupFactors_l0_eq, dec_lt_f]
      exact ⟨F, rfl, rfl, hF, hx⟩
    | succ m im =>
      intro k F hk hF hx
      have hk' : k < L.length := by omega
      rw [spec_GroupFactors_l0_eq, impl_GroupFactors_l0_eq, dec_lt_t hk', inside_lt hk', w64_succ hk' (by omega)]
      simp only [cond_true, toNat_n]
      by_cases c : L.getD k 0 > 1
      · rw [decide_eq_true c]
        simp only [cond_true]
        rw [decide_eq_true (by rw [room]; simp only [List.length_singleton]; omega)]
        simp only [cond_true]
        refine im (k + 1) _ (by omega) (by rw [List.length_append]; simp only [List.length_singleton]; omega) fun x hx' => ?_
        rcases List.mem_append.1 hx' with h | h
        · exact hx x h
        · rw [List.mem_singleton.1 h]; exact hfb _ (getD_mem 0 hk')
      · rw [decide_eq_false c]
        exact im (k + 1) F (by omega) (by omega) hx
  obtain ⟨F', f1, f2, f3, f4⟩ := key L.length 0 [] (by omega) (Nat.zero_le _) fun x hx => absurd hx List.not_mem_nil
  exact ⟨F', f1, f2, by omega, f4⟩
theorem genusG {g : Gr} (hg : GOk g) : ∃ r, spec_GenusOf g = some r ∧ impl_GenusOf g = some r ∧ I64 r := by
  have hl : g.2.length ≤ 1048576 := by have := hg.1.2.1; omega
  obtain ⟨b, p1, p2, p3⟩ := graphOk_p (g := g) (by omega)
  have hb := p3.2 hg
  have hn := gN hg
  have h12 := hg.1.2.1
  rw [spec_GenusOf_eq, impl_GenusOf_eq, p1, p2, hb]
  simp only [Option.bind_some, Bool.not_true, cond_false]
  rw [w64_id (n := (g.2.length : Int) - g.1) (by omega) (by omega), w64_id (by omega) (by omega)]
  exact ⟨_, rfl, rfl, by unfold I64; omega⟩
theorem ba_assoc (a b c : ByteArray) : a ++ b ++ c = a ++ (b ++ c) := ByteArray.append_assoc
theorem graphLine_p {g : Gr} (hl : g.2.length ≤ 1048576) : ∃ x, spec_GraphLine g = some x ∧ impl_GraphLine g = some x ∧ (GOk g → 0 < x.size) := by
  obtain ⟨b, p1, p2, p3⟩ := graphOk_p (g := g) (by omega)
  rw [spec_GraphLine_eq, impl_GraphLine_eq, p1, p2]
  cases b with
  | false => exact ⟨_, rfl, rfl, fun h => by have := p3.2 h; cases this⟩
  | true =>
    have hg := p3.1 rfl
    obtain ⟨F, f1, f2, f3, f4⟩ := factors_p hg
    obtain ⟨r, r1, r2, r3⟩ := genusG hg
    have hF : ∀ x ∈ F, I64 x := fun x hx => by have := f4 x hx; unfold I64; omega
    have htb := trs_bd hg
    have ht : I64 (trs g) := by unfold I64; omega
    have s1 := fi_size r3
    have s2 := fi_size ht
    have s3 := fd_size (d := F) (by omega) hF
    have z1 : (⟨#[103, 101, 110, 117, 115, 32]⟩ : ByteArray).size = 6 := rfl
    have z2 : (⟨#[32, 116, 114, 101, 101, 115, 32]⟩ : ByteArray).size = 7 := rfl
    have z3 : (⟨#[32, 103, 114, 111, 117, 112]⟩ : ByteArray).size = 6 := rfl
    have z4 : (⟨#[32, 103, 114, 111, 117, 112, 32]⟩ : ByteArray).size = 7 := rfl
    have z5 : (⟨#[32, 116, 114, 105, 118, 105, 97, 108]⟩ : ByteArray).size = 8 := rfl
    have z6 : (⟨#[116, 114, 105, 118, 105, 97, 108]⟩ : ByteArray).size = 7 := rfl
    have z7 : (⟨#[32]⟩ : ByteArray).size = 1 := rfl
    have e1 : (⟨#[32, 103, 114, 111, 117, 112]⟩ : ByteArray) ++ (⟨#[32]⟩ : ByteArray) = ⟨#[32, 103, 114, 111, 117, 112, 32]⟩ := by rfl
    have e2 : (⟨#[32, 103, 114, 111, 117, 112]⟩ : ByteArray) ++ (⟨#[32, 116, 114, 105, 118, 105, 97, 108]⟩ : ByteArray) = ⟨#[32, 103, 114, 111, 117, 112, 32]⟩ ++ ⟨#[116, 114, 105, 118, 105, 97, 108]⟩ := by rfl
    simp only [Option.bind_some, Bool.not_true, cond_false, r1, r2, sTrees_p hg, iTrees_p hg, f1, f2, spec_FormatInt_p r3, impl_FormatInt_p r3, spec_FormatInt_p ht, impl_FormatInt_p ht]
    by_cases c : F.length = 0
    · have c1 : decide ((F.length : Int) > 0) = false := decide_eq_false (by omega)
      have c2 : ((F.length : Int) == 0) = true := beq_t (by omega)
      rw [c1, c2]
      simp only [cond_true, cond_false]
      rw [decide_eq_true (by omega), decide_eq_true (by rw [size_app]; omega), decide_eq_true (by rw [size_app, size_app]; omega), decide_eq_true (by rw [size_app, size_app, size_app]; omega), decide_eq_true (by rw [size_app, size_app, size_app, size_app]; omega), decide_eq_true (by rw [size_app, size_app, size_app]; omega), decide_eq_true (by rw [size_app, size_app, size_app, size_app]; omega)]
      simp only [cond_true]
      refine ⟨_, rfl, ?_, fun _ => by rw [size_app, size_app, size_app, size_app, size_app]; omega⟩
      congr 1
      rw [ba_assoc _ ⟨#[32, 103, 114, 111, 117, 112]⟩, e2, ← ba_assoc]
    · have c1 : decide ((F.length : Int) > 0) = true := decide_eq_true (by omega)
      have c2 : ((F.length : Int) == 0) = false := beq_f (by omega)
      rw [c1, c2]
      simp only [cond_true, cond_false, spec_FormatDivisor_p (d := F) (by omega) hF, impl_FormatDivisor_p (d := F) (by omega) hF, Option.bind_some]
      rw [decide_eq_true (by omega), decide_eq_true (by rw [size_app]; omega), decide_eq_true (by rw [size_app, size_app]; omega), decide_eq_true (by rw [size_app, size_app, size_app]; omega), decide_eq_true (by rw [size_app, size_app, size_app, size_app]; omega), decide_eq_true (by rw [size_app, size_app, size_app, size_app, size_app]; omega), decide_eq_true (by rw [size_app, size_app, size_app]; omega), decide_eq_true (by rw [size_app, size_app, size_app, size_app]; omega)]
      simp only [cond_true]
      refine ⟨_, rfl, ?_, fun _ => by rw [size_app, size_app, size_app, size_app, size_app, size_app]; omega⟩
      congr 1
      rw [ba_assoc _ ⟨#[32, 103, 114, 111, 117, 112]⟩ ⟨#[32]⟩, e1]
theorem law_GraphLine {g : Gr} (hg : g.2.length ≤ 9223372036854775807) : laws_FnExactGraphLine g = some true := by
  rw [laws_FnExactGraphLine_eq]
  obtain ⟨r, k1, k2⟩ := szGraph_p hg (m := 1048576) (by omega) (by omega)
  rw [k1, Option.bind_some]
  by_cases c : r < 0
  · rw [decide_eq_true c]; rfl
  have := k2 (by omega)
  have hl : g.2.length ≤ 1048576 := by omega
  have t1 : laws_toGraph g = some g := toGraph_p (by omega)
  have e1 : laws_eqGraph g g = some true := true_of (eqGraph_p hg) rfl
  obtain ⟨x, x1, x2, _⟩ := graphLine_p hl
  rw [decide_eq_false c]
  simp only [cond_false, t1, Option.bind_some, x1, x2, e1, beq_self_eq_true, Bool.not_true]
end Go.Proofs.YtgncajnfphlgeaaDoor.D

/-
  The group and the trees of a graph, and the line that tells of them: both programs alike.
-/
import Derived.Test.YtgncajnfphlgeaaGreatDoorPureDv
import Derived.Test.YtgncajnfphlgeaaGreatDoorPureS
namespace Go.Proofs.YtgncajnfphlgeaaGreatDoor.D
open Go Go.Den
set_option linter.unusedVariables false
set_option linter.unusedSimpArgs false
/-- an entry of the Laplacian -/
def le (E : Es) (a b : Nat) : Int := if b = a then val E a else - mul E a b
def lrow (g : Gr) (a : Nat) : List Int := (List.range (N g)).map (le (Eg g) a)
def LAP (g : Gr) : List (List Int) := (List.range (N g)).map (lrow g)
def RLM (g : Gr) : List (List Int) := (List.range (N g - 1)).map fun a => (List.range (N g - 1)).map fun b => le (Eg g) (a + 1) (b + 1)
theorem le_bd {g : Gr} (hg : GOk g) (a b : Nat) : -12 ≤ le (Eg g) a b ∧ le (Eg g) a b ≤ 12 := by
  obtain ⟨gE1, gE2, gE3⟩ := gE hg
  have h1 := val_bd a (Eg g)
  have h2 := mul_bd a b (Eg g)
  unfold le
  split <;> omega
theorem lrow_len (g : Gr) (a : Nat) : (lrow g a).length = N g := by unfold lrow; rw [List.length_map, List.length_range]
theorem iLap_p {g : Gr} (hg : GOk g) : impl_LaplacianOf_l0 g [] 0 = some (LAP g) := by
  have hn := gN hg
  obtain ⟨gE1, gE2, gE3⟩ := gE hg
  have row : ∀ (out : List (List Int)) (a : Nat), a < N g → out.length ≤ 6 → impl_LaplacianOf_l2 g out (a : Int) (List.replicate (N g) 0) (N g : Int) 0 = impl_LaplacianOf_l0 g (out ++ [lrow g a]) ((a + 1 : Nat) : Int) := by
    intro out a ha ho
    have key : ∀ (m b : Nat) (r : List Int), b + m = N g → r.length = N g → (∀ w, w < b → r.getD w 0 = - mul (Eg g) a w) → impl_LaplacianOf_l2 g out (a : Int) r (N g : Int) (b : Int) = impl_LaplacianOf_l0 g (out ++ [lrow g a]) ((a + 1 : Nat) : Int) := by
      intro m
      induction m with
      | zero =>
        intro b r hb hr hw
        have : b = N g := by omega
        subst this
        have e : r.set a (val (Eg g) a) = lrow g a := by
          refine ext_getD (d := 0) (by rw [List.length_set, hr, lrow_len]) fun j hj => ?_
          rw [List.length_set, hr] at hj
          rw [getD_set (by omega)]
          unfold lrow
          rw [getD_range_map _ hj]
          unfold le
          split
          · rfl
          · exact hw j hj
        rw [impl_LaplacianOf_l2_eq, dec_lt_f, cond_false, impl_val_p hg ha, Option.bind_some, inside_lt (by rw [hr]; exact ha), cond_true, decide_eq_true (by rw [room]; simp only [List.length_singleton]; omega), cond_true, w64_succ ha (by omega), toNat_n, e]
      | succ m im =>
        intro b r hb hr hw
        have hb' : b < N g := by omega
        have hm := mul_bd a b (Eg g)
        rw [impl_LaplacianOf_l2_eq, dec_lt_t hb', cond_true, impl_mul_p hg ha hb', Option.bind_some, inside_lt (by rw [hr]; exact hb'), cond_true, w64_succ hb' (by omega), toNat_n, w64_id (n := 0 - mul (Eg g) a b) (by omega) (by omega)]
        refine im (b + 1) _ (by omega) (by rw [List.length_set]; exact hr) fun w hw' => ?_
        rw [getD_set (by omega)]
        split
        · rename_i e; rw [e]; omega
        · exact hw w (by omega)
    exact key (N g) 0 _ (by omega) List.length_replicate fun w hw => absurd hw (Nat.not_lt_zero _)
  have key : ∀ (m a : Nat), a + m = N g → impl_LaplacianOf_l0 g ((List.range a).map (lrow g)) (a : Int) = some (LAP g) := by
    intro m
    induction m with
    | zero =>
      intro a ha
      have : a = N g := by omega
      subst this
      rw [impl_LaplacianOf_l0_eq, ← hn.1, dec_lt_f]
      rfl
    | succ m im =>
      intro a ha
      have ha' : a < N g := by omega
      rw [impl_LaplacianOf_l0_eq, ← hn.1, dec_lt_t ha', cond_true, decide_eq_true (by omega), decide_eq_true (by rw [room]; omega), Bool.and_self, cond_true, toNat_n, List.length_replicate, row _ a ha' (by rw [List.length_map, List.length_range]; omega)]
      rw [show (List.range a).map (lrow g) ++ [lrow g a] = (List.range (a + 1)).map (lrow g) by rw [List.range_succ, List.map_append]; rfl]
      exact im (a + 1) (by omega)
  exact key (N g) 0 (by omega)
theorem LAP_len (g : Gr) : (LAP g).length = N g := by unfold LAP; rw [List.length_map, List.length_range]
theorem LAP_get {g : Gr} {a : Nat} (h : a < N g) : (LAP g).getD a [] = lrow g a := getD_range_map _ h
theorem drop_row {g : Gr} (hn : 1 ≤ N g) (a : Nat) : (lrow g a).drop 1 = (List.range (N g - 1)).map fun b => le (Eg g) a (b + 1) := by
  unfold lrow
  obtain ⟨m, hm⟩ : ∃ m, N g = m + 1 := ⟨N g - 1, by omega⟩
  rw [hm, List.range_succ_eq_map, List.map_cons, List.drop_succ_cons, List.drop_zero, List.map_map]
  rfl
theorem iRed_p {g : Gr} (hg : GOk g) : impl_ReducedLaplacian g 0 = some (RLM g) := by
  have hn := gN hg
  have hl : g.2.length ≤ 1048576 := by have := hg.1.2.1; omega
  obtain ⟨b, p1, p2, p3⟩ := graphOk_p (g := g) (by omega)
  have hb := p3.2 hg
  have hlap : impl_LaplacianOf g = some (LAP g) := by
    rw [impl_LaplacianOf_eq, p2, hb, Option.bind_some]
    exact iLap_p hg
  have hv : impl_isVertex g 0 = some true := by
    rw [impl_isVertex_eq, p2, hb, Option.bind_some, cond_true, within_p, w64_id (by omega) (by omega), Option.bind_some, decide_eq_true (show (0 : Int) ≤ 0 ∧ (0 : Int) ≤ g.1 - 1 by omega)]
  rw [impl_ReducedLaplacian_eq]
  unfold Lb.redLap
  rw [hv, Option.bind_some, cond_true, hlap, Option.bind_some]
  unfold Lb.redOf
  rw [if_pos ⟨by rw [LAP_len]; omega, by rw [LAP_len]; omega, by omega, by omega, fun r hr => by
    obtain ⟨a, ha, rfl⟩ := List.mem_map.1 hr
    rw [lrow_len]; omega⟩]
  congr 1
  unfold Lb.redUp RLM
  rw [LAP_len]
  obtain ⟨m, hm⟩ : ∃ m, N g = m + 1 := ⟨N g - 1, by omega⟩
  have h1 : (List.range (N g)).filter (fun j => j != (0 : Int).toNat) = (List.range (N g - 1)).map (· + 1) := by
    rw [hm, List.range_succ_eq_map, List.filter_cons]
    simp only [Int.toNat_zero, bne_self_eq_false, Bool.false_eq_true, if_false]
    rw [List.filter_eq_self.2]
    · rfl
    · intro a ha
      obtain ⟨x, _, rfl⟩ := List.mem_map.1 ha
      simp
  rw [h1, List.map_map]
  refine List.map_congr_left fun a ha => ?_
  rw [List.mem_range] at ha
  show Lb.delAt 0 ((LAP g).getD (a + 1) []) = _
  rw [LAP_get (by omega)]
  unfold Lb.delAt
  rw [List.take_zero, List.nil_append, Nat.zero_add, drop_row (by omega)]
theorem RLM_ok {g : Gr} (hg : GOk g) : MxOk (RLM g) (N g - 1) := by
  have hn := gN hg
  have hget : ∀ r, r < N g - 1 → (RLM g).getD r [] = (List.range (N g - 1)).map fun b => le (Eg g) (r + 1) (b + 1) := fun r hr => getD_range_map _ hr
  have hlen : (RLM g).length = N g - 1 := by unfold RLM; rw [List.length_map, List.length_range]
  refine ⟨hlen, fun r hr => by rw [hget r hr, List.length_map, List.length_range], fun r c => ?_, by omega⟩
  unfold ent
  by_cases hr : r < N g - 1
  · rw [hget r hr]
    by_cases hc : c < N g - 1
    · rw [getD_range_map _ hc]
      exact le_bd hg _ _
    · rw [List.getD_eq_getElem?_getD, List.getElem?_eq_none (by rw [List.length_map, List.length_range]; omega)]
      exact ⟨by decide, by decide⟩
  · rw [List.getD_eq_getElem?_getD (l := RLM g), List.getElem?_eq_none (by omega)]
    show -12 ≤ ([] : List Int).getD c 0 ∧ ([] : List Int).getD c 0 ≤ 12
    simp
theorem iMat_p {M : List (List Int)} {n : Nat} (hM : MxOk M n) : impl_MatrixOk M = some true := by
  have hn5 := hM.n5
  rw [impl_MatrixOk_eq, hM.len, decide_eq_false (by omega), cond_false]
  have key : ∀ (m r : Nat), r + m = n → impl_MatrixOk_l0 M M (n : Int) (r : Int) = some true := by
    intro m
    induction m with
    | zero =>
      intro r hr
      have : r = n := by omega
      subst this
      rw [impl_MatrixOk_l0_eq, dec_lt_f]
      rfl
    | succ m im =>
      intro r hr
      have hr' : r < n := by omega
      have hne : (((n : Nat) : Int) != (n : Int)) = false := by simp
      have k2 : ∀ (m c : Nat), c + m = n → impl_allWithin_l0 (-500) 500 (M.getD r []) (n : Int) (c : Int) = some true := by
        intro m
        induction m with
        | zero =>
          intro c hc
          have : c = n := by omega
          subst this
          rw [impl_allWithin_l0_eq, dec_lt_f]
          rfl
        | succ m im2 =>
          intro c hc
          have hc' : c < n := by omega
          have hb := hM.bd r c
          unfold ent at hb
          rw [impl_allWithin_l0_eq, dec_lt_t hc', inside_lt (by rw [hM.row r hr']; exact hc'), cond_true, cond_true, toNat_n, within_p, Option.bind_some, decide_eq_true (by omega), Bool.not_true, cond_false, w64_succ hc' (by omega)]
          exact im2 (c + 1) (by omega)
      have hw : impl_allWithin (M.getD r []) (-500) 500 = some true := by
        rw [impl_allWithin_eq, hM.row r hr']
        exact k2 n 0 (by omega)
      rw [impl_MatrixOk_l0_eq, dec_lt_t hr', inside_lt (by rw [hM.len]; exact hr'), cond_true, cond_true, toNat_n, hM.row r hr', hM.len, hne, cond_false, hw, Option.bind_some, Bool.not_true, cond_false, w64_succ hr' (by omega)]
      exact im (r + 1) (by omega)
  exact key n 0 (by omega)
/-- how many trees -/
def trs (g : Gr) : Int := dts (ent (RLM g)) (List.range (N g - 1)) (List.range (N g - 1))
theorem trs_bd {g : Gr} (hg : GOk g) : -777600000 ≤ trs g ∧ trs g ≤ 777600000 := by
  have hn := gN hg
  have := dts_gb (RLM_ok hg) (rows := List.range (N g - 1)) (cols := List.range (N g - 1)) (by rw [List.length_range]; omega) (by rw [List.length_range]; omega)
  unfold trs
  unfold GB at this
  omega
theorem upto_ints (n : Nat) : upto n = ints (List.range n) := rfl
theorem lo_full (n : Nat) : lo (2 ^ n - 1) n = List.range n := by
  unfold lo
  refine List.filter_eq_self.2 fun i hi => ?_
  rw [List.mem_range] at hi
  rw [Nat.testBit_two_pow_sub_one]
  exact decide_eq_true hi
theorem iTrees_p {g : Gr} (hg : GOk g) : impl_CountTrees g = some (trs g) := by
  have hn := gN hg
  have hl : g.2.length ≤ 1048576 := by have := hg.1.2.1; omega
  obtain ⟨b, p1, p2, p3⟩ := graphOk_p (g := g) (by omega)
  have hb := p3.2 hg
  have hM := RLM_ok hg
  have hp := Nat.two_pow_pos (N g - 1)
  have h5 : 2 ^ (N g - 1) ≤ 2 ^ 5 := Nat.pow_le_pow_right (by decide) (by omega)
  have h32 : (2 : Nat) ^ 5 = 32 := rfl
  have hc : 2 ^ (N g - 1) - 1 < 2 ^ (N g - 1) := by omega
  have hd := idet_p hM (List.range (N g - 1)) (2 ^ (N g - 1) - 1) (by rw [List.length_range]; omega) (fun r hr => List.mem_range.1 hr) hc
  have hw : w64 ((w64 (1 * 2 ^ (min (N g - 1) 64))) - 1) = ((2 ^ (N g - 1) - 1 : Nat) : Int) := by
    rw [pow_p (by omega)]
    generalize 2 ^ (N g - 1) = z at hp h5
    rw [w64_id (by omega) (by omega)]; omega
  rw [impl_CountTrees_eq, p2, hb, Option.bind_some, Bool.not_true, cond_false, iRed_p hg, Option.bind_some, impl_Determinant_eq, iMat_p hM, Option.bind_some, Bool.not_true, cond_false, hM.len, decide_eq_false (show ¬ ((N g - 1 : Nat) : Int) < 0 by omega), cond_false, toNat_n, hw, bitsOf_p (by omega) hc, Option.bind_some, cond_false, lo_full, hd]
  rw [lo_full]
  rfl
theorem ba_assoc (a b c : ByteArray) : a ++ b ++ c = a ++ (b ++ c) := ByteArray.append_assoc
end Go.Proofs.YtgncajnfphlgeaaGreatDoor.D

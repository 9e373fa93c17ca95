/-
  Walkers reach the sink, and the rotors point along a spanning tree before and after.
-/
import Derived.Test.YthmddgkpebneoaaPureBe
namespace Go.Proofs.Ythmddgkpebneoaa.D
open Go Go.Den
set_option linter.unusedVariables false
set_option linter.unusedSimpArgs false
theorem sameR_p {l : List Int} (h : l.length ≤ 1000) : laws_same l l = some true := by
  have key : ∀ m k, k + m = l.length → laws_same_l0 l l (l.length : Int) (k : Int) = some true := by
    intro m
    induction m with
    | zero =>
      intro k hk
      have : k = l.length := by omega
      subst this
      rw [laws_same_l0_eq, dec_lt_f]; rfl
    | succ m ih =>
      intro k hk
      have hk' : k < l.length := by omega
      rw [laws_same_l0_eq, dec_lt_t hk', inside_lt hk', w64_succ hk' (by omega)]
      simp only [cond_true, bne_self_eq_false, cond_false]
      exact ih (k + 1) (by omega)
  rw [laws_same_eq]
  simp only [bne_self_eq_false, cond_false]
  exact key l.length 0 (by omega)
theorem stepW_p {g : Gr} {r : List Int} {q v i : Int} (h : RO g r q) (hq : r.getD q.toNat 0 = -1) (hv : 0 ≤ v ∧ v < g.1) (hne : ¬ v = q) (hx : NX g v (r.getD v.toNat 0) i) (hi : impl_NextRotor g v (r.getD v.toNat 0) = some i) : impl_StepWalker g r q v = some (r.set v.toNat i, oth (ed g i.toNat) v, true) := by
  have hl := h.2.2.2.1
  have hn6 := h.1.1.1
  have n3 := hx.at'
  have hed := ed_ok h.1 (e := i.toNat) (by have := n3.1; have := n3.2.1; omega)
  have hi3 : (ed g i.toNat).1 = v ∨ (ed g i.toNat).2 = v := n3.2.2
  have hxx : (r.set v.toNat i).getD v.toNat 0 = i := by rw [getD_lt (by rw [List.length_set]; omega), List.getElem_set_self]
  have hr : decide (([] : List Int).length + r.length ≤ room) = true := decide_eq_true (by unfold room; rw [List.length_nil]; omega)
  rw [impl_StepWalker_eq, rotors_t h hq]
  simp only [Option.bind_some, Bool.not_true, cond_false]
  rw [beq_f hne, cond_false, within_p, w64_id (n := g.1 - 1) (by omega) (by omega), decide_eq_true (show 0 ≤ v ∧ v ≤ g.1 - 1 by omega), impl_copyInts_eq, hr]
  simp only [Option.bind_some, Bool.not_true, cond_false, cond_true, List.nil_append]
  rw [inside_int hv.1 (by omega), cond_true, hi, Option.bind_some, inside_int hv.1 (by rw [List.length_set]; omega)]
  simp only [cond_true]
  rw [hxx, impl_across_eq, inside_int n3.1 n3.2.1]
  have e0 : (ed g i.toNat) = g.2.getD i.toNat (0, 0) := rfl
  rw [e0] at hed hi3
  simp only [cond_true]
  rw [w64_id (n := (g.2.getD i.toNat (0, 0)).1 + (g.2.getD i.toNat (0, 0)).2) (by omega) (by omega), w64_id (n := (g.2.getD i.toNat (0, 0)).1 + (g.2.getD i.toNat (0, 0)).2 - v) (by omega) (by omega)]
  rfl
theorem law_Rotors {l : List Int} : laws_FnRotors l = some true := by
  rw [laws_FnRotors_eq]
  by_cases c0 : (l.length : Int) > 1048576
  · rw [decide_eq_true c0]; rfl
  obtain ⟨g, t, g1, hG, g2, hlen, hT⟩ := makeTree_p (l := l) (by omega)
  obtain ⟨a, a1, a2, a3⟩ := num_p (l := l) (by omega) (n := 60) (by omega)
  obtain ⟨b, b1, b2, b3⟩ := num_p (l := l) (by omega) (n := 62) (by omega)
  have a1' : spec_MakeNum l 60 = some a := a1
  have b1' : spec_MakeNum l 62 = some b := b1
  have hn := hG.1.1
  have h12 := hG.1.2.1
  rw [decide_eq_false c0, cond_false, g1, Option.bind_some, a1', Option.bind_some]
  simp only
  rw [decide_eq_false (show ¬ g.1 = 0 by omega), cond_false, b1', Option.bind_some, cond_false]
  have q0 : 0 ≤ Int.tmod a g.1 := Int.tmod_nonneg _ a2
  have q1 : Int.tmod a g.1 < g.1 := Int.tmod_lt_of_pos _ (by omega)
  have v0 : 0 ≤ Int.tmod b g.1 := Int.tmod_nonneg _ b2
  have v1 : Int.tmod b g.1 < g.1 := Int.tmod_lt_of_pos _ (by omega)
  generalize Int.tmod a g.1 = q at q0 q1
  generalize Int.tmod b g.1 = v at v0 v1
  obtain ⟨r, _, r2, r3, r4⟩ := state_p (g := g) (t := t) (q := q) (fun l v h => has_c h) (by omega) (by omega)
  have hr := r4 hG hlen hT q0 q1
  obtain ⟨⟨hR, hq⟩, hld, hm⟩ := r3 hr
  have hTS : TS g r.1 q := ⟨⟨hR, hq⟩, fun u h0 h1 => (hld u h0 h1).to.ex⟩
  have hl := hR.2.2.2.1
  obtain ⟨n, x, n1, R⟩ := run_ex hR hq ⟨v0, v1⟩ hld
  have hw := R.walk (by omega) hR hq ⟨v0, v1⟩
  have hTx := R.ts ⟨hR, hq⟩ ⟨v0, v1⟩ fun u h0 h1 => (hld u h0 h1).to
  have hxl := hTx.1.1.2.2.2.1
  rw [r2, Option.bind_some, hr]
  simp only [Bool.not_true, cond_false]
  rw [rotors_t hR hq, Option.bind_some]
  simp only [Bool.not_true, cond_false]
  rw [treeSt_t hTS, Option.bind_some]
  simp only [Bool.not_true, cond_false]
  rw [laws_FnRotors_c9_eq, treeOf_t hTS hT hlen hm, Option.bind_some, hw, Option.bind_some]
  simp only [Bool.not_true, cond_false]
  rw [sameR_p (by omega), Option.bind_some]
  simp only [Bool.not_true, cond_false]
  have hnz : ((n : Int) == 0) = (v == q) := by
    have := R.len.1
    by_cases c : v = q
    · rw [beq_t c, beq_t (by have := this.2 c; omega)]
    · rw [beq_f c, beq_f (fun k => c (this.1 (by omega)))]
  rw [hnz]
  simp only [beq_self_eq_true, Bool.not_true, cond_false]
  rw [treeSt_t hTx, Option.bind_some]
  simp only [Bool.not_true, cond_false]
  rw [laws_FnRotors_c13_eq]
  by_cases c : v = q
  · rw [beq_t c, cond_true, R.len.2 c, sameR_p (by omega)]; rfl
  · rw [beq_f c, cond_false]
    cases R with
    | done => exact absurd rfl c
    | @step _ _ _ i n hne hx hi R =>
      have n3 := hx.at'
      have hed := ed_ok hG (e := i.toNat) (by have := n3.1; have := n3.2.1; omega)
      have hi3 : (ed g i.toNat).1 = v ∨ (ed g i.toNat).2 = v := n3.2.2
      have hs := hR.step hq ⟨v0, v1⟩ c n3
      have hsl := hs.1.2.2.2.1
      have hw2 : 0 ≤ oth (ed g i.toNat) v ∧ oth (ed g i.toNat) v < g.1 := by unfold oth; omega
      have hxx : (r.1.set v.toNat i).getD v.toNat 0 = i := by rw [getD_lt (by rw [List.length_set]; omega), List.getElem_set_self]
      rw [stepW_p hR hq ⟨v0, v1⟩ c hx hi, Option.bind_some]
      simp only
      rw [R.walk (by omega) hs.1 hs.2 hw2, Option.bind_some]
      simp only [cond_true]
      rw [w64_id (n := ((n + 1 : Nat) : Int) - 1) (by omega) (by omega), beq_t (show (n : Int) = ((n + 1 : Nat) : Int) - 1 by omega), cond_true, sameR_p (by omega), Option.bind_some]
      simp only [cond_true]
      rw [beq_t hsl, beq_t hl, cond_true, cond_true, inside_int v0 (by omega), inside_int v0 (by omega), cond_true, cond_true, hi, Option.bind_some, hxx, beq_self_eq_true]
end Go.Proofs.Ythmddgkpebneoaa.D

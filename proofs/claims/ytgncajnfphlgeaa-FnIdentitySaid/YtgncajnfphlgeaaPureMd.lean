/-
  What the law file draws for morphisms: a harmonic one, with few edges and small fibres; divisors; scripts.
-/
import Derived.Test.YtgncajnfphlgeaaPureMh
namespace Go.Proofs.Ytgncajnfphlgeaa.D
open Go Go.Den
set_option linter.unusedVariables false
set_option linter.unusedSimpArgs false
theorem pickA_p {c : Cur} (hc : CurOk c) {l : List Int} (h1 : 1 ≤ l.length) (h2 : l.length ≤ 256) : ∃ x c', spec_l01Pick c l = some (x, c') ∧ x ∈ l ∧ CurOk c' := by
  obtain ⟨i, c', a1, a2, a3⟩ := below_p hc (n := (l.length : Int)) (by omega) (by omega)
  rw [spec_l01Pick_eq, a1, Option.bind_some, inside_int a2.1 a2.2, cond_true]
  exact ⟨_, _, rfl, getD_mem (0 : Int) (by omega), a3⟩
/-- few edges, and fibres of at most two vertices (or few vertices) -/
def Inv (g : Gr) (m : Mo) : Prop := (1 ≤ g.2.length ∧ g.2.length ≤ 8) ∧ (m.1.length ≤ 5 ∧ m.2.length ≤ 8) ∧ ((∀ v : Nat, 1 ≤ v → v < m.1.length → m.1.getD v 0 = (v : Int)) ∨ (m.1.length ≤ 4 ∧ g.2.length ≤ 4))
theorem ident_h {g : Gr} (hG : GOk g) : HOk g g ((List.range (N g)).map fun (i : Nat) => (i : Int), (List.range g.2.length).map fun (i : Nat) => (i : Int)) := by
  have hn := gN hG
  generalize hm : ((List.range (N g)).map fun (i : Nat) => (i : Int), (List.range g.2.length).map fun (i : Nat) => (i : Int)) = m
  have l1 : m.1.length = N g := by rw [← hm]; show (List.map _ _).length = _; rw [List.length_map, List.length_range]
  have l2 : m.2.length = g.2.length := by rw [← hm]; show (List.map _ _).length = _; rw [List.length_map, List.length_range]
  have v1 : ∀ v, v < N g → m.1.getD v 0 = (v : Int) := fun v hv => by rw [← hm]; exact getD_range_map _ hv
  have v2 : ∀ v, v < g.2.length → m.2.getD v 0 = (v : Int) := fun v hv => by rw [← hm]; exact getD_range_map _ hv
  refine ⟨⟨hG, hG, by omega, l2, fun j hj => by rw [v1 j (by omega)]; omega, fun j hj => ?_⟩, fun v hv => allE_iff.2 fun x hx y hy => ?_⟩
  · obtain ⟨a, b, e1, _, e3, e4⟩ := gEk hG hj
    refine .inr ⟨by rw [v2 j hj]; omega, ?_⟩
    rw [v2 j hj, Int.toNat_natCast, e1]
    simp only [Int.toNat_natCast]
    rw [v1 a (by omega), v1 b e4]
    unfold imin imax
    constructor <;> split <;> omega
  · have one : ∀ x, x ∈ mult g g m v g.2.length → x = 1 := fun x hx => by
      obtain ⟨k, k1, k2, k3⟩ := mem_mult.1 hx
      rw [v1 v (by omega)] at k2
      rw [k3]
      unfold ov
      rw [sm_congr (g := fun i => if i = k then 1 else 0) fun i hi => by
        unfold cEq
        rw [v2 i hi]
        by_cases c : i = k
        · subst c; rw [k2, if_pos (by simp), if_pos rfl]
        · rw [if_neg (by
            rw [beq_f (show ¬ (i : Int) = (k : Int) by omega), Bool.and_false]; decide), if_neg c], sm_one, if_pos k1]
    rw [one x hx, one y hy]
theorem pick_p {c : Cur} (hc : CurOk c) {r : Int} (hr : 0 ≤ r ∧ r < 7) : ∃ x c', spec_l01Pick c ([0, 1, 2, (-1), 3, (-2), r] : List Int) = some (x, c') ∧ (-2 ≤ x ∧ x ≤ 6) ∧ CurOk c' := by
  obtain ⟨x, c', h1, h2, h3⟩ := pickA_p hc (l := ([0, 1, 2, (-1), 3, (-2), r] : List Int)) (by simp) (by simp)
  refine ⟨x, c', h1, ?_, h3⟩
  simp only [List.mem_cons, List.not_mem_nil, or_false] at h2
  omega
theorem makeDivisor_p {l : List Int} (h : l.length ≤ 1048576) {g : Gr} (hg : GOk g) {n : Nat} (hn : n ≤ 1000) : ∃ d D, spec_MakeDivisor l (n : Int) g = some d ∧ vec (N g) d D ∧ ∀ v, v < N g → -2 ≤ D v ∧ D v ≤ 6 := by
  obtain ⟨c, c1, c2⟩ := skip_p h hn
  have hN := gN hg
  rw [spec_MakeDivisor_eq, c1, Option.bind_some, spec_l04Draw_eq]
  have draw : ∀ (m k : Nat) (c : Cur) (d : List Int), k + m = N g → CurOk c → d.length = k → (∀ x ∈ d, -2 ≤ x ∧ x ≤ 6) → ∃ d' c', spec_l04Draw_l0 c g d (k : Int) = some (d', c') ∧ d'.length = N g ∧ (∀ x ∈ d', -2 ≤ x ∧ x ≤ 6) ∧ CurOk c' := by
    intro m
    induction m with
    | zero =>
      intro k c d hk hc hl hd
      rw [spec_l04Draw_l0_eq, decide_eq_false (by omega)]
      exact ⟨d, c, rfl, by omega, hd, hc⟩
    | succ m ih =>
      intro k c d hk hc hl hd
      obtain ⟨r, c1, a1, a2, a3⟩ := below_p hc (n := 7) (by omega) (by omega)
      obtain ⟨x, c2, b1, b2, b3⟩ := pick_p a3 a2
      rw [spec_l04Draw_l0_eq, decide_eq_true (by omega), cond_true, a1, Option.bind_some]
      simp only
      rw [b1, Option.bind_some, decide_eq_true (by rw [room]; simp only [List.length_singleton]; omega), cond_true, w64_id (by omega) (by omega)]
      refine ih (k + 1) c2 _ (by omega) b3 (by rw [List.length_append, hl]; rfl) fun y hy => ?_
      rcases List.mem_append.1 hy with hy | hy
      · exact hd y hy
      · rw [List.mem_singleton.1 hy]; exact b2
  obtain ⟨d, c3, d1, d2, d3, d4⟩ := draw (N g) 0 c [] (by omega) c2 rfl (fun x hx => (List.not_mem_nil hx).elim)
  have d1' : spec_l04Draw_l0 c g [] 0 = some (d, c3) := d1
  rw [d1', Option.bind_some]
  exact ⟨d, fun v => d.getD v 0, rfl, ⟨d2, fun _ _ => rfl⟩, fun v hv => d3 _ (getD_mem 0 (by omega))⟩
end Go.Proofs.Ytgncajnfphlgeaa.D

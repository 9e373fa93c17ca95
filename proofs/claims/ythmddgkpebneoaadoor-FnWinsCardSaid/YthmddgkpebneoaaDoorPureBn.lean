/-
  Both programs burn in the same order.
-/
import Derived.Test.YthmddgkpebneoaaDoorPureMs
namespace Go.Proofs.YthmddgkpebneoaaDoor.D
open Go Go.Den
set_option linter.unusedVariables false
set_option linter.unusedSimpArgs false
/-- the least vertex that burns next -/
def Nx (g : Gr) (D : Nat → Int) (L : List Nat) (v : Nat) : Prop := v < N g ∧ v ∉ L ∧ D v < outd (Eg g) (cmp L) v ∧ ∀ u, u < v → u ∉ L → outd (Eg g) (cmp L) u ≤ D u
theorem Nx.uniq {g : Gr} {D : Nat → Int} {L : List Nat} {v w : Nat} (h : Nx g D L v) (h' : Nx g D L w) : v = w := by
  rcases Nat.lt_trichotomy v w with c | c | c
  · have := h'.2.2.2 v c h.2.1
    have := h.2.2.1
    omega
  · exact c
  · have := h.2.2.2 w c h'.2.1
    have := h'.2.2.1
    omega
theorem impl_l2_n {g : Gr} (hg : GOk g) {d : List Int} {D : Nat → Int} (hd : vec (N g) d D) {q : Nat} {L : List Nat} (hL : BI (N g) (Eg g) q D L) : ∀ (m k : Nat), k + m = N g → (∀ v, v < k → v ∉ L → outd (Eg g) (cmp L) v ≤ D v) →
    (∃ v, Nx g D L v ∧ impl_burn_l2 d g (ints L) (-1) (k : Int) = impl_burn_l0 d g (ints (L ++ [v]))) ∨ (Fin' (N g) (Eg g) D L ∧ impl_burn_l2 d g (ints L) (-1) (k : Int) = some (ints L))
  | 0, k, hk, hp => by
    have hn := gN hg
    refine .inr ⟨fun v hv => hp v (by omega), ?_⟩
    rw [impl_burn_l2_eq, decide_eq_false (by omega), decide_eq_true (by omega)]; rfl
  | m + 1, k, hk, hp => by
    have hn := gN hg
    have hk' : k < N g := by omega
    have hlen := hL.len
    by_cases c : k ∉ L ∧ D k < outd (Eg g) (cmp L) k
    · refine .inl ⟨k, ⟨hk', c.1, c.2, hp⟩, ?_⟩
      rw [impl_burn_l2_eq, decide_eq_true (by omega), decide_eq_true (by omega), cond_true, cond_true, impl_l4_p hg hd hL hk', if_pos c, impl_burn_l2_eq, decide_eq_false (show ¬ (k : Int) < 0 by omega), decide_eq_true (show (ints L).length + ([(k : Int)] : List Int).length ≤ room by rw [ints_len, room]; simp only [List.length_cons, List.length_nil]; omega)]
      have : ints (L ++ [k]) = ints L ++ [(k : Int)] := by unfold ints; simp
      rw [this]
      cases decide (((k + 1 : Nat) : Int) < g.1) <;> rfl
    · have hstep : impl_burn_l2 d g (ints L) (-1) (k : Int) = impl_burn_l2 d g (ints L) (-1) ((k + 1 : Nat) : Int) := by
        rw [impl_burn_l2_eq, decide_eq_true (by omega), decide_eq_true (by omega), cond_true, cond_true, impl_l4_p hg hd hL hk', if_neg c]
      rw [hstep]
      exact impl_l2_n hg hd hL m (k + 1) (by omega) fun v hv h => by
        by_cases e : v = k
        · subst e
          have := not_and.1 c h
          omega
        · exact hp v (by omega) h
theorem spec_l2_n {g : Gr} (hg : GOk g) {d : List Int} {D : Nat → Int} (hd : vec (N g) d D) {q : Nat} {L : List Nat} (hL : BI (N g) (Eg g) q D L) : ∀ (k : Nat) (nx : Int), k ≤ N g → ((nx = -1 ∧ ∀ v, k ≤ v → v < N g → v ∉ L → outd (Eg g) (cmp L) v ≤ D v) ∨ ∃ v : Nat, nx = (v : Int) ∧ v < N g ∧ v ∉ L ∧ D v < outd (Eg g) (cmp L) v ∧ ∀ u, k ≤ u → u < v → u ∉ L → outd (Eg g) (cmp L) u ≤ D u) →
    (∃ v, Nx g D L v ∧ spec_l05Burn_l2 d g (ints L) (bv L (N g)) nx ((k : Int) - 1) = spec_l05Burn_l0 d g (ints (L ++ [v])) (bv (L ++ [v]) (N g))) ∨ (Fin' (N g) (Eg g) D L ∧ spec_l05Burn_l2 d g (ints L) (bv L (N g)) nx ((k : Int) - 1) = some (ints L))
  | 0, nx, hk, hp => by
    have hn := gN hg
    have hlen := hL.len
    rw [spec_l05Burn_l2_eq, decide_eq_false (by omega), cond_false]
    rcases hp with ⟨h1, h2⟩ | ⟨v, h1, h2, h3, h4, h5⟩
    · rw [h1, decide_eq_true (by omega)]
      exact .inr ⟨fun v hv h => h2 v (by omega) hv h, rfl⟩
    · rw [h1, decide_eq_false (by omega), cond_false, show inside (v : Int) (bv L (N g)).length = true from inside_lt (by rw [bv_len]; exact h2), cond_true, decide_eq_true (show (ints L).length + ([(v : Int)] : List Int).length ≤ room by rw [ints_len, room]; simp only [List.length_cons, List.length_nil]; omega), cond_true, toNat_n, bv_set h2]
      have : ints (L ++ [v]) = ints L ++ [(v : Int)] := by unfold ints; simp
      exact .inl ⟨v, ⟨h2, h3, h4, fun u hu => h5 u (Nat.zero_le _) hu⟩, by rw [this]⟩
  | k + 1, nx, hk, hp => by
    have hn := gN hg
    have hk' : k < N g := by omega
    have hstep : spec_l05Burn_l2 d g (ints L) (bv L (N g)) nx (((k + 1 : Nat) : Int) - 1) = spec_l05Burn_l2 d g (ints L) (bv L (N g)) (if k ∉ L ∧ D k < outd (Eg g) (cmp L) k then (k : Int) else nx) ((k : Int) - 1) := by
      rw [show (((k + 1 : Nat) : Int) - 1) = (k : Int) by omega, spec_l05Burn_l2_eq, decide_eq_true (by omega), cond_true, spec_l4_p hg hd hL hk']
    rw [hstep]
    refine spec_l2_n hg hd hL k _ (by omega) ?_
    by_cases c : k ∉ L ∧ D k < outd (Eg g) (cmp L) k
    · rw [if_pos c]
      exact .inr ⟨k, rfl, hk', c.1, c.2, fun u h1 h2 => by omega⟩
    · rw [if_neg c]
      rcases hp with ⟨h1, h2⟩ | h
      · refine .inl ⟨h1, fun v hv hv2 hv3 => ?_⟩
        by_cases e : v = k
        · subst e
          have := not_and.1 c hv3
          omega
        · exact h2 v (by omega) hv2 hv3
      · obtain ⟨v, a1, a2, a3, a4, a5⟩ := h
        refine .inr ⟨v, a1, a2, a3, a4, fun u h1 h2 h3 => ?_⟩
        by_cases e : u = k
        · subst e
          have := not_and.1 c h3
          omega
        · exact a5 u (by omega) h2 h3
theorem burn_p {g : Gr} (hg : GOk g) {d : List Int} {D : Nat → Int} (hd : vec (N g) d D) {q : Nat} (hq : q < N g) : ∃ L, impl_burn g d (q : Int) = some (ints L) ∧ spec_l05Burn g d (q : Int) = some (ints L) ∧ BI (N g) (Eg g) q D L ∧ Fin' (N g) (Eg g) D L := by
  obtain ⟨gE1, gE2, gE3⟩ := gE hg
  have hn := gN hg
  have h0 : (List.replicate g.1.toNat false).set ((q : Int)).toNat true = bv [q] (N g) := by
    rw [toNat_n]
    have : List.replicate g.1.toNat false = bv [] (N g) := by
      unfold bv N
      refine ext_getD (d := false) (by simp) fun j hj => ?_
      have hj' : j < g.1.toNat := by simpa using hj
      rw [getD_range_map _ hj', List.getD_eq_getElem?_getD, List.getElem?_replicate]
      simp [hj']
    rw [this, bv_set hq]; rfl
  rw [impl_burn_eq, spec_l05Burn_eq, h0, decide_eq_true (by omega), decide_eq_true (show g.1 ≤ (room : Int) by rw [room]; omega)]
  simp only [Bool.and_self, cond_true]
  rw [show inside (q : Int) (List.replicate g.1.toNat false).length = true from inside_lt (by rw [List.length_replicate]; exact hq), cond_true]
  have key : ∀ (m : Nat) (L : List Nat), L.length + m = N g + 1 → BI (N g) (Eg g) q D L → ∃ L', impl_burn_l0 d g (ints L) = some (ints L') ∧ spec_l05Burn_l0 d g (ints L) (bv L (N g)) = some (ints L') ∧ BI (N g) (Eg g) q D L' ∧ Fin' (N g) (Eg g) D L' := by
    intro m
    induction m with
    | zero => intro L hl hB; have := hB.len; omega
    | succ m ih =>
      intro L hl hB
      rw [impl_burn_l0_eq, spec_l05Burn_l0_eq, w64_id (by omega) (by omega), ← hn.1]
      rcases impl_l2_n hg hd hB (N g) 0 (by omega) (fun v hv => by omega) with ⟨v, h1, h2⟩ | ⟨h1, h2⟩
      · rcases spec_l2_n hg hd hB (N g) (-1) (Nat.le_refl _) (.inl ⟨rfl, fun v h1 h2 => by omega⟩) with ⟨w, k1, k2⟩ | ⟨k1, k2⟩
        · have := h1.uniq k1
          subst this
          obtain ⟨L', q1, q2, q3, q4⟩ := ih (L ++ [v]) (by rw [List.length_append]; simp only [List.length_cons, List.length_nil]; omega) (hB.add gE1 h1.1 h1.2.1 h1.2.2.1)
          exact ⟨L', h2.trans q1, k2.trans q2, q3, q4⟩
        · exfalso
          have := k1 v h1.1 h1.2.1
          have := h1.2.2.1
          omega
      · rcases spec_l2_n hg hd hB (N g) (-1) (Nat.le_refl _) (.inl ⟨rfl, fun v h1 h2 => by omega⟩) with ⟨w, k1, k2⟩ | ⟨k1, k2⟩
        · exfalso
          have := h1 w k1.1 k1.2.1
          have := k1.2.2.1
          omega
        · exact ⟨L, h2, k2, hB, h1⟩
  exact key (N g) [q] (by simp; omega) (BI.start hq)
end Go.Proofs.YthmddgkpebneoaaDoor.D

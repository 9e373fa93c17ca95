/-
  The rank of a divisor: both programs search alike, and what they find is the rank.
-/
import Derived.Test.YtgncajnfphlgeaaGreatDoorPureQ
import Derived.Test.YtgncajnfphlgeaaGreatDoorPureI
namespace Go.Proofs.YtgncajnfphlgeaaGreatDoor.D
open Go Go.Den
set_option linter.unusedVariables false
set_option linter.unusedSimpArgs false
/-- a divisor's class has an effective one -/
def Win (g : Gr) (D : Nat → Int) : Prop := ∃ r, CL g D r
theorem Win.congr {g : Gr} {D D' : Nat → Int} (h : Win g D) (e : ∀ v, v < N g → D v = D' v) : Win g D' := by
  obtain ⟨r, h1, h2, S, h3⟩ := h
  exact ⟨r, h1, h2, S, fun v hv => by rw [h3 v hv, e v hv]⟩
theorem Win.deg {g : Gr} (hg : GOk g) {D : Nat → Int} (h : Win g D) : 0 ≤ sm (N g) D := by
  obtain ⟨r, h⟩ := h
  rw [← h.sum hg, ← sm_list, h.1]
  exact sm_nonneg fun v hv => h.2.1 v hv
/-- what is left of a divisor when another is taken -/
def Mi (D : Nat → Int) (e : List Int) (v : Nat) : Int := D v - e.getD v 0
theorem covers_p {a b : List Int} (h : b.length ≤ a.length) (hl : b.length ≤ 1000) : ∃ r, impl_covers a b = some r ∧ (r = true ↔ ∀ v, v < b.length → b.getD v 0 ≤ a.getD v 0) := by
  rw [impl_covers_eq]
  obtain ⟨r, h1, h2⟩ := upAll (n := b.length) (f := fun i => impl_covers_l0 a b (b.length : Int) i) (p := fun k => decide (b.getD k 0 ≤ a.getD k 0)) (fun k hk => by
    rw [impl_covers_l0_eq, dec_lt_t hk, inside_lt hk, inside_lt (by omega), toNat_n, w64_succ hk (by omega)]
    simp only [cond_true]
    by_cases c : a.getD k 0 < b.getD k 0
    · rw [decide_eq_true c, decide_eq_false (by omega)]; rfl
    · rw [decide_eq_false c, decide_eq_true (by omega)]; rfl) (by rw [impl_covers_l0_eq, dec_lt_f]; rfl)
  exact ⟨r, h1, h2.trans ⟨fun h v hv => of_decide_eq_true (h v hv), fun h v hv => decide_eq_true (h v hv)⟩⟩
theorem some_covers {L : List (List Int)} {e : List Int} (hL : ∀ r ∈ L, r.length = e.length) (hl : e.length ≤ 1000) (hll : L.length ≤ 1000000) : ∃ b, slices_ContainsFunc_int_int__rank_1 L e = some b ∧ (b = true ↔ ∃ r, r ∈ L ∧ ∀ v, v < e.length → e.getD v 0 ≤ r.getD v 0) := by
  rw [slices_ContainsFunc_int_int__rank_1_eq, slices_IndexFunc_int_int__rank_1_eq]
  have key : ∀ (m i : Nat), i + m = L.length → (∀ j, j < i → ¬ ∀ v, v < e.length → e.getD v 0 ≤ (L.getD j []).getD v 0) → ∃ q, slices_IndexFunc_int_int__rank_1_l0 L e (L.length : Int) (i : Int) = some q ∧ (q ≥ 0 ↔ ∃ r, r ∈ L ∧ ∀ v, v < e.length → e.getD v 0 ≤ r.getD v 0) := by
    intro m
    induction m with
    | zero =>
      intro i hi hf
      have : i = L.length := by omega
      subst this
      refine ⟨-1, by rw [slices_IndexFunc_int_int__rank_1_l0_eq, dec_lt_f]; rfl, ⟨fun h => absurd h (by decide), fun ⟨r, h1, h2⟩ => ?_⟩⟩
      obtain ⟨j, hj, e'⟩ := List.getElem_of_mem h1
      exact absurd (by rw [getD_lt hj, e']; exact h2) (hf j hj)
    | succ m ih =>
      intro i hi hf
      have hi' : i < L.length := by omega
      obtain ⟨b, b1, b2⟩ := covers_p (a := L.getD i []) (b := e) (by rw [hL _ (getD_mem [] hi')]; exact Nat.le_refl _) hl
      rw [slices_IndexFunc_int_int__rank_1_l0_eq, dec_lt_t hi', inside_lt hi', toNat_n, w64_succ hi' (by omega), cond_true, cond_true, impl_rank_1_eq, b1, Option.bind_some, Option.bind_some]
      cases b with
      | true => exact ⟨i, rfl, ⟨fun _ => ⟨_, getD_mem [] hi', b2.1 rfl⟩, fun _ => by omega⟩⟩
      | false =>
        refine ih (i + 1) (by omega) fun j hj => ?_
        rcases Nat.lt_or_ge j i with q | q
        · exact hf j q
        · rw [show j = i by omega]
          intro c
          have := b2.2 c
          cases this
  obtain ⟨q, h1, h2⟩ := key L.length 0 (by omega) (fun j hj => by omega)
  rw [show ((0 : Int)) = ((0 : Nat) : Int) from rfl, h1, Option.bind_some]
  exact ⟨_, rfl, by rw [decide_eq_true_iff]; exact h2⟩
open Classical in
/-- a removal without an answer -/
noncomputable def bad (g : Gr) (D : Nat → Int) (e : List Int) : Bool := decide (¬ Win g (Mi D e))
theorem bad_t {g : Gr} {D : Nat → Int} {e : List Int} : bad g D e = true ↔ ¬ Win g (Mi D e) := by
  classical
  unfold bad
  exact decide_eq_true_iff
theorem bad_f {g : Gr} {D : Nat → Int} {e : List Int} : bad g D e = false ↔ Win g (Mi D e) := by
  classical
  unfold bad
  exact decide_eq_false_iff_not.trans Classical.not_not
/-- a removal is answered where one of the class's effective divisors covers it -/
theorem cover_iff {g : Gr} {D : Nat → Int} {L : List (List Int)} (hL : Sys g D L) {e : List Int} (he : e.length = N g) (h0 : ∀ v, v < N g → 0 ≤ e.getD v 0) : (∃ r, r ∈ L ∧ ∀ v, v < e.length → e.getD v 0 ≤ r.getD v 0) ↔ Win g (Mi D e) := by
  constructor
  · rintro ⟨r, h1, h2⟩
    obtain ⟨q1, q2, S, q3⟩ := (hL.2.2 r).1 h1
    refine ⟨(List.range (N g)).map fun v => r.getD v 0 - e.getD v 0, by simp, fun v hv => ?_, S, fun v hv => ?_⟩
    · rw [getD_range_map _ hv]
      have := h2 v (by omega)
      omega
    · rw [getD_range_map _ hv, q3 v hv]
      unfold Mi; omega
  · rintro ⟨r, q1, q2, S, q3⟩
    have hl : ((List.range (N g)).map fun v => r.getD v 0 + e.getD v 0).length = N g := by simp
    refine ⟨(List.range (N g)).map fun v => r.getD v 0 + e.getD v 0, (hL.2.2 _).2 ⟨hl, fun v hv => ?_, S, fun v hv => ?_⟩, fun v hv => ?_⟩
    · rw [getD_range_map _ hv]
      have := q2 v hv
      have := h0 v hv
      omega
    · rw [getD_range_map _ hv, q3 v hv]
      unfold Mi; omega
    · rw [getD_range_map _ (by omega)]
      have := q2 v (by omega)
      omega
theorem Sys.len {g : Gr} (hg : GOk g) {D : Nat → Int} {L : List (List Int)} (h : Sys g D L) (h9 : sm (N g) D ≤ 9) : L.length ≤ 100000 := by
  have hn := gN hg
  by_cases c : 0 ≤ sm (N g) D
  · have hk : sm (N g) D = (((sm (N g) D).toNat : Nat) : Int) := by omega
    have h1 := nodup_len h.2.1 fun r hr => ((h.2.2 r).1 hr).in hg hk
    have h2 := eff_len (N g - 1) (sm (N g) D).toNat (by omega)
    have h3 : 10 ^ (N g - 1) ≤ 10 ^ 5 := Nat.pow_le_pow_right (by omega) (by omega)
    omega
  · match L with
    | [] => exact Nat.zero_le _
    | r :: L =>
      have := Win.deg hg ⟨r, (h.2.2 r).1 List.mem_cons_self⟩
      omega
theorem impl_first {g : Gr} (hg : GOk g) {D : Nat → Int} {L : List (List Int)} (hL : Sys g D L) (hll : L.length ≤ 100000) {k : Nat} (hk9 : k ≤ 9) {E : List (List Int)} (hE : ∀ e ∈ E, e ∈ eff (N g - 1) k) (hEl : E.length ≤ 1000000) : ∀ (m i : Nat), i + m = E.length →
    impl_rank_l2 g L (k : Int) E (E.length : Int) (i : Int) = match (E.drop i).find? (bad g D) with | some e => some (w64 ((k : Int) - 1), e) | none => impl_rank_l0 g L (w64 ((k : Int) + 1)) := by
  intro m
  have hn := gN hg
  induction m with
  | zero =>
    intro i hi
    have : i = E.length := by omega
    subst this
    rw [impl_rank_l2_eq, dec_lt_f, List.drop_length]; rfl
  | succ m ih =>
    intro i hi
    have hi' : i < E.length := by omega
    have hs := eff_Sd hg hk9 (hE _ (getD_mem [] hi'))
    obtain ⟨b, b1, b2⟩ := some_covers (L := L) (e := E.getD i []) (fun r hr => by rw [((hL.2.2 r).1 hr).1, hs.1]) (by rw [hs.1]; omega) (by omega)
    have b3 : bad g D (E.getD i []) = !b := by
      rw [cover_iff hL hs.1 (fun v hv => (hs.vec.2 v hv).1)] at b2
      cases b with
      | true => exact bad_f.2 (b2.1 rfl)
      | false => exact bad_t.2 fun c => by have := b2.2 c; cases this
    rw [impl_rank_l2_eq, dec_lt_t hi', inside_lt hi', toNat_n, cond_true, cond_true, b1, Option.bind_some, w64_succ hi' (by omega), List.drop_eq_getElem_cons hi', List.find?_cons, ← getD_lt (d := []) hi', b3]
    cases b with
    | true => exact ih (i + 1) (by omega)
    | false => rfl
/-- the rank and the first removal beyond it that has no answer -/
structure RK (g : Gr) (D : Nat → Int) (r : Nat) (w : List Int) : Prop where
  up : ∀ k, k < r → ∀ e ∈ eff (N g - 1) k, Win g (Mi D e)
  first : (eff (N g - 1) r).find? (bad g D) = some w
theorem RK.mem {g : Gr} {D : Nat → Int} {r : Nat} {w : List Int} (h : RK g D r w) : w ∈ eff (N g - 1) r := List.mem_of_find?_eq_some h.first
theorem RK.bad {g : Gr} {D : Nat → Int} {r : Nat} {w : List Int} (h : RK g D r w) : ¬ Win g (Mi D w) := bad_t.1 (List.find?_some h.first)
theorem RK.uniq {g : Gr} {D : Nat → Int} {r r' : Nat} {w w' : List Int} (h : RK g D r w) (h' : RK g D r' w') : r = r' ∧ w = w' := by
  have e : r = r' := by
    rcases Nat.lt_trichotomy r r' with c | c | c
    · exact absurd (h'.up r c w h.mem) h.bad
    · exact c
    · exact absurd (h.up r' c w' h'.mem) h'.bad
  subst e
  exact ⟨rfl, Option.some.inj (h.first.symm.trans h'.first)⟩
theorem Mi_sum {g : Gr} {D : Nat → Int} {e : List Int} (he : e.length = N g) : sm (N g) (Mi D e) = sm (N g) D - e.sum := by
  have e1 : sm (N g) (Mi D e) = sm (N g) (fun v => D v + - e.getD v 0) := sm_congr fun v _ => by unfold Mi; omega
  have e2 := sm_neg (fun v => e.getD v 0) (N g)
  have e3 := sm_list e
  rw [he] at e3
  rw [e1, sm_add, e2, e3]; omega
theorem rank_i {g : Gr} (hg : GOk g) {d : List Int} {D : Nat → Int} (hd : vec (N g) d D) (hD : Bd (N g) 900 D) (h8 : sm (N g) D ≤ 8) : ∃ (r : Nat) (w : List Int), impl_rank g d = some ((r : Int) - 1, w) ∧ RK g D r w ∧ r ≤ (sm (N g) D + 1).toNat := by
  have hn := gN hg
  have hN : ((N g - 1 : Nat) : Int) + 1 = g.1 := by omega
  obtain ⟨L, l1, l2⟩ := effectiveIn_p hg hd (fun v hv => by have := hD v hv; omega) (by omega)
  have hll := l2.len hg (by omega)
  rw [impl_rank_eq, l1, Option.bind_some]
  have key : ∀ (m k : Nat), k + m = (sm (N g) D + 1).toNat → (∀ k', k' < k → ∀ e ∈ eff (N g - 1) k', Win g (Mi D e)) → ∃ (r : Nat) (w : List Int), impl_rank_l0 g L (k : Int) = some ((r : Int) - 1, w) ∧ RK g D r w ∧ r ≤ (sm (N g) D + 1).toNat := by
    intro m
    induction m with
    | zero =>
      intro k hk hup
      obtain ⟨e, he⟩ := eff_nonempty (N g - 1) k
      have hbad : ∃ w, (eff (N g - 1) k).find? (bad g D) = some w := by
        rw [← Option.isSome_iff_exists, List.find?_isSome]
        refine ⟨e, he, bad_t.2 fun c => ?_⟩
        have h1 := c.deg hg
        have h2 := eff_sum he
        rw [Mi_sum (eff_Sd hg (k := k) (by omega) he).1, h2] at h1
        omega
      obtain ⟨w, hw⟩ := hbad
      have hEl := eff_len (N g - 1) k (by omega)
      have h3 : 10 ^ (N g - 1) ≤ 10 ^ 5 := Nat.pow_le_pow_right (by omega) (by omega)
      refine ⟨k, w, ?_, ⟨hup, hw⟩, by omega⟩
      rw [impl_rank_l0_eq, ← hN, impl_eff (by omega) k (by omega), Option.bind_some]
      have := impl_first hg l2 hll (k := k) (by omega) (E := eff (N g - 1) k) (fun e he => he) (by omega) (eff (N g - 1) k).length 0 (by omega)
      rw [List.drop_zero, hw] at this
      refine Eq.trans this ?_
      simp only
      rw [w64_id (by omega) (by omega)]
    | succ m ih =>
      intro k hk hup
      have hEl := eff_len (N g - 1) k (by omega)
      have h3 : 10 ^ (N g - 1) ≤ 10 ^ 5 := Nat.pow_le_pow_right (by omega) (by omega)
      have f1 := impl_first hg l2 hll (k := k) (by omega) (E := eff (N g - 1) k) (fun e he => he) (by omega) (eff (N g - 1) k).length 0 (by omega)
      have s1 : impl_rank_l0 g L (k : Int) = impl_rank_l2 g L (k : Int) (eff (N g - 1) k) ((eff (N g - 1) k).length : Int) ((0 : Nat) : Int) := by
        rw [impl_rank_l0_eq, ← hN, impl_eff (by omega) k (by omega), Option.bind_some]; rfl
      rw [s1, f1, List.drop_zero]
      cases hw : (eff (N g - 1) k).find? (bad g D) with
      | some w =>
        simp only
        rw [w64_id (by omega) (by omega)]
        exact ⟨k, w, rfl, ⟨hup, hw⟩, by omega⟩
      | none =>
        simp only
        rw [w64_id (by omega) (by omega)]
        refine ih (k + 1) (by omega) fun k' hk' e he => ?_
        rcases Nat.lt_or_ge k' k with q | q
        · exact hup k' q e he
        · have : k' = k := by omega
          subst this
          have := List.find?_eq_none.1 hw e he
          exact bad_f.1 (by simpa using this)
  exact key (sm (N g) D + 1).toNat 0 (by omega) (fun k' h => by omega)
end Go.Proofs.YtgncajnfphlgeaaGreatDoor.D

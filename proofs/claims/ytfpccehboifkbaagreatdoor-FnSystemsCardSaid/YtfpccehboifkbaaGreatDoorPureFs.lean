/-
  The law FnSystems: the effective divisors of a class, all of them, in order.
-/
import Derived.Test.YtfpccehboifkbaaGreatDoorPureFr
namespace Go.Proofs.YtfpccehboifkbaaGreatDoor.D
open Go Go.Den
set_option linter.unusedVariables false
set_option linter.unusedSimpArgs false
theorem equal_p {a b : List Int} (hl : a.length = b.length) (h : a.length ≤ 1000) : ∃ r, slices_Equal_int_int a b = some r ∧ (r = true ↔ a = b) := by
  rw [slices_Equal_int_int_eq, eq_f (show (a.length : Int) = (b.length : Int) by rw [hl]), cond_false]
  obtain ⟨r, h1, h2⟩ := upAll (n := a.length) (f := fun i => slices_Equal_int_int_l0 a b (a.length : Int) i) (p := fun k => decide (a.getD k 0 = b.getD k 0)) (fun k hk => by
    rw [slices_Equal_int_int_l0_eq, dec_lt_t hk, inside_lt hk, inside_lt (by omega), toNat_n, w64_succ hk (by omega)]
    simp only [cond_true]
    by_cases c : a.getD k 0 = b.getD k 0
    · rw [eq_f c, decide_eq_true c]; rfl
    · rw [ne_t c, decide_eq_false c]; rfl) (by rw [slices_Equal_int_int_l0_eq, dec_lt_f]; rfl)
  exact ⟨r, h1, h2.trans ⟨fun h => ext_getD hl fun j hj => of_decide_eq_true (h j hj), fun h j hj => decide_eq_true (by rw [h])⟩⟩
theorem rdd_same {g : Gr} (hg : GOk g) {q : Nat} (hq : q < N g) {D O S D' O' S' : Nat → Int} {x y x' y' : List Int} (h : Rdd g q D x y O S) (h' : Rdd g q D' x' y' O' S') : x = x' ↔ ∃ T : Nat → Int, ∀ v, v < N g → D' v = D v - lap (Eg g) T v := by
  constructor
  · intro e
    refine ⟨fun v => S v + - S' v, fun v hv => ?_⟩
    have q1 := h.out v hv
    have q2 := h'.out v hv
    have q3 := h.vx.2 v hv
    have q4 := h'.vx.2 v hv
    rw [e, q4] at q3
    rw [lap_add, lap_neg]; omega
  · rintro ⟨T, hT⟩
    refine h.vx.eq h'.vx fun v hv => ?_
    have := Red.uniq (s := fun v => (T v + S' v) + - S v) (gE hg).1 hq h.red h'.red (fun v hv => by
      have q1 := h.out v hv
      have q2 := h'.out v hv
      rw [lap_add, lap_add, lap_neg, q1, q2, hT v hv]; omega)
    exact (this v hv).2.symm
theorem equiv_p {g : Gr} {d e : List Int} (hd : DOk g d) (he : DOk g e) : ∃ b, impl_AreEquivalent g d e = some b ∧ (b = true ↔ ∃ T : Nat → Int, ∀ v, v < N g → fn e v = fn d v - lap (Eg g) T v) := by
  have hn := gN hd.1
  have h12 := hd.1.1.2.1
  obtain ⟨b, p1, p2, p3⟩ := graphOk_p (g := g) (by omega)
  rw [p3.2 hd.1] at p2
  have red : ∀ d, DOk g d → ∃ x y O S, impl_RepresentativeOf g d = some (x, true) ∧ Rdd g 0 (fn d) x y O S := fun d hd => by
    obtain ⟨x, y, O, S, h1, _, h3⟩ := reduce_p (q := 0) hd.1 (by omega) hd.vec.1 (hd.vec.2.mono (by omega))
    have h1' : impl_reduce g d 0 = some (x, y) := h1
    refine ⟨x, y, O, S, ?_, h3⟩
    rw [impl_RepresentativeOf_eq, impl_ReducedOf_eq, hd.is.1, Option.bind_some, Bool.not_true, cond_false, impl_isVertex_eq, p2, Option.bind_some, cond_true, within_p, w64_id (by omega) (by omega), Option.bind_some, decide_eq_true (by omega), Option.bind_some, Bool.not_true, cond_false, h1']
    rfl
  obtain ⟨x, y, O, S, h1, h2⟩ := red d hd
  obtain ⟨x', y', O', S', k1, k2⟩ := red e he
  obtain ⟨r, r1, r2⟩ := equal_p (a := x) (b := x') (by rw [h2.vx.1, k2.vx.1]) (by rw [h2.vx.1]; omega)
  rw [impl_AreEquivalent_eq, h1, k1]
  simp only [Option.bind_some, cond_true, impl_SameDivisor_eq, r1]
  exact ⟨r, rfl, r2.trans (rdd_same hd.1 (by omega) h2 k2)⟩
theorem same2_p {a b : List Int} (hl : a.length = b.length) (h : a.length ≤ 1000) : ∃ r, laws_same a b = some r ∧ (r = true ↔ a = b) := by
  rw [laws_same_eq, eq_f (show (a.length : Int) = (b.length : Int) by rw [hl]), cond_false]
  obtain ⟨r, h1, h2⟩ := upAll (n := a.length) (f := fun i => laws_same_l0 b a (a.length : Int) i) (p := fun k => decide (a.getD k 0 = b.getD k 0)) (fun k hk => by
    rw [laws_same_l0_eq, dec_lt_t hk, inside_lt hk, inside_lt (by omega), toNat_n, w64_succ hk (by omega)]
    simp only [cond_true]
    by_cases c : a.getD k 0 = b.getD k 0
    · rw [eq_f c, decide_eq_true c]; rfl
    · rw [ne_t c, decide_eq_false c]; rfl) (by rw [laws_same_l0_eq, dec_lt_f]; rfl)
  exact ⟨r, h1, h2.trans ⟨fun h => ext_getD hl fun j hj => of_decide_eq_true (h j hj), fun h j hj => decide_eq_true (by rw [h])⟩⟩
theorem less_t {a b : List Int} (hl : a.length = b.length) (h : a.length ≤ 1000) (hc : cmpL a b < 0) : laws_less a b = some true := by
  rw [laws_less_eq]
  have key : ∀ (m k : Nat), k + m = a.length → cmpL (a.drop k) (b.drop k) < 0 → laws_less_l0 b a (a.length : Int) (k : Int) = some true := by
    intro m
    induction m with
    | zero =>
      intro k hk hc
      rw [List.drop_eq_nil_of_le (by omega), List.drop_eq_nil_of_le (by omega)] at hc
      exact absurd hc (by decide)
    | succ m ih =>
      intro k hk hc
      have hka : k < a.length := by omega
      have hkb : k < b.length := by omega
      rw [List.drop_eq_getElem_cons hka, List.drop_eq_getElem_cons hkb] at hc
      simp only [cmpL] at hc
      rw [laws_less_l0_eq, dec_lt_t hka, inside_lt hka, dec_lt_t hkb, inside_lt hkb, toNat_n, w64_succ hka (by omega), getD_lt hka, getD_lt hkb]
      simp only [cond_true]
      by_cases c : a[k] = b[k]
      · rw [eq_f c, cond_false]
        refine ih (k + 1) (by omega) ?_
        rw [if_neg (by omega), if_neg (by omega)] at hc
        exact hc
      · rw [ne_t c, cond_true]
        by_cases c2 : a[k] < b[k]
        · rw [decide_eq_true c2]
        · rw [if_neg c2, if_pos (by omega)] at hc
          exact absurd hc (by decide)
  exact key a.length 0 (by omega) hc
theorem Sys.lt {g : Gr} {D : Nat → Int} {L : List (List Int)} (h : Sys g D L) {i : Nat} (hi : i + 1 < L.length) : cmpL (L.getD i []) (L.getD (i + 1) []) < 0 := by
  have h1 := (List.pairwise_iff_getElem.1 h.1) i (i + 1) (by omega) hi (by omega)
  have h2 := (List.pairwise_iff_getElem.1 h.2.1) i (i + 1) (by omega) hi (by omega)
  rw [getD_lt (show i < L.length by omega), getD_lt hi]
  simp only [rowLe, decide_eq_true_eq] at h1
  rcases Int.lt_or_eq_of_le h1 with k | k
  · exact k
  · exact absurd (cmpL_eq k) h2
theorem law_Systems {l : List Int} : laws_FnSystems l = some true := by
  rw [laws_FnSystems_eq]
  by_cases c0 : (l.length : Int) > 1048576
  · rw [decide_eq_true c0]; rfl
  rw [decide_eq_false c0, cond_false]
  obtain ⟨g, g1, g2, g3, g4⟩ := small_p (l := l) (by omega)
  obtain ⟨d, d1, d2, d3, d4⟩ := few_p (l := l) (by omega) g2 (n := 20) (by omega)
  have d1' : spec_MakeFew l 20 g = some d := d1
  have hn := gN g2
  obtain ⟨L, l1, l2, l3⟩ := iEff_p d2 (by omega)
  obtain ⟨b, b1, b2, b3⟩ := iWin_p g2 d2.vec.1 (d2.vec.2.mono (by omega))
  have hb : (decide ((L.length : Int) > 0)) = b := by
    rw [Bool.eq_iff_iff, decide_eq_true_iff]
    constructor
    · intro h
      refine b3 d2 ⟨L.getD 0 [], (l2.2.2 _).1 (getD_mem [] (by omega))⟩
    · intro h
      obtain ⟨r, hr⟩ := b2 h
      have := List.length_pos_of_mem ((l2.2.2 r).2 hr)
      omega
  rw [g1, Option.bind_some, d1', Option.bind_some, l1, Option.bind_some, impl_CountEffective_eq, l1]
  simp only [Bool.not_true, cond_false, Option.bind_some, bne_self_eq_false, b1]
  rw [hb, beq_self_eq_true, Bool.not_true, cond_false, laws_FnSystems_c8_eq]
  have hL : ∀ r ∈ L, Sd g r ∧ CL g (fn d) r := fun r hr => by
    have hc := (l2.2.2 r).1 hr
    have hw := Win.deg g2 ⟨r, hc⟩
    exact ⟨hc.sd g2 (k := (sm (N g) (fn d)).toNat) (by omega) (by omega), hc⟩
  have second : ∀ (E : List (List Int)), E.length ≤ 100000 → (∀ e ∈ E, Sd g e) → ∀ (m i : Nat), i + m = E.length → laws_FnSystems_l2 g d L E (E.length : Int) (i : Int) = some true := by
    intro E hEl hE m
    induction m with
    | zero =>
      intro i hi
      have : i = E.length := by omega
      subst this
      rw [laws_FnSystems_l2_eq, dec_lt_f]; rfl
    | succ m ih =>
      intro i hi
      have hi' : i < E.length := by omega
      have hs := hE _ (getD_mem [] hi')
      rw [laws_FnSystems_l2_eq, dec_lt_t hi', inside_lt hi', toNat_n, cond_true, cond_true]
      have inner : ∀ (m k : Nat) (f : Bool), k + m = L.length → ∃ f', laws_FnSystems_l4 g d L (E.getD i []) f E (E.length : Int) (i : Int) (L.length : Int) (k : Int) = laws_FnSystems_l4 g d L (E.getD i []) f' E (E.length : Int) (i : Int) (L.length : Int) (L.length : Int) ∧ (f' = true ↔ f = true ∨ ∃ j, k ≤ j ∧ j < L.length ∧ L.getD j [] = E.getD i []) := by
        intro m
        induction m with
        | zero =>
          intro k f hk
          have : k = L.length := by omega
          subst this
          exact ⟨f, rfl, ⟨.inl, fun h => h.elim id fun ⟨j, h1, h2, _⟩ => by omega⟩⟩
        | succ m ih2 =>
          intro k f hk
          have hk' : k < L.length := by omega
          rw [laws_FnSystems_l4_eq, dec_lt_t hk', inside_lt hk', cond_true, cond_true, w64_succ hk' (by omega)]
          cases f with
          | true =>
            obtain ⟨f', h1, h2⟩ := ih2 (k + 1) true (by omega)
            exact ⟨f', h1, ⟨fun _ => .inl rfl, fun _ => h2.2 (.inl rfl)⟩⟩
          | false =>
            obtain ⟨hr, _⟩ := hL _ (getD_mem [] hk')
            obtain ⟨r, r1, r2⟩ := same2_p (a := L.getD k []) (b := E.getD i []) (by rw [hr.1, hs.1]) (by rw [hr.1]; omega)
            rw [cond_false, toNat_n, r1, Option.bind_some]
            obtain ⟨f', h1, h2⟩ := ih2 (k + 1) r (by omega)
            refine ⟨f', h1, h2.trans ⟨fun h => .inr ?_, fun h => ?_⟩⟩
            · rcases h with h | ⟨j, q1, q2, q3⟩
              · exact ⟨k, Nat.le_refl _, hk', r2.1 h⟩
              · exact ⟨j, by omega, q2, q3⟩
            · rcases h with h | ⟨j, q1, q2, q3⟩
              · cases h
              · rcases Nat.lt_or_ge k j with c | c
                · exact .inr ⟨j, c, q2, q3⟩
                · have : j = k := by omega
                  subst this
                  exact .inl (r2.2 q3)
      obtain ⟨f', h1, h2⟩ := inner L.length 0 false (by omega)
      have h1' : laws_FnSystems_l4 g d L (E.getD i []) false E (E.length : Int) (i : Int) (L.length : Int) 0 = _ := h1
      obtain ⟨q, q1, q2⟩ := equiv_p d2 (hs.dok g2)
      have hq : f' = q := by
        rw [Bool.eq_iff_iff, h2, q2]
        constructor
        · rintro (h | ⟨j, _, k2, k3⟩)
          · cases h
          · have := (hL _ (getD_mem [] k2)).2
            rw [k3] at this
            exact this.2.2
        · intro h
          have : E.getD i [] ∈ L := (l2.2.2 _).2 ⟨hs.1, fun v hv => (hs.vec.2 v hv).1, h⟩
          obtain ⟨j, hj, e⟩ := List.getElem_of_mem this
          exact .inr ⟨j, Nat.zero_le _, hj, by rw [getD_lt hj]; exact e⟩
      rw [h1', laws_FnSystems_l4_eq, dec_lt_f, cond_false, q1, Option.bind_some, hq, beq_self_eq_true, Bool.not_true, cond_false, w64_succ hi' (by omega)]
      exact ih (i + 1) (by omega)
  have first : ∀ (m i : Nat), i + m = L.length → laws_FnSystems_l0 g d L (L.length : Int) (i : Int) = some true := by
    intro m
    induction m with
    | zero =>
      intro i hi
      have : i = L.length := by omega
      subst this
      obtain ⟨E, E1, E2, E3, E4⟩ := makeAll_p g2 (k := sm (N g) (fn d)) (by omega)
      rw [laws_FnSystems_l0_eq, dec_lt_f, cond_false, spec_MakeEffective_eq, (deg_p d2).1, Option.bind_some, E1]
      simp only [Option.bind_some]
      refine second E E2 (fun e he => ?_) E.length 0 (by omega)
      by_cases c : sm (N g) (fn d) < 0
      · rw [E3 c] at he; exact (List.not_mem_nil he).elim
      · rw [E4 (by omega)] at he
        exact eff_Sd g2 (by omega) he
    | succ m ih =>
      intro i hi
      have hi' : i < L.length := by omega
      obtain ⟨hs, hc⟩ := hL _ (getD_mem [] hi')
      obtain ⟨q, q1, q2⟩ := equiv_p d2 (hs.dok g2)
      have hq := q2.2 hc.2.2
      subst hq
      have next := ih (i + 1) (by omega)
      rw [laws_FnSystems_l0_eq, dec_lt_t hi', inside_lt hi', toNat_n, cond_true, cond_true, eq_f (show ((L.getD i []).length : Int) = g.1 by rw [hs.1]; omega), cond_false, isEff_t (by rw [hs.1]; omega) (fun x hx => (hs.2 x hx).1)]
      simp only [Option.bind_some, Bool.not_true, cond_false, q1, laws_FnSystems_c13_eq, w64_succ hi' (show L.length ≤ 9223372036854775807 by omega)]
      rcases Nat.eq_zero_or_pos i with c | c
      · subst c; exact next
      · have hlt := l2.lt (i := i - 1) (by omega)
        rw [show i - 1 + 1 = i by omega] at hlt
        obtain ⟨hs', _⟩ := hL _ (getD_mem [] (show i - 1 < L.length by omega))
        rw [decide_eq_true (by omega), cond_true, w64_id (n := (i : Int) - 1) (by omega) (by omega), show (i : Int) - 1 = ((i - 1 : Nat) : Int) by omega, inside_lt (by omega), cond_true, toNat_n, less_t (by rw [hs.1, hs'.1]) (by rw [hs'.1]; omega) hlt]
        exact next
  exact first L.length 0 (by omega)
end Go.Proofs.YtfpccehboifkbaaGreatDoor.D

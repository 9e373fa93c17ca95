/-
  The law FnGonal: the gonality.
-/
import Derived.Test.YtfpccehboifkbaaDoorPureIm
import Derived.Test.YtfpccehboifkbaaDoorPureCl
namespace Go.Proofs.YtfpccehboifkbaaDoor.D
open Go Go.Den
set_option linter.unusedVariables false
set_option linter.unusedSimpArgs false
/-- whatever vertex gives a chip away: still winnable -/
def Rch (g : Gr) (D : Nat → Int) : Prop := ∀ v, v < N g → Win g (fun w => if w = v then D v - 1 else D w)
theorem unit_of {g : Gr} (hg : GOk g) {e : List Int} (he : e ∈ eff (N g - 1) 1) : ∃ v, v < N g ∧ ∀ w, w < N g → e.getD w 0 = if w = v then 1 else 0 := by
  have hn := gN hg
  obtain ⟨h1, h2⟩ := eff_mem he
  have hs := eff_sum he
  have hl : e.length = N g := by omega
  have h0 : ∀ w, w < N g → 0 ≤ e.getD w 0 ∧ e.getD w 0 ≤ 1 := fun w hw => h2 _ (getD_mem 0 (by omega))
  have hsm : sm (N g) (fun w => e.getD w 0) = 1 := by
    have := sm_list e
    rw [hl, hs] at this
    exact this
  have hex : ∃ v, v < N g ∧ e.getD v 0 = 1 := by
    refine Classical.byContradiction fun hc => ?_
    have hz : ∀ w, w < N g → e.getD w 0 = 0 := fun w hw => by
      have := h0 w hw
      have : ¬ e.getD w 0 = 1 := fun c => hc ⟨w, hw, c⟩
      omega
    rw [sm_congr hz, sm_zero] at hsm
    omega
  obtain ⟨v, hv, hv1⟩ := hex
  refine ⟨v, hv, fun w hw => ?_⟩
  by_cases c : w = v
  · rw [if_pos c, c, hv1]
  · rw [if_neg c]
    have hd : sm (N g) (fun w => e.getD w 0 + if w = v then -1 else 0) = 0 := by
      rw [sm_add, hsm, sm_one, if_pos hv]; rfl
    have := sm_ge_one (f := fun w => e.getD w 0 + if w = v then -1 else 0) (n := N g) (fun u hu => by
      have := h0 u hu
      by_cases c : u = v
      · rw [if_pos c, c, hv1]; omega
      · rw [if_neg c]; omega) hw
    simp only [if_neg c] at this
    have := h0 w hw
    omega
theorem unit_in {g : Gr} (hg : GOk g) {v : Nat} (hv : v < N g) : (List.replicate (N g) (0 : Int)).set v 1 ∈ eff (N g - 1) 1 := by
  have hn := gN hg
  have hvec := at1_vec hv 1
  refine eff_in (by rw [hvec.1]; omega) (fun x hx => ?_) ?_
  · obtain ⟨j, hj, e⟩ := mem_getD hx
    rw [hvec.1] at hj
    rw [← e, hvec.2 j hj]
    unfold at1
    split <;> omega
  · rw [← sm_list, hvec.1, sm_congr hvec.2, at1_sum hv]; rfl
theorem rch_iff {g : Gr} (hg : GOk g) {D : Nat → Int} (h0 : ∀ v, v < N g → 0 ≤ D v) {r : Nat} {w : List Int} (h : RK g D r w) : 2 ≤ r ↔ Rch g D := by
  have hn := gN hg
  constructor
  · intro hr v hv
    refine (h.up 1 (by omega) _ (unit_in hg hv)).congr fun u hu => ?_
    unfold Mi
    rw [(at1_vec hv 1).2 u hu]
    unfold at1
    by_cases c : u = v
    · rw [if_pos c, if_pos c, c]
    · rw [if_neg c, if_neg c]; omega
  · intro hR
    rcases Nat.lt_or_ge r 2 with c | c
    · exfalso
      have hr : r = 0 ∨ r = 1 := by omega
      rcases hr with rfl | rfl
      · obtain ⟨h1, h2⟩ := eff_mem h.mem
        refine h.bad ⟨(List.range (N g)).map D, by simp, fun v hv => by rw [getD_range_map _ hv]; exact h0 v hv, fun _ => 0, fun v hv => ?_⟩
        have := h2 _ (getD_mem 0 (show v < w.length by omega))
        rw [getD_range_map _ hv, lap_const hv (fun _ _ => rfl) (gE hg).1]
        unfold Mi; omega
      · obtain ⟨v, hv, hw⟩ := unit_of hg h.mem
        refine h.bad ((hR v hv).congr fun u hu => ?_)
        unfold Mi
        rw [hw u hu]
        by_cases c : u = v
        · rw [if_pos c, if_pos c, c]
        · rw [if_neg c, if_neg c]; omega
    · exact c
theorem reachI {g : Gr} (hg : GOk g) {d : List Int} (h : Sd g d) : ∃ b, impl_reaches g d = some b ∧ (b = true ↔ Rch g (fn d)) := by
  have hn := gN hg
  rw [impl_reaches_eq, h.1]
  have step : ∀ v : Nat, v < N g → ∃ q, ((impl_oneAt g (v : Int) (-1)).bind fun r1 => (impl_plus d r1).bind fun r2 => impl_winnable g r2) = some q ∧ (q = true ↔ Win g (fun w => if w = v then fn d v - 1 else fn d w)) := fun v hv => by
    obtain ⟨q1, q2⟩ := dm_vec h hv
    obtain ⟨q, a1, a2⟩ := winI hg q1 q2
    refine ⟨q, ?_, a2⟩
    have := less_p hg h hv
    rw [oneAt_p hg hv, Option.bind_some] at this ⊢
    rw [this, Option.bind_some, a1]
  have key : ∀ (m v : Nat), v + m = N g → ∃ b, impl_reaches_l0 d g ((N g : Nat) : Int) (v : Int) = some b ∧ (b = true ↔ ∀ u, v ≤ u → u < N g → Win g (fun w => if w = u then fn d u - 1 else fn d w)) := by
    intro m
    induction m with
    | zero =>
      intro v hv
      have : v = N g := by omega
      subst this
      rw [impl_reaches_l0_eq, dec_lt_f]
      exact ⟨true, rfl, ⟨fun _ u h1 h2 => by omega, fun _ => rfl⟩⟩
    | succ m ih =>
      intro v hv
      have hv' : v < N g := by omega
      obtain ⟨q, a1, a2⟩ := step v hv'
      rw [oneAt_p hg hv', Option.bind_some] at a1
      obtain ⟨r2, b1, b2⟩ := Option.bind_eq_some_iff.1 a1
      rw [impl_reaches_l0_eq, dec_lt_t hv', cond_true, oneAt_p hg hv', Option.bind_some, b1, Option.bind_some, b2, Option.bind_some, w64_succ hv' (by omega)]
      cases q with
      | false => exact ⟨false, rfl, ⟨fun k => (by cases k), fun k => (by have := a2.2 (k v (Nat.le_refl _) hv'); cases this)⟩⟩
      | true =>
        obtain ⟨b, c1, c2⟩ := ih (v + 1) (by omega)
        refine ⟨b, c1, c2.trans ⟨fun k u h1 h2 => ?_, fun k u h1 h2 => k u (by omega) h2⟩⟩
        rcases Nat.lt_or_ge v u with c | c
        · exact k u c h2
        · have : u = v := by omega
          subst this
          exact a2.1 rfl
  obtain ⟨b, h1, h2⟩ := key (N g) 0 (by omega)
  exact ⟨b, h1, h2.trans ⟨fun k v hv => k v (Nat.zero_le _) hv, fun k u _ hu => k u hu⟩⟩
theorem gonalI {g : Gr} (hg : GOk g) (h5 : g.1 ≤ 5) : (gnI g > 5 ∧ impl_GonalDivisor g = some ([], false)) ∨ (gnI g ≤ 5 ∧ ∃ k d, impl_GonalDivisor g = some (d, true) ∧ 1 ≤ k ∧ k ≤ N g ∧ d ∈ eff (N g - 1) k ∧ Rch g (fn d) ∧ ∀ j, 1 ≤ j → j < k → ∀ e ∈ eff (N g - 1) j, ¬ Rch g (fn e)) := by
  have hn := gN hg
  rw [impl_GonalDivisor_eq, okI hg, Option.bind_some, Bool.not_true, cond_false, decide_eq_false (by omega), cond_false, genusI hg, Option.bind_some]
  by_cases c : gnI g > 5
  · rw [decide_eq_true c]; exact .inl ⟨c, rfl⟩
  · rw [decide_eq_false c, cond_false]
    refine .inr ⟨by omega, ?_⟩
    have h3 : 10 ^ (N g - 1) ≤ 10 ^ 5 := Nat.pow_le_pow_right (by omega) (by omega)
    have find : ∀ k : Nat, k ≤ 9 → ∀ (m i : Nat), i + m = (eff (N g - 1) k).length → (∀ j, j < i → ¬ Rch g (fn ((eff (N g - 1) k).getD j []))) → (∃ d, d ∈ eff (N g - 1) k ∧ Rch g (fn d) ∧ impl_GonalDivisor_l2 g (k : Int) (eff (N g - 1) k) ((eff (N g - 1) k).length : Int) (i : Int) = some (d, true)) ∨ ((∀ e ∈ eff (N g - 1) k, ¬ Rch g (fn e)) ∧ impl_GonalDivisor_l2 g (k : Int) (eff (N g - 1) k) ((eff (N g - 1) k).length : Int) (i : Int) = impl_GonalDivisor_l0 g ((k + 1 : Nat) : Int)) := by
      intro k hk m
      have hEl := eff_len (N g - 1) k hk
      induction m with
      | zero =>
        intro i hi hf
        have : i = (eff (N g - 1) k).length := by omega
        subst this
        refine .inr ⟨fun e he => ?_, ?_⟩
        · obtain ⟨j, hj, e'⟩ := List.getElem_of_mem he
          have := hf j hj
          rw [getD_lt hj, e'] at this
          exact this
        · rw [impl_GonalDivisor_l2_eq, dec_lt_f, cond_false, w64_id (by omega) (by omega)]; rfl
      | succ m ih =>
        intro i hi hf
        have hi' : i < (eff (N g - 1) k).length := by omega
        have hm := getD_mem ([] : List Int) hi'
        obtain ⟨b, b1, b2⟩ := reachI hg (eff_Sd hg hk hm)
        rw [impl_GonalDivisor_l2_eq, dec_lt_t hi', cond_true, inside_lt hi', cond_true, toNat_n, b1, Option.bind_some, w64_succ hi' (by omega)]
        cases b with
        | true => exact .inl ⟨_, hm, b2.1 rfl, rfl⟩
        | false =>
          refine ih (i + 1) (by omega) fun j hj => ?_
          rcases Nat.lt_or_ge j i with q | q
          · exact hf j q
          · rw [show j = i by omega]
            intro k
            have := b2.2 k
            cases this
    have key : ∀ (m k : Nat), k + m = N g → 1 ≤ k → (∀ j, 1 ≤ j → j < k → ∀ e ∈ eff (N g - 1) j, ¬ Rch g (fn e)) → ∃ k' d, impl_GonalDivisor_l0 g (k : Int) = some (d, true) ∧ 1 ≤ k' ∧ k' ≤ N g ∧ d ∈ eff (N g - 1) k' ∧ Rch g (fn d) ∧ ∀ j, 1 ≤ j → j < k' → ∀ e ∈ eff (N g - 1) j, ¬ Rch g (fn e) := by
      intro m
      induction m with
      | zero =>
        intro k hk hk1 hf
        have : k = N g := by omega
        subst this
        rw [impl_GonalDivisor_l0_eq, show g.1 = ((N g - 1 : Nat) : Int) + 1 by omega, impl_eff (by omega) (N g) (by omega), Option.bind_some]
        rcases find (N g) (by omega) (eff (N g - 1) (N g)).length 0 (by omega) (fun j hj => by omega) with ⟨d, d1, d2, d3⟩ | ⟨h1, _⟩
        · exact ⟨N g, d, d3, by omega, Nat.le_refl _, d1, d2, hf⟩
        · exfalso
          have hm := ones_mem (N g - 1)
          rw [show N g - 1 + 1 = N g by omega] at hm
          refine h1 _ hm fun v hv => ⟨(List.range (N g)).map fun w => if w = v then fn (List.replicate (N g) 1) v - 1 else fn (List.replicate (N g) 1) w, by simp, fun u hu => ?_, fun _ => 0, fun u hu => ?_⟩
          · have hone : ∀ u, u < N g → fn (List.replicate (N g) 1) u = 1 := fun u hu => by
              unfold fn
              rw [List.getD_eq_getElem?_getD, List.getElem?_replicate]; simp [hu]
            rw [getD_range_map _ hu]
            show 0 ≤ (if u = v then fn (List.replicate (N g) 1) v - 1 else fn (List.replicate (N g) 1) u)
            rw [hone v hv, hone u hu]
            split <;> omega
          · rw [getD_range_map _ hu, lap_const hu (fun _ _ => rfl) (gE hg).1]
            show _ = (if u = v then fn (List.replicate (N g) 1) v - 1 else fn (List.replicate (N g) 1) u) - 0
            omega
      | succ m ih =>
        intro k hk hk1 hf
        rw [impl_GonalDivisor_l0_eq, show g.1 = ((N g - 1 : Nat) : Int) + 1 by omega, impl_eff (by omega) k (by omega), Option.bind_some]
        rcases find k (by omega) (eff (N g - 1) k).length 0 (by omega) (fun j hj => by omega) with ⟨d, d1, d2, d3⟩ | ⟨h1, h2⟩
        · exact ⟨k, d, d3, hk1, by omega, d1, d2, hf⟩
        · have h2' : impl_GonalDivisor_l2 g (k : Int) (eff (N g - 1) k) ((eff (N g - 1) k).length : Int) 0 = _ := h2
          rw [h2']
          refine ih (k + 1) (by omega) (by omega) fun j hj1 hj2 e he => ?_
          rcases Nat.lt_or_ge j k with q | q
          · exact hf j hj1 q e he
          · have : j = k := by omega
            subst this
            exact h1 e he
    exact key (N g - 1) 1 (by omega) (Nat.le_refl _) (fun j h1 h2 => by omega)
theorem sdok {g : Gr} (hg : GOk g) {d : List Int} (h : Sd g d) : DOk g d := by
  have hn := gN hg
  refine ⟨hg, by rw [h.1]; omega, fun j hj => ?_⟩
  have := h.2 _ (getD_mem 0 hj)
  omega
theorem eff_deg {g : Gr} (hg : GOk g) {k : Nat} {d : List Int} (h : d ∈ eff (N g - 1) k) : sm (N g) (fn d) = (k : Int) := by
  have hn := gN hg
  have h1 := (eff_mem h).1
  have := sm_list d
  rw [show d.length = N g by omega, eff_sum h] at this
  exact this
theorem hasI {g : Gr} (hg : GOk g) {k : Nat} (hk : k ≤ 7) {d : List Int} (h : d ∈ eff (N g - 1) k) : ∃ (r : Nat) (w : List Int), impl_HasRank g d 1 = some (decide (2 ≤ r)) ∧ RK g (fn d) r w ∧ r ≤ k + 1 ∧ (2 ≤ r ↔ Rch g (fn d)) := by
  have hs := eff_Sd hg (by omega) h
  have hd := eff_deg hg h
  obtain ⟨r, w, r1, r2, r3⟩ := rankI (sdok hg hs) (by omega)
  refine ⟨r, w, ?_, r2, by omega, rch_iff hg (fun v hv => (hs.vec.2 v hv).1) r2⟩
  rw [impl_HasRank_eq, r1]
  simp only [Option.bind_some, cond_true]
  congr 1
  rw [decide_eq_decide]
  omega
theorem law_Gonal {l : List Int} : laws_FnGonal l = some true := by
  rw [laws_FnGonal_eq]
  by_cases c0 : (l.length : Int) > 1048576
  · rw [decide_eq_true c0]; rfl
  rw [decide_eq_false c0, cond_false]
  obtain ⟨g, g1, g2, g3, g4⟩ := small_p (l := l) (by omega)
  have hn := gN g2
  have h12 := g2.1.2.1
  have hgd : gnI g = (g.2.length : Int) - (N g : Int) + 1 := rfl
  have hg0 := gn_pos g2
  rw [g1, Option.bind_some, impl_GonalityOf_eq]
  rcases gonalI g2 (by omega) with ⟨a1, a2⟩ | ⟨a1, k, d, b1, b2, b3, b4, b5, b6⟩
  · rw [a2]
    simp only [Option.bind_some, Bool.not_false, cond_true, genusI g2]
    rw [decide_eq_true a1]; rfl
  · have hs := eff_Sd g2 (k := k) (by omega) b4
    have hdg := eff_deg g2 b4
    have hdeg : impl_DegreeOf d = some (k : Int) := by
      rw [← hdg]
      exact degI g2 hs.vec.1 (fun v hv => by have := hs.vec.2 v hv; unfold fn; omega)
    obtain ⟨r, w, r1, r2, r3, r4⟩ := hasI g2 (k := k) (by omega) b4
    have hr2 := r4.2 b5
    obtain ⟨eb, eb1, eb2⟩ := isEff_p (d := d) (by rw [hs.1]; omega)
    have heb : eb = true := eb2.2 fun v hv => (hs.2 _ (getD_mem 0 hv)).1
    subst heb
    have small : (k : Int) ≤ gnI g + 1 := by
      refine Int.not_lt.1 fun hc => ?_
      obtain ⟨j, hj⟩ : ∃ j : Nat, gnI g + 1 = (j : Int) := ⟨(gnI g + 1).toNat, by omega⟩
      obtain ⟨e, he⟩ := eff_nonempty (N g - 1) j
      have hes := eff_Sd g2 (k := j) (by omega) he
      have hed := eff_deg g2 he
      obtain ⟨r', w', q1, q2, q3, q4⟩ := hasI g2 (k := j) (by omega) he
      obtain ⟨r'', w'', s1, s2, s3⟩ := rrI g2 (D := fn e) (fun v hv => by have := hes.vec.2 v hv; unfold fn; omega) (by omega) (by omega) q2 (by omega)
      exact b6 j (by omega) (by omega) e he (q4.1 (by omega))
    have tree : (k : Int) = 1 ↔ gnI g = 0 := by
      constructor
      · intro hk
        obtain ⟨r'', w'', s1, s2, s3⟩ := rrI g2 (D := fn d) (fun v hv => by have := hs.vec.2 v hv; unfold fn; omega) (by omega) (by omega) r2 (by omega)
        rcases Int.lt_or_le 0 (gnI g) with c | c
        · exfalso
          have := cliff_add g2 (D1 := fn d) (D2 := fun v => Kn g v - fn d v) (fun v hv => by omega) r2 s1 (by omega) (by omega)
          omega
        · omega
      · intro h; omega
    have hyp : impl_IsHyperelliptic g = some (decide ((k : Int) = 2 ∧ 2 ≤ gnI g)) := by
      rw [impl_IsHyperelliptic_eq, impl_GonalityOf_eq, b1]
      simp only [Option.bind_some, Bool.not_true, cond_false, hdeg, cond_true]
      by_cases c : (k : Int) = 2
      · rw [beq_t c, cond_true, genusI g2, Option.bind_some, within_p, Option.bind_some]
        congr 1
        rw [decide_eq_decide]; omega
      · rw [beq_f c, decide_eq_false (fun h => c h.1)]; rfl
    rw [b1]
    simp only [Option.bind_some, Bool.not_true, cond_false, hdeg, genusI g2]
    rw [decide_eq_false (by omega), cond_false, decide_eq_false (by omega), cond_false, eq_f rfl, cond_false, eb1, Option.bind_some, Bool.not_true, cond_false, r1, Option.bind_some, decide_eq_true hr2, Bool.not_true, cond_false, laws_FnGonal_c10_eq]
    have hE : spec_MakeAll g.1 (w64 ((k : Int) - 1)) = some (eff (N g - 1) (k - 1)) := by
      have := spec_eff (n := N g - 1) (by omega) (k - 1) (by omega)
      rw [show ((N g - 1 : Nat) : Int) + 1 = g.1 by omega, show ((k - 1 : Nat) : Int) = (k : Int) - 1 by omega] at this
      rw [w64_id (by omega) (by omega), spec_MakeAll_eq, in_p, Option.bind_some, decide_eq_true (by omega), Bool.not_true, cond_false, decide_eq_false (by omega), cond_false, this]; rfl
    have hEl := eff_len (N g - 1) (k - 1) (by omega)
    have h3 : 10 ^ (N g - 1) ≤ 10 ^ 5 := Nat.pow_le_pow_right (by omega) (by omega)
    rw [hE, Option.bind_some]
    have loop : ∀ (m i : Nat), i + m = (eff (N g - 1) (k - 1)).length → laws_FnGonal_l0 g (k : Int) (eff (N g - 1) (k - 1)) ((eff (N g - 1) (k - 1)).length : Int) (i : Int) = some true := by
      intro m
      induction m with
      | zero =>
        intro i hi
        have : i = (eff (N g - 1) (k - 1)).length := by omega
        subst this
        rw [laws_FnGonal_l0_eq, dec_lt_f, cond_false, genusI g2, Option.bind_some, hyp, Option.bind_some]
        have e1 : (((k : Int) == 1) == (gnI g == 0)) = true := by
          rw [beq_iff_eq, Bool.eq_iff_iff, beq_iff_eq, beq_iff_eq]; exact tree
        rw [e1, cond_true]
        simp only [Option.bind_some]
        rw [w64_id (n := gnI g + 1) (by omega) (by omega), decide_eq_true small]
        by_cases c : (k : Int) = 2
        · rw [beq_t c, cond_true]
          have e2 : (decide ((k : Int) = 2 ∧ 2 ≤ gnI g) == decide (gnI g ≥ 2)) = true := by
            rw [beq_iff_eq, decide_eq_decide]; omega
          rw [e2, cond_true]
        · rw [beq_f c, cond_false, decide_eq_false (fun h => c h.1)]; rfl
      | succ m ih =>
        intro i hi
        have hi' : i < (eff (N g - 1) (k - 1)).length := by omega
        have hm := getD_mem ([] : List Int) hi'
        obtain ⟨r', w', q1, q2, q3, q4⟩ := hasI g2 (k := k - 1) (by omega) hm
        have hno : ¬ 2 ≤ r' := fun c => by
          rcases Nat.eq_zero_or_pos (k - 1) with z | z
          · omega
          · exact b6 (k - 1) z (by omega) _ hm (q4.1 c)
        rw [laws_FnGonal_l0_eq, dec_lt_t hi', cond_true, inside_lt hi', cond_true, toNat_n, q1, Option.bind_some, decide_eq_false hno, cond_false, w64_succ hi' (by omega)]
        exact ih (i + 1) (by omega)
    exact loop (eff (N g - 1) (k - 1)).length 0 (by omega)
end Go.Proofs.YtfpccehboifkbaaDoor.D

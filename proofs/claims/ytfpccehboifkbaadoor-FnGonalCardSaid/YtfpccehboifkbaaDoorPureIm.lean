/-
  The program's functions alone: ranks, gaps, gonality.
-/
import Derived.Test.YtfpccehboifkbaaDoorPureGf
import Derived.Test.YtfpccehboifkbaaDoorPureRr
namespace Go.Proofs.YtfpccehboifkbaaDoor.D
open Go Go.Den
set_option linter.unusedVariables false
set_option linter.unusedSimpArgs false
def gnI (g : Gr) : Int := (g.2.length : Int) - (N g : Int) + 1
theorem okI {g : Gr} (hg : GOk g) : impl_GraphOk g = some true := by
  have h12 := hg.1.2.1
  obtain ⟨b, p1, p2, p3⟩ := graphOk_p (g := g) (by omega)
  rw [p2, p3.2 hg]
theorem genusI {g : Gr} (hg : GOk g) : impl_GenusOf g = some (gnI g) := by
  have hn := gN hg
  have h12 := hg.1.2.1
  rw [impl_GenusOf_eq, okI hg]
  simp only [Option.bind_some, Bool.not_true, cond_false]
  rw [w64_id (n := (g.2.length : Int) - g.1) (by omega) (by omega), w64_id (by omega) (by omega)]
  unfold gnI
  rw [hn.1]
theorem vecI {g : Gr} {d : List Int} (h : DOk g d) : vec (N g) d (fn d) ∧ Bd (N g) 60 (fn d) := h.vec
theorem dokI {g : Gr} {d : List Int} (h : DOk g d) : impl_DivisorOk g d = some true := by
  have hn := gN h.1
  rw [impl_DivisorOk_eq, okI h.1, Option.bind_some, cond_true, beq_t h.2.1, cond_true]
  obtain ⟨b, q1, q2⟩ := allWithin_p (l := d) (lo := -60) (hi := 60) (by rw [h.vec.1.1]; omega)
  rw [q1, q2.2 h.2.2]; rfl
theorem degI {g : Gr} (hg : GOk g) {x : List Int} {f : Nat → Int} (hx : vec (N g) x f) (hb : Bd (N g) 900 f) : impl_DegreeOf x = some (sm (N g) f) := by
  have hn := gN hg
  have hs := sum_i (d := x) (by rw [hx.1]; omega) (fun k hk => by
    rw [hx.1] at hk
    rw [hx.2 k hk]
    have := hb k hk
    omega)
  rw [impl_DegreeOf_eq, hs, hx.1]
  simp only [Option.bind_some]
  rw [sm_congr fun v hv => hx.2 v hv]
theorem rankI {g : Gr} {d : List Int} (h : DOk g d) (h7 : sm (N g) (fn d) ≤ 7) : ∃ (k : Nat) (w : List Int), impl_RankOf g d = some ((k : Int) - 1, true) ∧ RK g (fn d) k w ∧ k ≤ (sm (N g) (fn d) + 1).toNat := by
  obtain ⟨h1, h2⟩ := h.vec
  obtain ⟨r, w, r1, r3, r4⟩ := rank_i h.1 h1 (h2.mono (by omega)) (by omega)
  refine ⟨r, w, ?_, r3, r4⟩
  rw [impl_RankOf_eq, dokI h, Option.bind_some, Bool.not_true, cond_false, degI h.1 h1 (h2.mono (by omega)), Option.bind_some, decide_eq_false (by omega), cond_false, r1]; rfl
theorem winI {g : Gr} (hg : GOk g) {d : List Int} {D : Nat → Int} (hd : vec (N g) d D) (hD : Bd (N g) 1000 D) : ∃ b, impl_winnable g d = some b ∧ (b = true ↔ Win g D) := by
  have hn := gN hg
  obtain ⟨x, y, O, S, h1, h3⟩ := reduce_i (q := 0) hg (by omega) hd hD
  have hs := sum_i (d := d) (by rw [hd.1]; omega) (fun k hk => by
    rw [hd.1] at hk
    rw [hd.2 k hk]
    have := hD k hk
    omega)
  have hsD : sm d.length (fun w => d.getD w 0) = sm (N g) D := by
    rw [hd.1]
    exact sm_congr fun v hv => hd.2 v hv
  have e1 : impl_reduce g d 0 = some (x, y) := h1
  rw [impl_winnable_eq, hs, Option.bind_some, hsD]
  by_cases c : sm (N g) D < 0
  · rw [decide_eq_true c]
    exact ⟨false, rfl, ⟨fun k => (by cases k), fun k => (by have := k.deg hg; omega)⟩⟩
  · rw [decide_eq_false c, cond_false, e1, Option.bind_some]
    simp only
    rw [show inside 0 x.length = true from inside_lt (k := 0) (by rw [h3.vx.1]; omega), cond_true, h3.vx.2 0 (by omega)]
    refine ⟨_, rfl, ?_⟩
    rw [decide_eq_true_iff]
    exact ⟨fun h => ⟨x, h3.in hg (by omega) h⟩, fun ⟨r, hr⟩ => h3.cl hg (by omega) hr⟩
/-! ### ranks, plainly -/
theorem zerosI {g : Gr} (hg : GOk g) : List.replicate (N g) (0 : Int) ∈ eff (N g - 1) 0 := by
  have hn := gN hg
  refine eff_in (by rw [List.length_replicate]; omega) (fun x hx => by rw [(List.mem_replicate.1 hx).2]; exact Int.le_refl _) ?_
  have : ∀ n : Nat, (List.replicate n (0 : Int)).sum = 0 := fun n => by
    induction n with
    | zero => rfl
    | succ n ih => rw [List.replicate_succ, List.sum_cons, ih]; rfl
  rw [this]; rfl
theorem rk_ex {g : Gr} (hg : GOk g) (D : Nat → Int) : ∃ r w, RK g D r w ∧ r ≤ (sm (N g) D + 1).toNat := by
  have key : ∀ (m k : Nat), k + m = (sm (N g) D + 1).toNat → (∀ k', k' < k → ∀ e ∈ eff (N g - 1) k', Win g (Mi D e)) → ∃ r w, RK g D r w ∧ r ≤ (sm (N g) D + 1).toNat := by
    intro m
    induction m with
    | zero =>
      intro k hk hup
      obtain ⟨e, he⟩ := eff_nonempty (N g - 1) k
      have hbad : ∃ w, (eff (N g - 1) k).find? (bad g D) = some w := by
        rw [← Option.isSome_iff_exists, List.find?_isSome]
        refine ⟨e, he, bad_t.2 fun c => ?_⟩
        have h1 := c.deg hg
        have h2 := eff_sum he
        have hn := gN hg
        rw [Mi_sum (by have := (eff_mem he).1; omega), h2] at h1
        omega
      obtain ⟨w, hw⟩ := hbad
      exact ⟨k, w, ⟨hup, hw⟩, by omega⟩
    | succ m ih =>
      intro k hk hup
      cases hw : (eff (N g - 1) k).find? (bad g D) with
      | some w => exact ⟨k, w, ⟨hup, hw⟩, by omega⟩
      | none =>
        refine ih (k + 1) (by omega) fun k' hk' e he => ?_
        rcases Nat.lt_or_ge k' k with q | q
        · exact hup k' q e he
        · have : k' = k := by omega
          subst this
          have := List.find?_eq_none.1 hw e he
          exact bad_f.1 (by simpa using this)
  exact key (sm (N g) D + 1).toNat 0 (by omega) (fun k' h => by omega)
/-- Riemann's part: of small degree, with the rank of the rest -/
theorem rrI {g : Gr} (hg : GOk g) {D : Nat → Int} (hB : Bd (N g) 100 D) (h8 : sm (N g) D ≤ 8) (h8' : 2 * (g.2.length : Int) - 2 * (N g : Int) - sm (N g) D ≤ 8) {r : Nat} {w : List Int} (h : RK g D r w) (hr : r ≤ 9) : ∃ r' w', RK g (fun v => Kn g v - D v) r' w' ∧ r' ≤ (2 * (g.2.length : Int) - 2 * (N g : Int) - sm (N g) D + 1).toNat ∧ (r : Int) - (r' : Int) = sm (N g) D + 1 - gnI g := by
  obtain ⟨gE1, gE2, gE3⟩ := gE hg
  obtain ⟨r', w', h1, h2⟩ := rk_ex hg (fun v => Kn g v - D v)
  have hs : sm (N g) (fun v => Kn g v - D v) = 2 * (g.2.length : Int) - 2 * (N g : Int) - sm (N g) D := by
    rw [sm_sub, canon_deg hg]
  rw [hs] at h2
  refine ⟨r', w', h1, h2, ?_⟩
  have := rr hg (D1 := D) (D2 := fun v => Kn g v - D v) (fun v hv => by omega) (hB.mono (by omega)) (fun v hv => by
    have a1 := val_bd v (Eg g)
    have a2 := hB v hv
    show -900 ≤ Kn g v - D v ∧ Kn g v - D v ≤ 900
    unfold Kn; omega) h h1 hr (by omega)
  unfold gnI
  omega
theorem oneI {g : Gr} (hg : GOk g) {v : Nat} (hv : v < N g) (k : Int) : impl_oneAt g (v : Int) k = some ((List.replicate (N g) (0 : Int)).set v k) := oneAt_k hg hv k
theorem ranksI {g : Gr} (hg : GOk g) {v : Nat} (hv : v < N g) : ∃ x, impl_RanksAt g (v : Int) = some (x, true) ∧ x.length = 8 ∧ ∀ k : Nat, k < 8 → ∃ (r : Nat) (w : List Int), x.getD k 0 = (r : Int) - 1 ∧ RK g (at1 v k) r w ∧ r ≤ k + 1 := by
  have hn := gN hg
  rw [impl_RanksAt_eq, impl_isVertex_eq, okI hg, Option.bind_some, cond_true, within_p, w64_id (by omega) (by omega), Option.bind_some, decide_eq_true (by omega), Option.bind_some, Bool.not_true, cond_false]
  have key : ∀ (m k : Nat) (s : List Int), k + m = 8 → s.length = k → (∀ j, j < k → ∃ (r : Nat) (w : List Int), s.getD j 0 = (r : Int) - 1 ∧ RK g (at1 v j) r w ∧ r ≤ j + 1) → ∃ x, impl_RanksAt_l0 (v : Int) g s (k : Int) = some (x, true) ∧ x.length = 8 ∧ ∀ j, j < 8 → ∃ (r : Nat) (w : List Int), x.getD j 0 = (r : Int) - 1 ∧ RK g (at1 v j) r w ∧ r ≤ j + 1 := by
    intro m
    induction m with
    | zero =>
      intro k s hk hs hr
      rw [impl_RanksAt_l0_eq, decide_eq_false (by omega)]
      exact ⟨s, rfl, by omega, fun j hj => hr j (by omega)⟩
    | succ m ih =>
      intro k s hk hs hr
      obtain ⟨q, w, q1, q3, q4⟩ := rank_i hg (at1_vec hv (k : Int)) ((at1_bd (by omega)).mono (by omega)) (by rw [at1_sum hv]; omega)
      rw [at1_sum hv] at q4
      rw [impl_RanksAt_l0_eq, decide_eq_true (by omega), cond_true, oneAt_k hg hv]
      simp only [Option.bind_some, q1]
      rw [decide_eq_true (by rw [room]; simp only [List.length_singleton]; omega), cond_true, w64_id (by omega) (by omega)]
      refine ih (k + 1) _ (by omega) (by rw [List.length_append, hs]; rfl) fun j hj => ?_
      rcases Nat.lt_or_ge j k with c | c
      · rw [getD_appL (by omega)]; exact hr j c
      · have : j = k := by omega
        subst this
        refine ⟨q, w, ?_, q3, by omega⟩
        rw [List.getD_eq_getElem?_getD, List.getElem?_append_right (by omega), hs, Nat.sub_self]; rfl
  exact key 8 0 [] rfl rfl (fun j hj => by omega)
/-! ### gaps -/
/-- the gaps up to a number -/
def gaps (x : List Int) : Nat → List Int
  | 0 => []
  | k + 1 => if x.getD (k + 1) 0 = x.getD k 0 then gaps x k ++ [((k + 1 : Nat) : Int)] else gaps x k
theorem gaps_len (x : List Int) (h : ∀ k, x.getD (k + 1) 0 = x.getD k 0 ∨ x.getD (k + 1) 0 = x.getD k 0 + 1 ∨ 8 ≤ k + 1) : ∀ k, k < 8 → ((gaps x k).length : Int) = (k : Int) - (x.getD k 0 - x.getD 0 0)
  | 0, _ => by simp [gaps]
  | k + 1, hk => by
    have ih := gaps_len x h k (by omega)
    rw [gaps]
    rcases h k with c | c | c
    · rw [if_pos c, List.length_append, c]
      simp only [List.length_singleton]
      omega
    · rw [if_neg (by omega), c]; omega
    · omega
theorem gaps_mem (x : List Int) : ∀ {k : Nat} {n : Int}, n ∈ gaps x k → ∃ j : Nat, n = ((j + 1 : Nat) : Int) ∧ j + 1 ≤ k ∧ x.getD (j + 1) 0 = x.getD j 0
  | 0, n, h => by cases h
  | k + 1, n, h => by
    rw [gaps] at h
    split at h
    · rename_i c
      rcases List.mem_append.1 h with h | h
      · obtain ⟨j, h1, h2, h3⟩ := gaps_mem x h
        exact ⟨j, h1, by omega, h3⟩
      · exact ⟨k, List.mem_singleton.1 h, Nat.le_refl _, c⟩
    · obtain ⟨j, h1, h2, h3⟩ := gaps_mem x h
      exact ⟨j, h1, by omega, h3⟩
theorem gaps_srt (x : List Int) : ∀ k, (gaps x k).Pairwise (· < ·)
  | 0 => List.Pairwise.nil
  | k + 1 => by
    rw [gaps]
    split
    · rw [List.pairwise_append]
      refine ⟨gaps_srt x k, List.pairwise_singleton _ _, fun a ha b hb => ?_⟩
      obtain ⟨j, h1, h2, _⟩ := gaps_mem x ha
      rw [List.mem_singleton.1 hb, h1]; omega
    · exact gaps_srt x k
theorem gaps_le (x : List Int) (k : Nat) : (gaps x k).length ≤ k := by
  induction k with
  | zero => exact Nat.le_refl _
  | succ k ih =>
    rw [gaps]
    split
    · rw [List.length_append]; simp only [List.length_singleton]; omega
    · omega
theorem gapsI {g : Gr} (hg : GOk g) {v : Nat} (hv : v < N g) {x : List Int} (hx : impl_RanksAt g (v : Int) = some (x, true)) (hl : x.length = 8) : impl_GapsAt g (v : Int) = some (if gnI g > 3 then ([], false) else (gaps x (2 * gnI g).toNat, true)) := by
  have hn := gN hg
  have h12 := hg.1.2.1
  rw [impl_GapsAt_eq, impl_isVertex_eq, okI hg, Option.bind_some, cond_true, within_p, w64_id (by omega) (by omega), Option.bind_some, decide_eq_true (by omega), Option.bind_some, Bool.not_true, cond_false, genusI hg, Option.bind_some]
  by_cases c : gnI g > 3
  · rw [decide_eq_true c, if_pos c]; rfl
  · rw [decide_eq_false c, if_neg c, cond_false, hx, Option.bind_some]
    have hgn : -6 ≤ gnI g := by unfold gnI; omega
    have key : ∀ (m k : Nat), k + m = (2 * gnI g).toNat → impl_GapsAt_l0 g x (gaps x k) (((k + 1 : Nat) : Nat) : Int) = some (gaps x (2 * gnI g).toNat, true) := by
      intro m
      induction m with
      | zero =>
        intro k hk
        have : k = (2 * gnI g).toNat := by omega
        rw [impl_GapsAt_l0_eq, genusI hg, Option.bind_some, w64_id (n := 2 * gnI g) (by omega) (by omega), decide_eq_false (by omega), this]; rfl
      | succ m ih =>
        intro k hk
        have hlen := gaps_le x k
        have next := ih (k + 1) (by omega)
        rw [impl_GapsAt_l0_eq, genusI hg, Option.bind_some, w64_id (n := 2 * gnI g) (by omega) (by omega), decide_eq_true (by omega), cond_true, inside_lt (by omega), cond_true, w64_id (n := ((k + 1 : Nat) : Int) - 1) (by omega) (by omega), show ((k + 1 : Nat) : Int) - 1 = (k : Int) by omega, inside_lt (by omega), cond_true, toNat_n, toNat_n, w64_id (n := ((k + 1 : Nat) : Int) + 1) (by omega) (by omega), show ((k + 1 : Nat) : Int) + 1 = ((k + 1 + 1 : Nat) : Int) by omega]
        by_cases e : x.getD (k + 1) 0 = x.getD k 0
        · rw [beq_t e, cond_true, decide_eq_true (by rw [room]; simp only [List.length_singleton]; omega), cond_true]
          rw [gaps, if_pos e] at next
          exact next
        · rw [beq_f e, cond_false]
          rw [gaps, if_neg e] at next
          exact next
    exact key (2 * gnI g).toNat 0 (by omega)
/-- one more chip at the vertex -/
theorem RK.stepI {g : Gr} (hg : GOk g) {v : Nat} (hv : v < N g) {k : Nat} {r r' : Nat} {w w' : List Int} (h : RK g (at1 v k) r w) (h' : RK g (at1 v ((k + 1 : Nat) : Int)) r' w') : r' = r ∨ r' = r + 1 := by
  have hn := gN hg
  have a1 : r ≤ r' := by
    rcases Nat.lt_or_ge r' r with c | c
    · exfalso
      refine h'.bad ?_
      obtain ⟨q, q1, q2, S, q3⟩ := h.up r' c w' h'.mem
      refine ⟨(List.range (N g)).map fun u => q.getD u 0 + if u = v then 1 else 0, by simp, fun u hu => ?_, S, fun u hu => ?_⟩
      · rw [getD_range_map _ hu]
        have := q2 u hu
        split <;> omega
      · rw [getD_range_map _ hu, q3 u hu]
        unfold Mi at1
        split <;> omega
    · exact c
  have a2 : r' ≤ r + 1 := by
    rcases Nat.lt_or_ge (r + 1) r' with c | c
    · exfalso
      refine h.bad ?_
      have hw := eff_mem h.mem
      have hs := eff_sum h.mem
      have hl : w.length = N g := by omega
      have hin : w.set v (w.getD v 0 + 1) ∈ eff (N g - 1) (r + 1) := by
        refine eff_in (by rw [List.length_set, hw.1]) (fun x hx => ?_) ?_
        · obtain ⟨j, hj, e⟩ := mem_getD hx
          rw [List.length_set] at hj
          rw [← e, getD_set (by omega)]
          have := hw.2 _ (getD_mem 0 hj)
          have := hw.2 _ (getD_mem 0 (show v < w.length by omega))
          split <;> omega
        · have b1 := sm_list (w.set v (w.getD v 0 + 1))
          have b2 := sm_list w
          rw [List.length_set] at b1
          have e : sm w.length (fun u => (w.set v (w.getD v 0 + 1)).getD u 0) = sm w.length (fun u => w.getD u 0 + if u = v then 1 else 0) := sm_congr fun u _ => by
            rw [getD_set (by omega)]
            by_cases c : u = v
            · rw [if_pos c, if_pos c, c]
            · rw [if_neg c, if_neg c]; omega
          rw [e, sm_add, sm_one, if_pos (show v < w.length by omega)] at b1
          omega
      refine (h'.up (r + 1) c _ hin).congr fun u hu => ?_
      unfold Mi at1
      rw [getD_set (by omega)]
      by_cases c : u = v
      · rw [if_pos c, if_pos c, if_pos c, c]; omega
      · rw [if_neg c, if_neg c, if_neg c]
    · exact c
  omega
theorem law_Gaps {l : List Int} : laws_FnGaps l = some true := by
  rw [laws_FnGaps_eq]
  by_cases c0 : (l.length : Int) > 1048576
  · rw [decide_eq_true c0]; rfl
  rw [decide_eq_false c0, cond_false]
  obtain ⟨g, g1, g2, g3, g4⟩ := small_p (l := l) (by omega)
  obtain ⟨num, n1, n2, n3⟩ := num_p (l := l) (by omega) (n := 60) (by omega)
  have n1' : spec_MakeNum l 60 = some num := n1
  have hn := gN g2
  have h12 := g2.1.2.1
  obtain ⟨v, hv⟩ : ∃ v : Nat, Int.tmod num g.1 = (v : Int) := ⟨(Int.tmod num g.1).toNat, by have := Int.tmod_nonneg g.1 n2; omega⟩
  have hvN : v < N g := by have := Int.tmod_lt_of_pos num (show 0 < g.1 by omega); omega
  obtain ⟨x, x1, x2, x3⟩ := ranksI g2 hvN
  -- the ranks
  have step : ∀ k, x.getD (k + 1) 0 = x.getD k 0 ∨ x.getD (k + 1) 0 = x.getD k 0 + 1 ∨ 8 ≤ k + 1 := fun k => by
    rcases Nat.lt_or_ge (k + 1) 8 with c | c
    · obtain ⟨r, w, a1, a2, _⟩ := x3 k (by omega)
      obtain ⟨r', w', b1, b2, _⟩ := x3 (k + 1) c
      rcases a2.stepI g2 hvN b2 with e | e
      · left; omega
      · right; left; omega
    · exact .inr (.inr c)
  have first : x.getD 0 0 = 0 := by
    obtain ⟨r, w, a1, a2, a3⟩ := x3 0 (by omega)
    have : 1 ≤ r := by
      rcases Nat.eq_zero_or_pos r with c | c
      · subst c
        exfalso
        refine a2.bad ⟨List.replicate (N g) 0, by simp, fun u hu => by rw [(vec.zero (N g)).2 u hu]; exact Int.le_refl _, fun _ => 0, fun u hu => ?_⟩
        obtain ⟨h1, h2⟩ := eff_mem a2.mem
        have := h2 _ (getD_mem 0 (show u < w.length by omega))
        have hz : (List.replicate (N g) (0 : Int)).getD u 0 = 0 := (vec.zero (N g)).2 u hu
        rw [hz, lap_const hu (fun _ _ => rfl) (gE g2).1]
        unfold Mi at1
        split <;> omega
      · exact c
    omega
  have high : ∀ k : Nat, k < 8 → 2 * gnI g - 1 ≤ (k : Int) → x.getD k 0 = (k : Int) - gnI g := fun k hk hge => by
    obtain ⟨r, w, a1, a2, a3⟩ := x3 k hk
    have hs := at1_sum hvN (k : Int)
    have hgd : gnI g = (g.2.length : Int) - (N g : Int) + 1 := rfl
    obtain ⟨r', w', b1, b2, b3⟩ := rrI g2 (D := at1 v k) ((at1_bd (by omega)).mono (by omega)) (by omega) (by omega) a2 (by omega)
    omega
  rw [g1, Option.bind_some, n1', Option.bind_some, decide_eq_false (by omega), cond_false, hv, x1, Option.bind_some]
  simp only [Bool.not_true, cond_false]
  rw [eq_f (show (x.length : Int) = 8 by omega), cond_false, show inside 0 x.length = true from inside_lt (k := 0) (by omega), cond_true, eq_f first, cond_false]
  have loop : ∀ (m k : Nat), k + m = 8 → 1 ≤ k → laws_FnGaps_l0 g (v : Int) x (k : Int) = laws_FnGaps_l0 g (v : Int) x (8 : Int) := by
    intro m
    induction m with
    | zero => intro k hk hk1; rw [show k = 8 by omega]; rfl
    | succ m ih =>
      intro k hk hk1
      have next := ih (k + 1) (by omega) (by omega)
      have hs := step (k - 1)
      rw [show k - 1 + 1 = k by omega] at hs
      rw [laws_FnGaps_l0_eq, decide_eq_true (by omega), cond_true, inside_lt (by omega), cond_true, w64_id (n := (k : Int) - 1) (by omega) (by omega), show (k : Int) - 1 = ((k - 1 : Nat) : Int) by omega, inside_lt (by omega), cond_true, toNat_n, toNat_n, w64_id (n := (k : Int) + 1) (by omega) (by omega)]
      by_cases c : x.getD k 0 = x.getD (k - 1) 0
      · rw [eq_f c, cond_false]; exact next
      · have e : x.getD k 0 = x.getD (k - 1) 0 + 1 := by omega
        have hb : -10 ≤ x.getD (k - 1) 0 ∧ x.getD (k - 1) 0 ≤ 10 := by
          obtain ⟨r, w, a1, a2, a3⟩ := x3 (k - 1) (by omega)
          omega
        rw [ne_t c]
        simp only [cond_true]
        rw [w64_id (n := x.getD (k - 1) 0 + 1) (by omega) (by omega), eq_f e, cond_false]
        exact next
  have hl1 : laws_FnGaps_l0 g (v : Int) x 1 = _ := loop 7 1 rfl (Nat.le_refl _)
  have hG := gapsI g2 hvN x1 x2
  rw [hl1, laws_FnGaps_l0_eq, decide_eq_false (by omega), cond_false, hG, Option.bind_some, genusI g2, Option.bind_some]
  have hgd : gnI g = (g.2.length : Int) - (N g : Int) + 1 := rfl
  by_cases c : gnI g > 3
  · rw [decide_eq_true c, if_pos c]; rfl
  · rw [decide_eq_false c, if_neg c]
    simp only [cond_false, Bool.not_true]
    -- the genus is not negative
    have hg0 : 0 ≤ gnI g := by
      refine Int.not_lt.1 fun h => ?_
      have h0 := high 0 (by omega) (by omega)
      rw [first] at h0
      omega
    have hlen : ((gaps x (2 * gnI g).toNat).length : Int) = gnI g := by
      have h1 := gaps_len x step (2 * gnI g).toNat (by omega)
      have h2 := high (2 * gnI g).toNat (by omega) (by omega)
      omega
    rw [eq_f hlen, cond_false]
    have inner : ∀ (m i : Nat), i + m = (gaps x (2 * gnI g).toNat).length → laws_FnGaps_l2 g (v : Int) x (gaps x (2 * gnI g).toNat) (gnI g) ((gaps x (2 * gnI g).toNat).length : Int) (i : Int) = laws_FnGaps_l2 g (v : Int) x (gaps x (2 * gnI g).toNat) (gnI g) ((gaps x (2 * gnI g).toNat).length : Int) ((gaps x (2 * gnI g).toNat).length : Int) := by
      intro m
      induction m with
      | zero => intro i hi; rw [show i = (gaps x (2 * gnI g).toNat).length by omega]
      | succ m ih =>
        intro i hi
        have next := ih (i + 1) (by omega)
        have hi' : i < (gaps x (2 * gnI g).toNat).length := by omega
        obtain ⟨j, j1, j2, j3⟩ := gaps_mem x (getD_mem 0 hi')
        have hlast : ((j + 1 : Nat) : Int) ≤ 2 * gnI g - 1 := by
          rcases Int.lt_or_le (2 * gnI g - 1) ((j + 1 : Nat) : Int) with c | c
          · exfalso
            have h1 := high (j + 1) (by omega) (by omega)
            have h2 := high j (by omega) (by omega)
            omega
          · exact c
        rw [laws_FnGaps_l2_eq, dec_lt_t hi', cond_true, inside_lt hi', cond_true, toNat_n, j1, decide_eq_false (by omega), cond_false, w64_id (n := 2 * gnI g) (by omega) (by omega), w64_id (n := 2 * gnI g - 1) (by omega) (by omega), decide_eq_false (by omega), cond_false, w64_id (n := ((j + 1 : Nat) : Int) - 1) (by omega) (by omega), show ((j + 1 : Nat) : Int) - 1 = (j : Int) by omega, inside_lt (show j + 1 < x.length by omega), inside_lt (show j < x.length by omega), toNat_n, toNat_n, eq_f j3]
        simp only [cond_true, cond_false, laws_FnGaps_c24_eq, w64_succ hi' (show (gaps x (2 * gnI g).toNat).length ≤ 9223372036854775807 by omega)]
        rcases Nat.eq_zero_or_pos i with c | c
        · rw [decide_eq_false (by omega)]; exact next
        · have hs := (List.pairwise_iff_getElem.1 (gaps_srt x (2 * gnI g).toNat)) (i - 1) i (by omega) hi' (by omega)
          rw [← getD_lt (d := 0) (show i - 1 < (gaps x (2 * gnI g).toNat).length by omega), ← getD_lt (d := 0) hi', j1] at hs
          rw [decide_eq_true (by omega), cond_true, w64_id (n := (i : Int) - 1) (by omega) (by omega), show (i : Int) - 1 = ((i - 1 : Nat) : Int) by omega, inside_lt (by omega), cond_true, toNat_n, decide_eq_false (by omega), cond_false]
          exact next
    have hin : laws_FnGaps_l2 g (v : Int) x (gaps x (2 * gnI g).toNat) (gnI g) ((gaps x (2 * gnI g).toNat).length : Int) 0 = _ := inner (gaps x (2 * gnI g).toNat).length 0 (by omega)
    rw [hin, laws_FnGaps_l2_eq, dec_lt_f, cond_false, impl_IsWeierstrass_eq, hG, if_neg c]
    simp only [Option.bind_some, cond_true]
    by_cases c3 : gnI g > 0
    · rw [decide_eq_true c3, decide_eq_true (by omega), w64_id (n := ((gaps x (2 * gnI g).toNat).length : Int) - 1) (by omega) (by omega), show ((gaps x (2 * gnI g).toNat).length : Int) - 1 = (((gaps x (2 * gnI g).toNat).length - 1 : Nat) : Int) by omega, inside_lt (by omega), genusI g2]
      simp only [cond_true, Option.bind_some, beq_self_eq_true]
    · rw [decide_eq_false c3, decide_eq_false (by omega)]; rfl
end Go.Proofs.YtfpccehboifkbaaDoor.D

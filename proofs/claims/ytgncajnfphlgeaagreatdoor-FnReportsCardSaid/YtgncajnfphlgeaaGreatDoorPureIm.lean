/-
  The program's functions alone: ranks, gaps, gonality.
-/
import Derived.Test.YtgncajnfphlgeaaGreatDoorPureGf
import Derived.Test.YtgncajnfphlgeaaGreatDoorPureRr
namespace Go.Proofs.YtgncajnfphlgeaaGreatDoor.D
open Go Go.Den
set_option linter.unusedVariables false
set_option linter.unusedSimpArgs false
def gnI (g : Gr) : Int := (g.2.length : Int) - (N g : Int) + 1
theorem okI {g : Gr} (hg : GOk g) : impl_GraphOk g = some true := by
  have h12 := hg.1.2.1
  obtain ⟨b, p1, p2, p3⟩ := graphOk_p (g := g) (by omega)
  rw [p2, p3.2 hg]
theorem genusI {g : Gr} (hg : GOk g) : impl_GenusOf g = some (gnI g) := by
  have hn := gN hg
  have h12 := hg.1.2.1
  rw [impl_GenusOf_eq, okI hg]
  simp only [Option.bind_some, Bool.not_true, cond_false]
  rw [w64_id (n := (g.2.length : Int) - g.1) (by omega) (by omega), w64_id (by omega) (by omega)]
  unfold gnI
  rw [hn.1]
theorem vecI {g : Gr} {d : List Int} (h : DOk g d) : vec (N g) d (fn d) ∧ Bd (N g) 60 (fn d) := h.vec
theorem dokI {g : Gr} {d : List Int} (h : DOk g d) : impl_DivisorOk g d = some true := by
  have hn := gN h.1
  rw [impl_DivisorOk_eq, okI h.1, Option.bind_some, cond_true, beq_t h.2.1, cond_true]
  obtain ⟨b, q1, q2⟩ := allWithin_p (l := d) (lo := -60) (hi := 60) (by rw [h.vec.1.1]; omega)
  rw [q1, q2.2 h.2.2]; rfl
theorem degI {g : Gr} (hg : GOk g) {x : List Int} {f : Nat → Int} (hx : vec (N g) x f) (hb : Bd (N g) 900 f) : impl_DegreeOf x = some (sm (N g) f) := by
  have hn := gN hg
  have hs := sum_i (d := x) (by rw [hx.1]; omega) (fun k hk => by
    rw [hx.1] at hk
    rw [hx.2 k hk]
    have := hb k hk
    omega)
  rw [impl_DegreeOf_eq, hs, hx.1]
  simp only [Option.bind_some]
  rw [sm_congr fun v hv => hx.2 v hv]
theorem rankI {g : Gr} {d : List Int} (h : DOk g d) (h7 : sm (N g) (fn d) ≤ 7) : ∃ (k : Nat) (w : List Int), impl_RankOf g d = some ((k : Int) - 1, true) ∧ RK g (fn d) k w ∧ k ≤ (sm (N g) (fn d) + 1).toNat := by
  obtain ⟨h1, h2⟩ := h.vec
  obtain ⟨r, w, r1, r3, r4⟩ := rank_i h.1 h1 (h2.mono (by omega)) (by omega)
  refine ⟨r, w, ?_, r3, r4⟩
  rw [impl_RankOf_eq, dokI h, Option.bind_some, Bool.not_true, cond_false, degI h.1 h1 (h2.mono (by omega)), Option.bind_some, decide_eq_false (by omega), cond_false, r1]; rfl
theorem zerosI {g : Gr} (hg : GOk g) : List.replicate (N g) (0 : Int) ∈ eff (N g - 1) 0 := by
  have hn := gN hg
  refine eff_in (by rw [List.length_replicate]; omega) (fun x hx => by rw [(List.mem_replicate.1 hx).2]; exact Int.le_refl _) ?_
  have : ∀ n : Nat, (List.replicate n (0 : Int)).sum = 0 := fun n => by
    induction n with
    | zero => rfl
    | succ n ih => rw [List.replicate_succ, List.sum_cons, ih]; rfl
  rw [this]; rfl
theorem rk_ex {g : Gr} (hg : GOk g) (D : Nat → Int) : ∃ r w, RK g D r w ∧ r ≤ (sm (N g) D + 1).toNat := by
  have key : ∀ (m k : Nat), k + m = (sm (N g) D + 1).toNat → (∀ k', k' < k → ∀ e ∈ eff (N g - 1) k', Win g (Mi D e)) → ∃ r w, RK g D r w ∧ r ≤ (sm (N g) D + 1).toNat := by
    intro m
    induction m with
    | zero =>
      intro k hk hup
      obtain ⟨e, he⟩ := eff_nonempty (N g - 1) k
      have hbad : ∃ w, (eff (N g - 1) k).find? (bad g D) = some w := by
        rw [← Option.isSome_iff_exists, List.find?_isSome]
        refine ⟨e, he, bad_t.2 fun c => ?_⟩
        have h1 := c.deg hg
        have h2 := eff_sum he
        have hn := gN hg
        rw [Mi_sum (by have := (eff_mem he).1; omega), h2] at h1
        omega
      obtain ⟨w, hw⟩ := hbad
      exact ⟨k, w, ⟨hup, hw⟩, by omega⟩
    | succ m ih =>
      intro k hk hup
      cases hw : (eff (N g - 1) k).find? (bad g D) with
      | some w => exact ⟨k, w, ⟨hup, hw⟩, by omega⟩
      | none =>
        refine ih (k + 1) (by omega) fun k' hk' e he => ?_
        rcases Nat.lt_or_ge k' k with q | q
        · exact hup k' q e he
        · have : k' = k := by omega
          subst this
          have := List.find?_eq_none.1 hw e he
          exact bad_f.1 (by simpa using this)
  exact key (sm (N g) D + 1).toNat 0 (by omega) (fun k' h => by omega)
/-- Riemann's part: of small degree, with the rank of the rest -/
theorem rrI {g : Gr} (hg : GOk g) {D : Nat → Int} (hB : Bd (N g) 100 D) (h8 : sm (N g) D ≤ 8) (h8' : 2 * (g.2.length : Int) - 2 * (N g : Int) - sm (N g) D ≤ 8) {r : Nat} {w : List Int} (h : RK g D r w) (hr : r ≤ 9) : ∃ r' w', RK g (fun v => Kn g v - D v) r' w' ∧ r' ≤ (2 * (g.2.length : Int) - 2 * (N g : Int) - sm (N g) D + 1).toNat ∧ (r : Int) - (r' : Int) = sm (N g) D + 1 - gnI g := by
  obtain ⟨gE1, gE2, gE3⟩ := gE hg
  obtain ⟨r', w', h1, h2⟩ := rk_ex hg (fun v => Kn g v - D v)
  have hs : sm (N g) (fun v => Kn g v - D v) = 2 * (g.2.length : Int) - 2 * (N g : Int) - sm (N g) D := by
    rw [sm_sub, canon_deg hg]
  rw [hs] at h2
  refine ⟨r', w', h1, h2, ?_⟩
  have := rr hg (D1 := D) (D2 := fun v => Kn g v - D v) (fun v hv => by omega) (hB.mono (by omega)) (fun v hv => by
    have a1 := val_bd v (Eg g)
    have a2 := hB v hv
    show -900 ≤ Kn g v - D v ∧ Kn g v - D v ≤ 900
    unfold Kn; omega) h h1 hr (by omega)
  unfold gnI
  omega
/-- the gaps up to a number -/
def gaps (x : List Int) : Nat → List Int
  | 0 => []
  | k + 1 => if x.getD (k + 1) 0 = x.getD k 0 then gaps x k ++ [((k + 1 : Nat) : Int)] else gaps x k
theorem gaps_len (x : List Int) (h : ∀ k, x.getD (k + 1) 0 = x.getD k 0 ∨ x.getD (k + 1) 0 = x.getD k 0 + 1 ∨ 8 ≤ k + 1) : ∀ k, k < 8 → ((gaps x k).length : Int) = (k : Int) - (x.getD k 0 - x.getD 0 0)
  | 0, _ => by simp [gaps]
  | k + 1, hk => by
    have ih := gaps_len x h k (by omega)
    rw [gaps]
    rcases h k with c | c | c
    · rw [if_pos c, List.length_append, c]
      simp only [List.length_singleton]
      omega
    · rw [if_neg (by omega), c]; omega
    · omega
theorem gaps_mem (x : List Int) : ∀ {k : Nat} {n : Int}, n ∈ gaps x k → ∃ j : Nat, n = ((j + 1 : Nat) : Int) ∧ j + 1 ≤ k ∧ x.getD (j + 1) 0 = x.getD j 0
  | 0, n, h => by cases h
  | k + 1, n, h => by
    rw [gaps] at h
    split at h
    · rename_i c
      rcases List.mem_append.1 h with h | h
      · obtain ⟨j, h1, h2, h3⟩ := gaps_mem x h
        exact ⟨j, h1, by omega, h3⟩
      · exact ⟨k, List.mem_singleton.1 h, Nat.le_refl _, c⟩
    · obtain ⟨j, h1, h2, h3⟩ := gaps_mem x h
      exact ⟨j, h1, by omega, h3⟩
theorem gaps_srt (x : List Int) : ∀ k, (gaps x k).Pairwise (· < ·)
  | 0 => List.Pairwise.nil
  | k + 1 => by
    rw [gaps]
    split
    · rw [List.pairwise_append]
      refine ⟨gaps_srt x k, List.pairwise_singleton _ _, fun a ha b hb => ?_⟩
      obtain ⟨j, h1, h2, _⟩ := gaps_mem x ha
      rw [List.mem_singleton.1 hb, h1]; omega
    · exact gaps_srt x k
theorem gaps_le (x : List Int) (k : Nat) : (gaps x k).length ≤ k := by
  induction k with
  | zero => exact Nat.le_refl _
  | succ k ih =>
    rw [gaps]
    split
    · rw [List.length_append]; simp only [List.length_singleton]; omega
    · omega
/-- one more chip at the vertex -/
theorem RK.stepI {g : Gr} (hg : GOk g) {v : Nat} (hv : v < N g) {k : Nat} {r r' : Nat} {w w' : List Int} (h : RK g (at1 v k) r w) (h' : RK g (at1 v ((k + 1 : Nat) : Int)) r' w') : r' = r ∨ r' = r + 1 := by
  have hn := gN hg
  have a1 : r ≤ r' := by
    rcases Nat.lt_or_ge r' r with c | c
    · exfalso
      refine h'.bad ?_
      obtain ⟨q, q1, q2, S, q3⟩ := h.up r' c w' h'.mem
      refine ⟨(List.range (N g)).map fun u => q.getD u 0 + if u = v then 1 else 0, by simp, fun u hu => ?_, S, fun u hu => ?_⟩
      · rw [getD_range_map _ hu]
        have := q2 u hu
        split <;> omega
      · rw [getD_range_map _ hu, q3 u hu]
        unfold Mi at1
        split <;> omega
    · exact c
  have a2 : r' ≤ r + 1 := by
    rcases Nat.lt_or_ge (r + 1) r' with c | c
    · exfalso
      refine h.bad ?_
      have hw := eff_mem h.mem
      have hs := eff_sum h.mem
      have hl : w.length = N g := by omega
      have hin : w.set v (w.getD v 0 + 1) ∈ eff (N g - 1) (r + 1) := by
        refine eff_in (by rw [List.length_set, hw.1]) (fun x hx => ?_) ?_
        · obtain ⟨j, hj, e⟩ := mem_getD hx
          rw [List.length_set] at hj
          rw [← e, getD_set (by omega)]
          have := hw.2 _ (getD_mem 0 hj)
          have := hw.2 _ (getD_mem 0 (show v < w.length by omega))
          split <;> omega
        · have b1 := sm_list (w.set v (w.getD v 0 + 1))
          have b2 := sm_list w
          rw [List.length_set] at b1
          have e : sm w.length (fun u => (w.set v (w.getD v 0 + 1)).getD u 0) = sm w.length (fun u => w.getD u 0 + if u = v then 1 else 0) := sm_congr fun u _ => by
            rw [getD_set (by omega)]
            by_cases c : u = v
            · rw [if_pos c, if_pos c, c]
            · rw [if_neg c, if_neg c]; omega
          rw [e, sm_add, sm_one, if_pos (show v < w.length by omega)] at b1
          omega
      refine (h'.up (r + 1) c _ hin).congr fun u hu => ?_
      unfold Mi at1
      rw [getD_set (by omega)]
      by_cases c : u = v
      · rw [if_pos c, if_pos c, if_pos c, c]; omega
      · rw [if_neg c, if_neg c, if_neg c]
    · exact c
  omega
end Go.Proofs.YtgncajnfphlgeaaGreatDoor.D

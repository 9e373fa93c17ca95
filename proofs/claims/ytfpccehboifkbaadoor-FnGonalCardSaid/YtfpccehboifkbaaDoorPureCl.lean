/-
  Ranks of two divisors that add up to the canonical one.
-/
import Derived.Test.YtfpccehboifkbaaDoorPureRr
namespace Go.Proofs.YtfpccehboifkbaaDoor.D
open Go Go.Den
set_option linter.unusedVariables false
set_option linter.unusedSimpArgs false
theorem Win.more {g : Gr} {D D' : Nat → Int} (h : Win g D) (hd : ∀ v, v < N g → D v ≤ D' v) : Win g D' := by
  obtain ⟨r, h1, h2, S, h3⟩ := h
  refine ⟨(List.range (N g)).map fun v => r.getD v 0 + (D' v - D v), by simp, fun v hv => ?_, S, fun v hv => ?_⟩
  · rw [getD_range_map _ hv]
    have := h2 v hv
    have := hd v hv
    omega
  · rw [getD_range_map _ hv, h3 v hv]; omega
/-! ### special divisors -/
theorem split_row : ∀ (l : List Int) (a : Int), (∀ x ∈ l, 0 ≤ x) → 0 ≤ a → a ≤ l.sum → ∃ m : List Int, m.length = l.length ∧ m.sum = a ∧ ∀ j, j < l.length → 0 ≤ m.getD j 0 ∧ m.getD j 0 ≤ l.getD j 0
  | [], a, _, h0, h1 => ⟨[], rfl, by simp at h1 ⊢; omega, fun j hj => absurd hj (Nat.not_lt_zero j)⟩
  | x :: l, a, hp, h0, h1 => by
    have hx := hp x List.mem_cons_self
    rw [List.sum_cons] at h1
    by_cases c : a ≤ x
    · obtain ⟨m, m1, m2, m3⟩ := split_row l 0 (fun y hy => hp y (List.mem_cons_of_mem _ hy)) (Int.le_refl _) (by
        rw [← sm_list]
        exact sm_nonneg fun v hv => hp _ (List.mem_cons_of_mem _ (getD_mem 0 hv)))
      refine ⟨a :: m, by rw [List.length_cons, List.length_cons, m1], by rw [List.sum_cons, m2]; omega, fun j hj => ?_⟩
      cases j with
      | zero => exact ⟨h0, c⟩
      | succ j => exact m3 j (by simpa using hj)
    · obtain ⟨m, m1, m2, m3⟩ := split_row l (a - x) (fun y hy => hp y (List.mem_cons_of_mem _ hy)) (by omega) (by omega)
      refine ⟨x :: m, by rw [List.length_cons, List.length_cons, m1], by rw [List.sum_cons, m2]; omega, fun j hj => ?_⟩
      cases j with
      | zero => exact ⟨hx, Int.le_refl _⟩
      | succ j => exact m3 j (by simpa using hj)
theorem zero_red {g : Gr} (hg : GOk g) : Red (N g) (Eg g) 0 (fun _ => 0) := by
  have hn := gN hg
  obtain ⟨gE1, gE2, gE3⟩ := gE hg
  refine ⟨fun v _ _ => Int.le_refl _, fun A hA hq => ?_⟩
  obtain ⟨e, he, hne⟩ := gC hg A hA ⟨0, by omega, hq⟩
  obtain ⟨h1, h2⟩ := gE1 e he
  have key : ∀ (E : Es), GE (N g) E → e ∈ E → ∀ v, v < N g → ((v = e.1 ∧ A e.2 = false) ∨ (v = e.2 ∧ A e.1 = false)) → 0 < outd E A v := fun E => by
    induction E with
    | nil => intro _ h; cases h
    | cons b E ih =>
      intro hE hm v hv hc
      have h0 := outd_nonneg A v E
      obtain ⟨b1, b2⟩ := hE b List.mem_cons_self
      rw [outd_cons]
      rcases List.mem_cons.1 hm with k | k
      · subst k
        rcases hc with ⟨c1, c2⟩ | ⟨c1, c2⟩
        · rw [if_pos c1, c2]; simp only [cond_false]; omega
        · rw [if_neg (by omega), if_pos c1, c2]; simp only [cond_false]; omega
      · have := ih hE.tail k v hv hc
        have hb : ∀ z : Bool, (0 : Int) ≤ cond z 0 1 := fun z => by cases z <;> decide
        have := hb (A b.2)
        have := hb (A b.1)
        split
        · omega
        · split <;> omega
  cases a1 : A e.1 with
  | true =>
    cases a2 : A e.2 with
    | true => rw [a1, a2] at hne; exact absurd rfl hne
    | false => exact ⟨e.1, by omega, a1, key _ gE1 he _ (by omega) (.inl ⟨rfl, a2⟩)⟩
  | false =>
    cases a2 : A e.2 with
    | true => exact ⟨e.2, h2, a2, key _ gE1 he _ h2 (.inr ⟨rfl, a1⟩)⟩
    | false => rw [a1, a2] at hne; exact absurd rfl hne
theorem nu_pos {E : Es} {q : Nat} : ∀ {L : List Nat}, OrdL E (fun _ => 0) q L → L.Nodup → ∀ v ∈ L, v ≠ q → 0 ≤ nu E L v
  | a :: L, h, hn, v, hv, hne => by
    rw [List.nodup_cons] at hn
    simp only [nu]
    by_cases c : v = a
    · subst c
      rw [if_pos rfl]
      rcases h with ⟨h1, h2⟩ | ⟨h1, h2⟩
      · exact absurd h2 hne
      · have h1' : (0 : Int) < outd E (cmp L) v := h1
        omega
    · rw [if_neg c]
      have hm : v ∈ L := (List.mem_cons.1 hv).resolve_left c
      rcases h with ⟨h1, _⟩ | ⟨_, h2⟩
      · rw [h1] at hm; cases hm
      · exact nu_pos h2 hn.2 v hm hne
theorem Win.add {g : Gr} {D D' D'' : Nat → Int} (h : Win g D) (h' : Win g D') (e : ∀ v, v < N g → D'' v = D v + D' v) : Win g D'' := by
  obtain ⟨r, h1, h2, S, h3⟩ := h
  obtain ⟨r', k1, k2, S', k3⟩ := h'
  refine ⟨(List.range (N g)).map fun v => r.getD v 0 + r'.getD v 0, by simp, fun v hv => ?_, fun v => S v + S' v, fun v hv => ?_⟩
  · rw [getD_range_map _ hv]
    have := h2 v hv
    have := k2 v hv
    omega
  · rw [getD_range_map _ hv, h3 v hv, k3 v hv, e v hv, lap_add]; omega
/-- two ranks of divisors that add up to the canonical one -/
theorem cliff_add {g : Gr} (hg : GOk g) {D1 D2 : Nat → Int} (hK : ∀ v, v < N g → D1 v + D2 v = Kn g v) {r1 r2 : Nat} {w1 w2 : List Int} (h1 : RK g D1 r1 w1) (h2 : RK g D2 r2 w2) (p1 : 1 ≤ r1) (p2 : 1 ≤ r2) : (r1 : Int) + (r2 : Int) - 2 ≤ (g.2.length : Int) - (N g : Int) := by
  have hn := gN hg
  obtain ⟨gE1, gE2, gE3⟩ := gE hg
  refine Int.not_lt.1 fun hc => ?_
  obtain ⟨L, l1, l2, l3, l4, l5⟩ := ord_ex (q := 0) (by omega) (zero_red hg) (N g - 1) (by omega)
  have hl : L.length = N g := by omega
  have hf := full hl l2 l3
  have hdeg := nu_deg gE1 hl l2 l3
  rw [gE3] at hdeg
  have hnu0 : -1 ≤ nu (Eg g) L 0 := by
    have key : ∀ M : List Nat, -1 ≤ nu (Eg g) M 0 := fun M => by
      induction M with
      | nil => exact Int.le_refl _
      | cons a M ih =>
        rw [nu]
        have := outd_nonneg (cmp M) 0 (Eg g)
        split <;> omega
    exact key L
  let f : List Int := (List.range (N g)).map fun v => nu (Eg g) L v + if v = 0 then 1 else 0
  have hfl : f.length = N g := by simp [f]
  have hfv : ∀ v, v < N g → f.getD v 0 = nu (Eg g) L v + if v = 0 then 1 else 0 := fun v hv => getD_range_map _ hv
  have hfp : ∀ x ∈ f, 0 ≤ x := fun x hx => by
    obtain ⟨j, hj, e⟩ := mem_getD hx
    rw [← e, hfv j (by omega)]
    by_cases c : j = 0
    · rw [if_pos c, c]; omega
    · have := nu_pos l5 l2 j (hf j (by omega)) c
      rw [if_neg c]; omega
  have hfs : f.sum = (g.2.length : Int) - (N g : Int) + 1 := by
    have := sm_list f
    rw [hfl, sm_congr hfv, sm_add, sm_one, if_pos (show 0 < N g by omega)] at this
    omega
  have hs0 : 0 ≤ f.sum := by
    rw [← sm_list, hfl]
    exact sm_nonneg fun v hv => hfp _ (getD_mem 0 (by omega))
  let a : Int := min f.sum ((r1 : Int) - 1)
  have ha0 : 0 ≤ a := by simp only [a]; omega
  have haf : a ≤ f.sum := by simp only [a]; omega
  have har : a ≤ (r1 : Int) - 1 := by simp only [a]; omega
  have hab : f.sum - a ≤ (r2 : Int) - 1 := by simp only [a]; omega
  obtain ⟨m, m1, m2, m3⟩ := split_row f a hfp ha0 haf
  have hm0 : ∀ x ∈ m, 0 ≤ x := fun x hx => by
    obtain ⟨j, hj, e⟩ := mem_getD hx
    rw [← e]; exact (m3 j (by omega)).1
  let m' : List Int := (List.range (N g)).map fun v => f.getD v 0 - m.getD v 0
  have hm'l : m'.length = N g := by simp [m']
  have hm'v : ∀ v, v < N g → m'.getD v 0 = f.getD v 0 - m.getD v 0 := fun v hv => getD_range_map _ hv
  have hm'0 : ∀ x ∈ m', 0 ≤ x := fun x hx => by
    obtain ⟨j, hj, e⟩ := mem_getD hx
    rw [← e, hm'v j (by omega)]
    have := m3 j (by omega)
    omega
  have hm's : m'.sum = f.sum - a := by
    have b1 := sm_list m'
    have b2 := sm_list f
    have b3 := sm_list m
    rw [hm'l, sm_congr hm'v, sm_sub] at b1
    rw [hfl] at b2
    rw [m1, hfl] at b3
    omega
  have W1 := h1.up a.toNat (by omega) m (eff_in (by omega) hm0 (by omega))
  have W2 := h2.up (f.sum - a).toNat (by omega) m' (eff_in (by omega) hm'0 (by omega))
  have W := W1.add W2 (D'' := Mi (Kn g) f) (fun v hv => by
    have := hK v hv
    have := hm'v v hv
    unfold Mi; omega)
  have W3 : Win g (fun v => Kn g v - nu (Eg g) L v) := W.more fun v hv => by
    have := hfv v hv
    unfold Mi
    split at this <;> omega
  obtain ⟨r, q1, q2, S, q3⟩ := W3
  refine nu_lost hg hl l2 l3 S fun v hv => ?_
  have := q2 v hv
  rw [q3 v hv] at this
  exact this
theorem gn_pos {g : Gr} (hg : GOk g) : 0 ≤ (g.2.length : Int) - (N g : Int) + 1 := by
  have hn := gN hg
  obtain ⟨gE1, gE2, gE3⟩ := gE hg
  obtain ⟨L, l1, l2, l3, l4, l5⟩ := ord_ex (q := 0) (by omega) (zero_red hg) (N g - 1) (by omega)
  have hl : L.length = N g := by omega
  have hf := full hl l2 l3
  have hdeg := nu_deg gE1 hl l2 l3
  rw [gE3] at hdeg
  have hnu0 : -1 ≤ nu (Eg g) L 0 := by
    have key : ∀ M : List Nat, -1 ≤ nu (Eg g) M 0 := fun M => by
      induction M with
      | nil => exact Int.le_refl _
      | cons a M ih =>
        rw [nu]
        have := outd_nonneg (cmp M) 0 (Eg g)
        split <;> omega
    exact key L
  have h0 : 0 ≤ sm (N g) (fun v => nu (Eg g) L v + if v = 0 then 1 else 0) := sm_nonneg fun v hv => by
    by_cases c : v = 0
    · rw [if_pos c, c]; omega
    · have := nu_pos l5 l2 v (hf v hv) c
      rw [if_neg c]; omega
  rw [sm_add, sm_one, if_pos (show 0 < N g by omega)] at h0
  omega
end Go.Proofs.YtfpccehboifkbaaDoor.D

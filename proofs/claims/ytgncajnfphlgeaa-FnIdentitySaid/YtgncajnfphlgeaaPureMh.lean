/-
  Harmonic morphisms, counted: multiplicities, fibres, what is pushed forward and pulled back.
-/
import Derived.Test.YtgncajnfphlgeaaPureMg
namespace Go.Proofs.Ytgncajnfphlgeaa.D
open Go Go.Den
set_option linter.unusedVariables false
set_option linter.unusedSimpArgs false
theorem itr_cnt (p : Nat → Bool) : ∀ n, ((itr (fun i (k : Nat) => if p i then k + 1 else k) n 0 : Nat) : Int) = sm n (fun i => if p i = true then 1 else 0)
  | 0 => rfl
  | n + 1 => by
    rw [itr, sm, ← itr_cnt p n]
    split <;> omega
/-- how many edges at a vertex have an edge as image -/
def ov (g : Gr) (m : Mo) (v : Nat) (k : Nat) : Int := sm g.2.length (fun i => if cEq g m (v : Int) (k : Int) i = true then 1 else 0)
theorem ovr_ov (g : Gr) (m : Mo) (v k : Nat) : ((ovr g m (v : Int) (k : Int) : Nat) : Int) = ov g m v k := itr_cnt _ _
theorem mem_mult {g h : Gr} {m : Mo} {v : Nat} {x : Int} : ∀ {n : Nat}, x ∈ mult g h m v n ↔ ∃ k, k < n ∧ cAt (h.2.getD k (0, 0)) (m.1.getD v 0) = true ∧ x = ov g m v k
  | 0 => by simp [mult, itr]
  | n + 1 => by
    have ih := mem_mult (g := g) (h := h) (m := m) (v := v) (x := x) (n := n)
    unfold mult at ih ⊢
    rw [itr]
    by_cases c : cAt (h.2.getD n (0, 0)) (m.1.getD v 0) = true
    · rw [if_pos c, List.mem_append, ih, List.mem_singleton, ovr_ov]
      constructor
      · rintro (⟨k, h1, h2, h3⟩ | h3)
        · exact ⟨k, by omega, h2, h3⟩
        · exact ⟨n, by omega, c, h3⟩
      · rintro ⟨k, h1, h2, h3⟩
        by_cases e : k = n
        · subst e; exact .inr h3
        · exact .inl ⟨k, by omega, h2, h3⟩
    · rw [if_neg c, ih]
      constructor
      · rintro ⟨k, h1, h2, h3⟩; exact ⟨k, by omega, h2, h3⟩
      · rintro ⟨k, h1, h2, h3⟩
        by_cases e : k = n
        · subst e; exact absurd h2 c
        · exact ⟨k, by omega, h2, h3⟩
/-- the horizontal multiplicity -/
def Hr (g h : Gr) (m : Mo) (v : Nat) : Int := (mult g h m v h.2.length).headD 0
theorem Hr_at {g h : Gr} {m : Mo} (H : HOk g h m) {v k : Nat} (hv : v < m.1.length) (hk : k < h.2.length) (hc : cAt (h.2.getD k (0, 0)) (m.1.getD v 0) = true) : Hr g h m v = ov g m v k := by
  have ha := allE_iff.1 (H.2 v hv)
  have hm : ov g m v k ∈ mult g h m v h.2.length := mem_mult.2 ⟨k, hk, hc, rfl⟩
  unfold Hr
  cases hq : mult g h m v h.2.length with
  | nil => rw [hq] at hm; exact absurd hm List.not_mem_nil
  | cons a l => rw [hq] at ha hm; exact ha a List.mem_cons_self _ hm
theorem ov_bd (g : Gr) (m : Mo) (v k : Nat) : 0 ≤ ov g m v k ∧ ov g m v k ≤ (g.2.length : Int) := by
  have := sm_bd (f := fun i => if cEq g m (v : Int) (k : Int) i = true then 1 else 0) (c := 1) (fun i => by
    show 0 ≤ (if cEq g m (v : Int) (k : Int) i = true then (1 : Int) else 0) ∧ (if cEq g m (v : Int) (k : Int) i = true then (1 : Int) else 0) ≤ 1
    split <;> omega) g.2.length
  unfold ov; omega
theorem Hr_bd {g h : Gr} {m : Mo} (v : Nat) : 0 ≤ Hr g h m v ∧ Hr g h m v ≤ (g.2.length : Int) := by
  unfold Hr
  cases hq : mult g h m v h.2.length with
  | nil => simp
  | cons a l =>
    obtain ⟨k, _, _, e⟩ := mem_mult.1 (show a ∈ mult g h m v h.2.length by rw [hq]; exact List.mem_cons_self)
    rw [List.headD_cons, e]
    exact ov_bd g m v k
theorem Hr_none {g h : Gr} {m : Mo} (v : Nat) (h0 : h.2.length = 0) : Hr g h m v = 0 := by
  unfold Hr; rw [h0]; rfl
theorem hor_i {g h : Gr} {m : Mo} (H : HOk g h m) {v : Nat} (hv : v < N g) : impl_HorizontalOf g h m (v : Int) = some (Hr g h m v) := by
  have H' := H
  obtain ⟨⟨G, K, M1, M2, M3, M4⟩, A⟩ := H'
  have hn := gN G
  have g12 := G.1.2.1
  have h12 := K.1.2.1
  obtain ⟨b, _, p2, p3⟩ := harmonic_p (g := g) (h := h) (m := m) (by omega) (by omega) (by omega) (by omega)
  have hb := p3.2 H
  subst hb
  rw [impl_HorizontalOf_eq, p2, Option.bind_some]
  simp only [Bool.not_true, cond_false]
  rw [within_p, w64_id (n := g.1 - 1) (by omega) (by omega), decide_eq_true (show 0 ≤ (v : Int) ∧ (v : Int) ≤ g.1 - 1 by omega), Option.bind_some]
  simp only [Bool.not_true, cond_false]
  rw [impl_mult_p M2 g12 h12 (by omega), Option.bind_some]
  unfold Hr
  cases hq : mult g h m v h.2.length with
  | nil => rfl
  | cons a l =>
    rw [beq_f (show ¬ (((a :: l).length : Nat) : Int) = 0 by simp only [List.length_cons]; omega), inside_int (n := 0) (by omega) (by simp only [List.length_cons]; omega)]
    rfl
/-- how many edges lie over an edge -/
def ct (g : Gr) (m : Mo) (k : Nat) : Int := sm g.2.length (fun i => if m.2.getD i 0 = (k : Int) then 1 else 0)
theorem degree_i {g h : Gr} {m : Mo} (H : HOk g h m) : impl_DegreeOfMorphism g h m = some (ct g m 0) := by
  have H' := H
  obtain ⟨⟨G, K, M1, M2, M3, M4⟩, A⟩ := H'
  have g12 := G.1.2.1
  have h12 := K.1.2.1
  have hn := gN G
  obtain ⟨b, _, p2, p3⟩ := harmonic_p (g := g) (h := h) (m := m) (by omega) (by omega) (by omega) (by omega)
  have hb := p3.2 H
  subst hb
  rw [impl_DegreeOfMorphism_eq, p2, Option.bind_some]
  simp only [Bool.not_true, cond_false]
  obtain ⟨b1, b2⟩ := upFold (n := m.2.length) (f := fun (s : Nat) i => impl_DegreeOfMorphism_l0 (s : Int) m.2 (m.2.length : Int) i) (g := fun i n => if m.2.getD i 0 == 0 then n + 1 else n) (fun i s => s ≤ i) (fun i s hi hs => by
    refine ⟨?_, by split <;> omega⟩
    rw [impl_DegreeOfMorphism_l0_eq, dec_lt_t hi, inside_lt hi, w64_succ hi (by omega), w64_nat (k := s) (by omega)]
    simp only [cond_true, Int.toNat_natCast]
    cases m.2.getD i 0 == 0 <;> rfl) (s := 0) (Nat.le_refl _)
  refine b1.trans ?_
  rw [impl_DegreeOfMorphism_l0_eq, dec_lt_f, cond_false]
  refine congrArg some ((itr_cnt (fun i => m.2.getD i 0 == 0) m.2.length).trans ?_)
  unfold ct
  rw [M2]
  exact sm_congr fun i _ => by simp
/-- what lies over a vertex, summed -/
def fib (g : Gr) (m : Mo) (d : Nat → Int) (w : Nat) : Int := sm (N g) (fun v => if m.1.getD v 0 = (w : Int) then d v else 0)
theorem sm_abs {f : Nat → Int} {c : Int} (hc : 0 ≤ c) : ∀ {n : Nat}, (∀ v, v < n → -c ≤ f v ∧ f v ≤ c) → -((n : Int) * c) ≤ sm n f ∧ sm n f ≤ (n : Int) * c
  | 0, _ => by simp [sm]
  | n + 1, h => by
    have h1 := sm_abs hc (n := n) fun v hv => h v (by omega)
    have h2 := h n (by omega)
    rw [sm, Int.natCast_succ, Int.add_mul, Int.one_mul]
    omega
theorem dok_i {g : Gr} {d : List Int} {D : Nat → Int} (hG : GOk g) (hd : vec (N g) d D) (h : Bd (N g) 60 D) : impl_DivisorOk g d = some true := by
  have hn := gN hG
  have g12 := hG.1.2.1
  obtain ⟨b, _, p2, p3⟩ := graphOk_p (g := g) (by omega)
  have hb := p3.2 hG
  subst hb
  obtain ⟨b, q1, q2⟩ := allWithin_p (l := d) (lo := -60) (hi := 60) (by rw [hd.1]; omega)
  have hb := q2.2 fun j hj => by rw [hd.1] at hj; rw [hd.2 j hj]; exact h j hj
  subst hb
  rw [impl_DivisorOk_eq, p2, Option.bind_some, cond_true, beq_t (by rw [hd.1]; omega), cond_true, q1]
  rfl
theorem push_i {g h : Gr} {m : Mo} (H : HOk g h m) {d : List Int} {D : Nat → Int} (hd : vec (N g) d D) (hD : Bd (N g) 60 D) : ∃ x, impl_PushForward g h m d = some (x, true) ∧ vec (N h) x (fib g m D) := by
  have H' := H
  obtain ⟨⟨G, K, M1, M2, M3, M4⟩, A⟩ := H'
  have g12 := G.1.2.1
  have h12 := K.1.2.1
  have hn := gN G
  have hk := gN K
  obtain ⟨b, _, p2, p3⟩ := harmonic_p (g := g) (h := h) (m := m) (by omega) (by omega) (by omega) (by omega)
  have hb := p3.2 H
  subst hb
  rw [impl_PushForward_eq, p2, Option.bind_some]
  simp only [Bool.not_true, cond_false]
  rw [dok_i G hd hD, Option.bind_some]
  simp only [Bool.not_true, cond_false]
  have hr : (decide (0 ≤ h.1) && decide (h.1 ≤ (room : Int))) = true := by
    rw [decide_eq_true (show 0 ≤ h.1 by omega), decide_eq_true (show h.1 ≤ (room : Int) by unfold room; omega)]; rfl
  rw [hr, cond_true]
  obtain ⟨b1, b2⟩ := upFold (n := d.length) (f := fun s i => impl_PushForward_l0 m s d (d.length : Int) i) (g := fun k s => s.set (m.1.getD k 0).toNat (w64 (s.getD (m.1.getD k 0).toNat 0 + d.getD k 0))) (fun k s => vec (N h) s (fun w => sm k (fun v => if m.1.getD v 0 = (w : Int) then D v else 0))) (fun k s hk' hs => by
    have hkN : k < N g := by rw [← hd.1]; exact hk'
    have hv := M3 k (by omega)
    refine ⟨?_, ?_⟩
    · rw [impl_PushForward_l0_eq, dec_lt_t hk', inside_lt hk', inside_lt (show k < m.1.length by omega), w64_succ hk' (by rw [hd.1]; omega)]
      simp only [cond_true, Int.toNat_natCast]
      rw [inside_int (n := m.1.getD k 0) hv.1 (by rw [hs.1]; omega)]
      rfl
    · have ha : (m.1.getD k 0).toNat < N h := by omega
      have hb := sm_abs (c := 60) (by omega) (n := k) (f := fun v => if m.1.getD v 0 = (((m.1.getD k 0).toNat : Nat) : Int) then D v else 0) fun v hv => by
        have := hD v (by omega)
        show -60 ≤ (if _ then D v else 0) ∧ (if _ then D v else 0) ≤ 60
        split <;> omega
      have hk1 := hD k hkN
      have e0 : s.getD (m.1.getD k 0).toNat 0 = sm k (fun v => if m.1.getD v 0 = (((m.1.getD k 0).toNat : Nat) : Int) then D v else 0) := hs.2 _ ha
      rw [e0, hd.2 k hkN, w64_id (by omega) (by omega)]
      refine (hs.set ha _).congr fun w hw => ?_
      rw [sm]
      by_cases c : w = (m.1.getD k 0).toNat
      · rw [if_pos c, c, if_pos (show m.1.getD k 0 = (((m.1.getD k 0).toNat : Nat) : Int) by omega)]
      · rw [if_neg c, if_neg (show ¬ m.1.getD k 0 = (w : Int) by omega)]; omega) (s := List.replicate h.1.toNat 0) ((vec.zero (N h)).congr fun w _ => rfl)
  rw [hd.1] at b1 b2 ⊢
  refine ⟨_, b1.trans ?_, b2⟩
  rw [impl_PushForward_l0_eq, dec_lt_f]; rfl
theorem pull_i {g h : Gr} {m : Mo} (H : HOk g h m) {d : List Int} {D : Nat → Int} (hd : vec (N h) d D) (hD : Bd (N h) 60 D) : ∃ x, impl_PullBack g h m d = some (x, true) ∧ vec (N g) x (fun v => Hr g h m v * D (m.1.getD v 0).toNat) := by
  have H' := H
  obtain ⟨⟨G, K, M1, M2, M3, M4⟩, A⟩ := H'
  have g12 := G.1.2.1
  have h12 := K.1.2.1
  have hn := gN G
  have hk := gN K
  obtain ⟨b, _, p2, p3⟩ := harmonic_p (g := g) (h := h) (m := m) (by omega) (by omega) (by omega) (by omega)
  have hb := p3.2 H
  subst hb
  rw [impl_PullBack_eq, p2, Option.bind_some]
  simp only [Bool.not_true, cond_false]
  rw [dok_i K hd hD, Option.bind_some]
  simp only [Bool.not_true, cond_false]
  obtain ⟨b1, b2⟩ := upFold (n := m.1.length) (f := fun (s : List Int) i => impl_PullBack_l0 d g h m s m.1 (m.1.length : Int) i) (g := fun k s => s ++ [Hr g h m k * D (m.1.getD k 0).toNat]) (fun k s => vec k s (fun v => Hr g h m v * D (m.1.getD v 0).toNat)) (fun k s hk' hs => by
    have hv := M3 k (by omega)
    have ha : (m.1.getD k 0).toNat < N h := by omega
    have e1 := Hr_bd (g := g) (h := h) (m := m) k
    have e2 := hD _ ha
    have e3 : Hr g h m k * D (m.1.getD k 0).toNat ≤ 720 ∧ -720 ≤ Hr g h m k * D (m.1.getD k 0).toNat := by
      obtain ⟨a, ha⟩ : ∃ a : Nat, Hr g h m k = (a : Int) := ⟨(Hr g h m k).toNat, by omega⟩
      rw [ha]
      have ha12 : a ≤ 12 := by omega
      constructor
      · have : (a : Int) * D (m.1.getD k 0).toNat ≤ (a : Int) * 60 := Int.mul_le_mul_of_nonneg_left e2.2 (by omega)
        omega
      · have : (a : Int) * (-60) ≤ (a : Int) * D (m.1.getD k 0).toNat := Int.mul_le_mul_of_nonneg_left e2.1 (by omega)
        omega
    refine ⟨?_, ?_⟩
    · rw [impl_PullBack_l0_eq, dec_lt_t hk', inside_lt hk', hor_i H (by omega), w64_succ hk' (by omega)]
      simp only [cond_true, Int.toNat_natCast, Option.bind_some]
      rw [inside_int (n := m.1.getD k 0) hv.1 (by rw [hd.1]; omega), cond_true, hd.2 _ ha, w64_id (by omega) (by omega), decide_eq_true (by rw [room, hs.1, List.length_singleton]; omega), cond_true]
    · refine ⟨by rw [List.length_append, List.length_singleton, hs.1], fun w hw => ?_⟩
      by_cases c : w < k
      · rw [getD_appL (by rw [hs.1]; exact c)]; exact hs.2 w c
      · have : w = s.length := by rw [hs.1]; omega
        subst this
        rw [getD_lt (by rw [List.length_append, List.length_singleton]; omega), List.getElem_append_right (Nat.le_refl _)]
        simp only [Nat.sub_self, List.getElem_singleton]
        rw [hs.1]) (s := []) ⟨rfl, fun w hw => by omega⟩
  rw [show N g = m.1.length by omega]
  refine ⟨_, b1.trans ?_, b2⟩
  rw [impl_PullBack_l0_eq, dec_lt_f]; rfl
end Go.Proofs.Ytgncajnfphlgeaa.D

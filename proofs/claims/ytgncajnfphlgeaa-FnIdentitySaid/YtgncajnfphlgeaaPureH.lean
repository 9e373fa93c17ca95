/-
  Harmonic morphisms: both say alike whether a morphism is harmonic, how it multiplies, and its degree.
-/
import Derived.Test.YtgncajnfphlgeaaPureG
namespace Go.Proofs.Ytgncajnfphlgeaa.D
open Go Go.Den
set_option linter.unusedVariables false
set_option linter.unusedSimpArgs false
def cAt (e : Int × Int) (v : Int) : Bool := e.1 == v || e.2 == v
def cEq (g : Gr) (m : Mo) (v k : Int) (i : Nat) : Bool := cAt (g.2.getD i (0, 0)) v && m.2.getD i 0 == k
def ovr (g : Gr) (m : Mo) (v k : Int) : Nat := itr (fun i n => if cEq g m v k i then n + 1 else n) g.2.length 0
theorem w64_nat {k : Nat} (h : k ≤ 9223372036854775806) : w64 ((k : Int) + 1) = ((k + 1 : Nat) : Int) := w64_succ (n := k + 1) (by omega) (by omega)
theorem over_p {g : Gr} {m : Mo} (hl : m.2.length = g.2.length) (hg : g.2.length ≤ 12) {v k : Int} : spec_l16Over g m v k = some ((ovr g m v k : Nat) : Int) := by
  rw [spec_l16Over_eq]
  obtain ⟨h1, h2⟩ := upFold (n := g.2.length) (f := fun (s : Nat) i => spec_l16Over_l0 v k m (s : Int) g.2 (g.2.length : Int) i) (g := fun i n => if cEq g m v k i then n + 1 else n) (fun i s => s ≤ i) (fun i s hi hs => by
    refine ⟨?_, by split <;> omega⟩
    rw [spec_l16Over_l0_eq, dec_lt_t hi, inside_lt hi, inside_lt (show i < m.2.length by omega), w64_succ hi (by omega), w64_nat (k := s) (by omega)]
    simp only [cond_true, Int.toNat_natCast]
    unfold cEq cAt
    cases (g.2.getD i (0, 0)).1 == v <;> cases (g.2.getD i (0, 0)).2 == v <;> cases m.2.getD i 0 == k <;> rfl) (s := 0) (Nat.le_refl _)
  refine h1.trans ?_
  rw [spec_l16Over_l0_eq, dec_lt_f]
  rfl
theorem isAt_p {g : Gr} (hg : g.2.length ≤ 1048576) {k : Nat} (hk : k < g.2.length) {v : Int} : impl_isAt g (k : Nat) v = some (cAt (g.2.getD k (0, 0)) v) := by
  rw [impl_isAt_eq, within_p, w64_id (n := (g.2.length : Int) - 1) (by omega) (by omega), decide_eq_true (show 0 ≤ (k : Int) ∧ (k : Int) ≤ (g.2.length : Int) - 1 from ⟨by omega, by omega⟩), inside_lt hk]
  simp only [Option.bind_some, cond_true, Int.toNat_natCast]
  unfold cAt
  cases (g.2.getD k (0, 0)).1 == v <;> rfl
def mult (g h : Gr) (m : Mo) (v : Nat) (n : Nat) : List Int := itr (fun k (L : List Int) => if cAt (h.2.getD k (0, 0)) (m.1.getD v 0) then L ++ [((ovr g m (v : Int) (k : Int) : Nat) : Int)] else L) n []
theorem mult_len (g h : Gr) (m : Mo) (v : Nat) : ∀ n, (mult g h m v n).length ≤ n
  | 0 => by simp [mult, itr]
  | n + 1 => by
    have := mult_len g h m v n
    unfold mult at this ⊢
    rw [itr]
    split
    · rw [List.length_append]; simp only [List.length_cons, List.length_nil]; omega
    · omega
theorem mult_nn (g h : Gr) (m : Mo) (v : Nat) : ∀ n x, x ∈ mult g h m v n → 0 ≤ x
  | 0, x, hx => by simp [mult, itr] at hx
  | n + 1, x, hx => by
    have ih := mult_nn g h m v n
    unfold mult at ih hx
    rw [itr] at hx
    split at hx
    · rcases List.mem_append.1 hx with hx | hx
      · exact ih x hx
      · rw [List.mem_singleton.1 hx]; omega
    · exact ih x hx
theorem impl_mult_p {g h : Gr} {m : Mo} (hl : m.2.length = g.2.length) (hg : g.2.length ≤ 12) (hh : h.2.length ≤ 12) {v : Nat} (hv : v < m.1.length) : impl_multiplicities g h m (v : Nat) = some (mult g h m v h.2.length) := by
  rw [impl_multiplicities_eq]
  obtain ⟨h1, _⟩ := upFold (n := h.2.length) (f := fun (L : List Int) i => impl_multiplicities_l0 (v : Int) g h m L (h.2.length : Int) i) (g := fun k (L : List Int) => if cAt (h.2.getD k (0, 0)) (m.1.getD v 0) then L ++ [((ovr g m (v : Int) (k : Int) : Nat) : Int)] else L) (fun k L => L.length ≤ k) (fun k L hk hL => by
    refine ⟨?_, by split <;> (try rw [List.length_append]; simp only [List.length_cons, List.length_nil]) <;> omega⟩
    rw [impl_multiplicities_l0_eq, dec_lt_t hk, inside_lt hv, Int.toNat_natCast, isAt_p (by omega) hk, w64_succ hk (by omega)]
    simp only [cond_true, Option.bind_some]
    cases cAt (h.2.getD k (0, 0)) (m.1.getD v 0) with
    | false => rfl
    | true =>
      simp only [Bool.not_true, cond_false, if_true]
      obtain ⟨j1, j2⟩ := upFold (n := g.2.length) (f := fun (s : Nat) i => impl_multiplicities_l2 (v : Int) g h m L (k : Int) (s : Int) (h.2.length : Int) (k : Int) m.2 (m.2.length : Int) i) (g := fun i n => if cEq g m (v : Int) (k : Int) i then n + 1 else n) (fun i s => s ≤ i) (fun i s hi hs => by
        refine ⟨?_, by split <;> omega⟩
        rw [impl_multiplicities_l2_eq, hl, dec_lt_t hi, inside_lt hi, isAt_p (by omega) hi, w64_succ hi (by omega), w64_nat (k := s) (by omega)]
        simp only [cond_true, Int.toNat_natCast, Option.bind_some]
        unfold cEq
        cases cAt (g.2.getD i (0, 0)) (v : Int) <;> cases m.2.getD i 0 == (k : Int) <;> rfl) (s := 0) (Nat.le_refl _)
      refine j1.trans ?_
      rw [impl_multiplicities_l2_eq, hl, dec_lt_f, room1 (by omega), w64_succ hk (by omega)]
      rfl) (s := []) (Nat.le_refl _)
  refine h1.trans ?_
  rw [impl_multiplicities_l0_eq, dec_lt_f]
  rfl
def allE (l : List Int) : Bool := l.all fun x => l.all fun y => decide (x = y)
theorem allE_iff {l : List Int} : allE l = true ↔ ∀ x ∈ l, ∀ y ∈ l, x = y := by simp [allE, List.all_eq_true]
theorem min_p {l : List Int} (hne : l ≠ []) (h : l.length ≤ 1048576) : ∃ x, slices_Min_int_int l = some x ∧ x ∈ l ∧ ∀ y ∈ l, x ≤ y := by
  have hl : 0 < l.length := List.length_pos_iff.2 hne
  rw [slices_Min_int_int_eq, decide_eq_false (show ¬ (l.length : Int) < 1 by omega), inside_int (n := 0) (by omega) (by omega)]
  simp only [cond_false, cond_true]
  have step : ∀ (k : Nat) (s : Int), k < l.length → slices_Min_int_int_l0 l s (k : Nat) = slices_Min_int_int_l0 l (imin s (l.getD k 0)) ((k + 1 : Nat) : Int) := fun k s hk => by
    rw [slices_Min_int_int_l0_eq, dec_lt_t hk, inside_lt hk, w64_succ hk (by omega)]
    simp only [cond_true, Int.toNat_natCast]
  have h0 := step 0 (l.getD 0 0) hl
  have hi : imin (l.getD 0 0) (l.getD 0 0) = l.getD 0 0 := by simp
  rw [hi] at h0
  rw [show (1 : Int) = ((0 + 1 : Nat) : Int) from rfl, ← h0]
  obtain ⟨j1, j2, j3⟩ := upFold (n := l.length) (f := fun s i => slices_Min_int_int_l0 l s i) (g := fun k s => imin s (l.getD k 0)) (fun k s => s ∈ l ∧ ∀ j, j < k → s ≤ l.getD j 0) (fun k s hk hs => by
    refine ⟨step k s hk, ?_, fun j hj => ?_⟩
    · unfold imin
      split
      · rw [getD_lt hk]; exact List.getElem_mem _
      · exact hs.1
    · have hm : imin s (l.getD k 0) ≤ s ∧ imin s (l.getD k 0) ≤ l.getD k 0 := by unfold imin; split <;> omega
      rcases Nat.lt_or_ge j k with c | c
      · have := hs.2 j c; omega
      · have : j = k := by omega
        subst this; exact hm.2) (s := l.getD 0 0) ⟨by rw [getD_lt hl]; exact List.getElem_mem _, fun j hj => by omega⟩
  refine ⟨_, j1.trans (by rw [slices_Min_int_int_l0_eq, dec_lt_f]; rfl), j2, fun y hy => ?_⟩
  obtain ⟨j, hj, rfl⟩ := List.mem_iff_getElem.1 hy
  rw [← getD_lt (d := 0) hj]
  exact j3 j hj
theorem max_p {l : List Int} (hne : l ≠ []) (h : l.length ≤ 1048576) : ∃ x, slices_Max_int_int l = some x ∧ x ∈ l ∧ ∀ y ∈ l, y ≤ x := by
  have hl : 0 < l.length := List.length_pos_iff.2 hne
  rw [slices_Max_int_int_eq, decide_eq_false (show ¬ (l.length : Int) < 1 by omega), inside_int (n := 0) (by omega) (by omega)]
  simp only [cond_false, cond_true]
  have step : ∀ (k : Nat) (s : Int), k < l.length → slices_Max_int_int_l0 l s (k : Nat) = slices_Max_int_int_l0 l (imax s (l.getD k 0)) ((k + 1 : Nat) : Int) := fun k s hk => by
    rw [slices_Max_int_int_l0_eq, dec_lt_t hk, inside_lt hk, w64_succ hk (by omega)]
    simp only [cond_true, Int.toNat_natCast]
  have h0 := step 0 (l.getD 0 0) hl
  have hi : imax (l.getD 0 0) (l.getD 0 0) = l.getD 0 0 := by simp
  rw [hi] at h0
  rw [show (1 : Int) = ((0 + 1 : Nat) : Int) from rfl, ← h0]
  obtain ⟨j1, j2, j3⟩ := upFold (n := l.length) (f := fun s i => slices_Max_int_int_l0 l s i) (g := fun k s => imax s (l.getD k 0)) (fun k s => s ∈ l ∧ ∀ j, j < k → l.getD j 0 ≤ s) (fun k s hk hs => by
    refine ⟨step k s hk, ?_, fun j hj => ?_⟩
    · unfold imax
      split
      · rw [getD_lt hk]; exact List.getElem_mem _
      · exact hs.1
    · have hm : s ≤ imax s (l.getD k 0) ∧ l.getD k 0 ≤ imax s (l.getD k 0) := by unfold imax; split <;> omega
      rcases Nat.lt_or_ge j k with c | c
      · have := hs.2 j c; omega
      · have : j = k := by omega
        subst this; exact hm.2) (s := l.getD 0 0) ⟨by rw [getD_lt hl]; exact List.getElem_mem _, fun j hj => by omega⟩
  refine ⟨_, j1.trans (by rw [slices_Max_int_int_l0_eq, dec_lt_f]; rfl), j2, fun y hy => ?_⟩
  obtain ⟨j, hj, rfl⟩ := List.mem_iff_getElem.1 hy
  rw [← getD_lt (d := 0) hj]
  exact j3 j hj
/-- the reference's own multiplicity: the one that all are, or -1 -/
def hor (l : List Int) : Int := if allE l = true then l.headD 0 else -1
theorem allE_pre {a b : List Int} (h : allE (a ++ b) = true) : allE a = true := by
  rw [allE_iff] at h ⊢
  exact fun x hx y hy => h x (List.mem_append_left _ hx) y (List.mem_append_left _ hy)
theorem mult_pre (g h : Gr) (m : Mo) (v : Nat) (k : Nat) : ∀ d, ∃ t, mult g h m v (k + d) = mult g h m v k ++ t
  | 0 => ⟨[], by simp⟩
  | d + 1 => by
    obtain ⟨t, ht⟩ := mult_pre g h m v k d
    unfold mult at ht ⊢
    rw [show k + (d + 1) = (k + d) + 1 from rfl, itr, ht]
    split
    · exact ⟨t ++ _, by rw [List.append_assoc]⟩
    · exact ⟨t, rfl⟩
theorem spec_hor_p {g h : Gr} {m : Mo} (hl : m.2.length = g.2.length) (hg : g.2.length ≤ 12) (hh : h.2.length ≤ 12) {v : Nat} (hv : v < m.1.length) : spec_l16Horizontal g h m (v : Nat) = some (hor (mult g h m v h.2.length)) := by
  rw [spec_l16Horizontal_eq]
  have key : ∀ (d k : Nat) (best : Int) (first : Bool), k + d = h.2.length → ((first = true ∧ mult g h m v k = [] ∧ best = 0) ∨ (first = false ∧ mult g h m v k ≠ [] ∧ ∀ x ∈ mult g h m v k, x = best)) →
      spec_l16Horizontal_l0 (v : Int) g m best first h.2 (h.2.length : Int) (k : Nat) = some (hor (mult g h m v h.2.length)) := by
    intro d
    induction d with
    | zero =>
      intro k best first hk hs
      have : k = h.2.length := by omega
      subst this
      rw [spec_l16Horizontal_l0_eq, dec_lt_f]
      simp only [cond_false, Option.some.injEq]
      rcases hs with ⟨_, h1, h2⟩ | ⟨_, h1, h2⟩
      · rw [h1, h2]; rfl
      · unfold hor
        rw [if_pos (allE_iff.2 fun x hx y hy => (h2 x hx).trans (h2 y hy).symm)]
        cases hq : mult g h m v h.2.length with
        | nil => exact absurd hq h1
        | cons a l => exact (h2 a (by rw [hq]; exact List.mem_cons_self)).symm
    | succ d ih =>
      intro k best first hk hs
      have hkl : k < h.2.length := by omega
      have c12 : ∀ b f, spec_l16Horizontal_c12 (v : Int) g m b f h.2 (h.2.length : Int) (k : Nat) = spec_l16Horizontal_l0 (v : Int) g m b f h.2 (h.2.length : Int) ((k + 1 : Nat) : Int) := fun b f => by
        rw [spec_l16Horizontal_c12_eq, w64_succ hkl (by omega)]
      rw [spec_l16Horizontal_l0_eq, dec_lt_t hkl, inside_lt hkl, inside_lt hv]
      simp only [cond_true, Int.toNat_natCast, c12, over_p hl hg, Option.bind_some]
      have hm : mult g h m v (k + 1) = if cAt (h.2.getD k (0, 0)) (m.1.getD v 0) then mult g h m v k ++ [((ovr g m (v : Int) (k : Int) : Nat) : Int)] else mult g h m v k := rfl
      have at_ : cAt (h.2.getD k (0, 0)) (m.1.getD v 0) = true → (first = true → spec_l16Horizontal_l0 (v : Int) g m ((ovr g m (v : Int) (k : Int) : Nat) : Int) false h.2 (h.2.length : Int) ((k + 1 : Nat) : Int) = some (hor (mult g h m v h.2.length))) ∧
          (first = false → (bif ((ovr g m (v : Int) (k : Int) : Nat) : Int) != best then some (-1) else spec_l16Horizontal_l0 (v : Int) g m ((ovr g m (v : Int) (k : Int) : Nat) : Int) false h.2 (h.2.length : Int) ((k + 1 : Nat) : Int)) = some (hor (mult g h m v h.2.length))) := fun ha => by
        rw [ha] at hm
        simp only [if_true] at hm
        refine ⟨fun hf => ?_, fun hf => ?_⟩
        · rcases hs with ⟨_, h1, h2⟩ | ⟨h0, _⟩
          · exact ih (k + 1) _ false (by omega) (.inr ⟨rfl, by rw [hm]; simp, fun x hx => by rw [hm, h1] at hx; simpa using hx⟩)
          · rw [hf] at h0; cases h0
        · rcases hs with ⟨h0, _⟩ | ⟨_, h1, h2⟩
          · rw [hf] at h0; cases h0
          · by_cases c : ((ovr g m (v : Int) (k : Int) : Nat) : Int) = best
            · rw [eq_f c]
              exact ih (k + 1) _ false (by omega) (.inr ⟨rfl, by rw [hm]; simp, fun x hx => by
                rw [hm] at hx
                rcases List.mem_append.1 hx with hx | hx
                · rw [h2 x hx, c]
                · exact List.mem_singleton.1 hx⟩)
            · rw [ne_t c]
              simp only [cond_true, Option.some.injEq]
              unfold hor
              rw [if_neg]
              intro hall
              obtain ⟨t, ht⟩ := mult_pre g h m v (k + 1) d
              rw [show k + 1 + d = h.2.length by omega] at ht
              rw [ht] at hall
              have := allE_iff.1 (allE_pre hall)
              rw [hm] at this
              cases hq : mult g h m v k with
              | nil => exact h1 hq
              | cons a l =>
                rw [hq] at this h2
                have e1 := this a (by simp) ((ovr g m (v : Int) (k : Int) : Nat) : Int) (by simp)
                exact c (e1.symm.trans (h2 a List.mem_cons_self))
      have no_ : cAt (h.2.getD k (0, 0)) (m.1.getD v 0) = false → spec_l16Horizontal_l0 (v : Int) g m best first h.2 (h.2.length : Int) ((k + 1 : Nat) : Int) = some (hor (mult g h m v h.2.length)) := fun ha => by
        rw [ha] at hm
        exact ih (k + 1) best first (by omega) (by rw [hm]; exact hs)
      unfold cAt at at_ no_
      simp only [bne_int]
      cases e1 : (h.2.getD k (0, 0)).1 == m.1.getD v 0 with
      | true =>
        rw [e1] at at_
        simp only [Bool.not_true, cond_false]
        cases first with
        | true => exact (at_ rfl).1 rfl
        | false => exact (at_ rfl).2 rfl
      | false =>
        rw [e1] at at_ no_
        simp only [Bool.not_false, cond_true]
        cases e2 : (h.2.getD k (0, 0)).2 == m.1.getD v 0 with
        | true =>
          rw [e2] at at_
          simp only [Bool.not_true, cond_false]
          cases first with
          | true => exact (at_ rfl).1 rfl
          | false => exact (at_ rfl).2 rfl
        | false =>
          rw [e2] at no_
          exact no_ rfl
  exact key h.2.length 0 0 true (by omega) (.inl ⟨rfl, rfl, rfl⟩)
theorem hor_neg {l : List Int} (h : ∀ x ∈ l, 0 ≤ x) : (hor l < 0) ↔ ¬ allE l = true := by
  unfold hor
  split
  · rename_i c
    refine ⟨fun k => ?_, fun k => absurd c k⟩
    cases l with
    | nil => simp at k
    | cons a l => have := h a List.mem_cons_self; simp only [List.headD_cons] at k; omega
  · rename_i c; exact ⟨fun _ => c, fun _ => by omega⟩
def HOk (g h : Gr) (m : Mo) : Prop := MOk g h m ∧ ∀ v, v < m.1.length → allE (mult g h m v h.2.length) = true
theorem harmonic_p {g h : Gr} {m : Mo} (hg : g.2.length ≤ 1048576) (hh : h.2.length ≤ 1048576) (h1 : m.1.length ≤ 1048576) (h2 : m.2.length ≤ 1048576) : ∃ b, spec_IsHarmonic g h m = some b ∧ impl_IsHarmonic g h m = some b ∧ (b = true ↔ HOk g h m) := by
  obtain ⟨b, p1, p2, p3⟩ := morphismOk_p hg hh h1 h2
  rw [spec_IsHarmonic_eq, impl_IsHarmonic_eq, p1, p2]
  cases b with
  | false => exact ⟨false, rfl, rfl, ⟨fun k => (by cases k), fun k => (by have := p3.2 k.1; cases this)⟩⟩
  | true =>
    have M := p3.1 rfl
    obtain ⟨G, K, M1, M2, M3, M4⟩ := M
    simp only [Option.bind_some, Bool.not_true, cond_false]
    obtain ⟨b, r1, r2⟩ := upAll (n := m.1.length) (f := fun i => spec_IsHarmonic_l0 g h m i) (p := fun v => allE (mult g h m v h.2.length)) (fun v hv => by
      rw [spec_IsHarmonic_l0_eq, decide_eq_true (show (v : Int) < g.1 by omega), spec_hor_p M2 G.1.2.1 K.1.2.1 hv, w64_succ hv (by omega)]
      simp only [cond_true, Option.bind_some]
      have hn := hor_neg (mult_nn g h m v h.2.length)
      cases ha : allE (mult g h m v h.2.length) with
      | true => rw [ha] at hn; rw [decide_eq_false (fun k => hn.1 k rfl)]; rfl
      | false => rw [ha] at hn; rw [decide_eq_true (hn.2 (by simp))]; rfl) (by
      rw [spec_IsHarmonic_l0_eq, decide_eq_false (show ¬ ((m.1.length : Nat) : Int) < g.1 by omega)]; rfl)
    obtain ⟨c, s1, s2⟩ := upAll (n := m.1.length) (f := fun i => impl_IsHarmonic_l0 g h m (m.1.length : Int) i) (p := fun v => allE (mult g h m v h.2.length)) (fun v hv => by
      have hlen := mult_len g h m v h.2.length
      have hh12 := K.1.2.1
      rw [impl_IsHarmonic_l0_eq, dec_lt_t hv, impl_mult_p M2 G.1.2.1 K.1.2.1 hv, w64_succ hv (by omega)]
      simp only [cond_true, Option.bind_some]
      by_cases hne : mult g h m v h.2.length = []
      · rw [hne]; rfl
      · have hpos := List.length_pos_iff.2 hne
        obtain ⟨x, x1, x2, x3⟩ := min_p hne (by omega)
        obtain ⟨y, y1, y2, y3⟩ := max_p hne (by omega)
        rw [decide_eq_true (show ((mult g h m v h.2.length).length : Int) > 0 by omega), x1, y1]
        simp only [cond_true, Option.bind_some]
        by_cases c : x = y
        · rw [eq_f c, allE_iff.2 fun a ha b hb => by
            have := x3 a ha; have := x3 b hb; have := y3 a ha; have := y3 b hb; omega]
          rfl
        · have : allE (mult g h m v h.2.length) = false := by
            rw [Bool.eq_false_iff]
            intro k
            exact c (allE_iff.1 k x x2 y y2)
          rw [ne_t c, this]
          rfl) (by rw [impl_IsHarmonic_l0_eq, dec_lt_f]; rfl)
    have : c = b := by rw [Bool.eq_iff_iff, r2, s2]
    subst this
    exact ⟨c, r1, s1, r2.trans ⟨fun k => ⟨⟨G, K, M1, M2, M3, M4⟩, k⟩, fun k => k.2⟩⟩
end Go.Proofs.Ytgncajnfphlgeaa.D

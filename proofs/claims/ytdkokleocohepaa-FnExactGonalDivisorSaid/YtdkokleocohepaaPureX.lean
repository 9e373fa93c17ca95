/-
  Gonality: both programs find the same divisor.
-/
import Derived.Test.YtdkokleocohepaaPureW
namespace Go.Proofs.Ytdkokleocohepaa.D
open Go Go.Den
set_option linter.unusedVariables false
set_option linter.unusedSimpArgs false
/-- one chip less at a vertex -/
def dm (d : List Int) (v : Nat) : List Int := d.set v (d.getD v 0 - 1)
noncomputable def W (g : Gr) (d : List Int) : Bool := (impl_winnable g d).getD false
theorem W_p {g : Gr} (hg : GOk g) {d : List Int} {D : Nat → Int} (hd : vec (N g) d D) (hD : Bd (N g) 1000 D) : impl_winnable g d = some (W g d) ∧ spec_l07Win g d = some (W g d) ∧ ((∀ v, v < N g → 0 ≤ D v) → W g d = true) := by
  obtain ⟨b, h1, h2, h3⟩ := win_p hg hd hD
  unfold W
  rw [h1, h2]
  exact ⟨rfl, rfl, h3⟩
/-- small divisors -/
def Sd (g : Gr) (d : List Int) : Prop := d.length = N g ∧ ∀ x ∈ d, 0 ≤ x ∧ x ≤ 9
theorem Sd.vec {g : Gr} {d : List Int} (h : Sd g d) : vec (N g) d (fun w => d.getD w 0) ∧ ∀ w, w < N g → 0 ≤ d.getD w 0 ∧ d.getD w 0 ≤ 9 :=
  ⟨⟨h.1, fun _ _ => rfl⟩, fun w hw => h.2 _ (getD_mem 0 (by rw [h.1]; exact hw))⟩
theorem dm_vec {g : Gr} {d : List Int} (h : Sd g d) {v : Nat} (hv : v < N g) : vec (N g) (dm d v) (fun w => if w = v then d.getD v 0 - 1 else d.getD w 0) ∧ Bd (N g) 1000 (fun w => if w = v then d.getD v 0 - 1 else d.getD w 0) := by
  obtain ⟨h1, h2⟩ := h.vec
  refine ⟨h1.set hv _, fun w hw => ?_⟩
  have a := h2 v hv
  have b := h2 w hw
  show -1000 ≤ (if w = v then d.getD v 0 - 1 else d.getD w 0) ∧ (if w = v then d.getD v 0 - 1 else d.getD w 0) ≤ 1000
  split <;> omega
theorem oneAt_p {g : Gr} (hg : GOk g) {v : Nat} (hv : v < N g) : impl_oneAt g (v : Int) (-1) = some ((List.replicate (N g) (0 : Int)).set v (-1)) := by
  have hn := gN hg
  rw [impl_oneAt_eq, decide_eq_true (by omega), decide_eq_true (show g.1 ≤ (room : Int) by rw [room]; omega)]
  simp only [Bool.and_self, cond_true, toNat_n]
  rw [show inside (v : Int) (List.replicate g.1.toNat (0 : Int)).length = true from inside_lt (by rw [List.length_replicate]; exact hv), cond_true]
  rfl
theorem plus_p {n : Nat} (hn : n ≤ 6) {a b : List Int} {A B : Nat → Int} (ha : vec n a A) (hb : vec n b B) (hA : Bd n 100000 A) (hB : Bd n 100000 B) : ∃ r, impl_plus a b = some r ∧ vec n r (fun w => A w + B w) := by
  rw [impl_plus_eq, impl_copyInts_eq, decide_eq_true (by rw [ha.1, room]; simp only [List.length_nil]; omega), cond_true, Option.bind_some, List.nil_append, ha.1]
  have := upFold (n := n) (f := fun s i => impl_plus_l0 b s (n : Int) i) (g := fun k s => s.set k (A k + B k)) (fun k s => vec n s (fun w => if w < k then A w + B w else A w)) (fun k s hk hs => ⟨by
    have i1 : inside (k : Int) s.length = true := inside_lt (by rw [hs.1]; exact hk)
    have i2 : inside (k : Int) b.length = true := inside_lt (by rw [hb.1]; exact hk)
    have e : s.getD k 0 = A k := (hs.2 k hk).trans (if_neg (Nat.lt_irrefl k))
    have b1 := hA k hk
    have b2 := hB k hk
    rw [impl_plus_l0_eq, dec_lt_t hk, i1, i2, toNat_n, e, hb.2 k hk, w64_succ hk (by omega), w64_id (by omega) (by omega)]
    rfl, (hs.set hk _).congr fun w hw => by
      by_cases c : w = k
      · subst c; rw [if_pos rfl, if_pos (by omega)]
      · rw [if_neg c]
        by_cases c2 : w < k
        · rw [if_pos c2, if_pos (by omega)]
        · rw [if_neg c2, if_neg (by omega)]⟩) (s := a) (ha.congr fun w hw => by rw [if_neg (by omega)])
  refine ⟨_, this.1.trans ?_, this.2.congr fun w hw => by rw [if_pos hw]⟩
  rw [impl_plus_l0_eq, dec_lt_f]; rfl
theorem less_p {g : Gr} (hg : GOk g) {d : List Int} (h : Sd g d) {v : Nat} (hv : v < N g) : ((impl_oneAt g (v : Int) (-1)).bind fun r1 => impl_plus d r1) = some (dm d v) := by
  obtain ⟨h1, h2⟩ := h.vec
  obtain ⟨h3, h4⟩ := dm_vec h hv
  rw [oneAt_p hg hv, Option.bind_some]
  have hb : vec (N g) ((List.replicate (N g) (0 : Int)).set v (-1)) (fun w => if w = v then -1 else 0) := (vec.zero _).set hv _
  obtain ⟨r, k1, k2⟩ := plus_p (gN hg).2.2 h1 hb (fun w hw => by have := h2 w hw; omega) (fun w hw => by
    show -100000 ≤ (if w = v then (-1 : Int) else 0) ∧ (if w = v then (-1 : Int) else 0) ≤ 100000
    split <;> omega)
  rw [k1]
  refine congrArg some (k2.eq h3 fun w hw => ?_)
  by_cases c : w = v
  · subst c; rw [if_pos rfl, if_pos rfl]; omega
  · rw [if_neg c, if_neg c]; omega
noncomputable def RT (g : Gr) (d : List Int) : Nat → Nat → Bool
  | _, 0 => true
  | v, m + 1 => W g (dm d v) && RT g d (v + 1) m
noncomputable def RB (g : Gr) (d : List Int) : Bool := RT g d 0 (N g)
theorem impl_reach {g : Gr} (hg : GOk g) {d : List Int} (h : Sd g d) : ∀ (m v : Nat), v + m = N g → impl_reaches_l0 d g ((N g : Nat) : Int) (v : Int) = some (RT g d v m)
  | 0, v, hv => by
    have : v = N g := by omega
    subst this
    rw [impl_reaches_l0_eq, dec_lt_f]; rfl
  | m + 1, v, hv => by
    have hv' : v < N g := by omega
    have hn := gN hg
    have hl := less_p hg h hv'
    obtain ⟨h3, h4⟩ := dm_vec h hv'
    rw [impl_reaches_l0_eq, dec_lt_t hv', cond_true, ← Option.bind_assoc, hl, Option.bind_some, (W_p hg h3 h4).1, Option.bind_some, w64_succ hv' (by omega), impl_reach hg h m (v + 1) (by omega), RT]
    cases W g (dm d v) <;> rfl
theorem impl_reaches_p {g : Gr} (hg : GOk g) {d : List Int} (h : Sd g d) : impl_reaches g d = some (RB g d) := by
  rw [impl_reaches_eq, h.1]
  exact impl_reach hg h (N g) 0 (by omega)
theorem spec_reach {g : Gr} (hg : GOk g) {d : List Int} (h : Sd g d) {k : Int} {L : List (List Int)} {l i : Int} : ∀ (m v : Nat), v + m = N g → spec_l17Least_l4 g k d true (v : Int) L l i = cond (RT g d v m) (some d) (spec_l17Least_l2 g k L l (w64 (i + 1)))
  | 0, v, hv => by
    have hn := gN hg
    rw [spec_l17Least_l4_eq, decide_eq_false (by omega)]; rfl
  | m + 1, v, hv => by
    have hv' : v < N g := by omega
    have hn := gN hg
    obtain ⟨h1, h2⟩ := h.vec
    obtain ⟨h3, h4⟩ := dm_vec h hv'
    have b1 := h2 v hv'
    have i1 : inside (v : Int) d.length = true := inside_lt (by rw [h.1]; exact hv')
    have e : d.set v (w64 (d.getD v 0 - 1)) = dm d v := by
      unfold dm
      rw [w64_id (by omega) (by omega)]
    rw [spec_l17Least_l4_eq, decide_eq_true (by omega), cond_true, cond_true, List.nil_append, decide_eq_true (by rw [h.1, room]; simp only [List.length_nil]; omega), cond_true, i1, cond_true, cond_true, toNat_n, e, (W_p hg h3 h4).2.1, Option.bind_some, w64_succ hv' (by omega), RT]
    cases hw : W g (dm d v) with
    | true =>
      rw [Bool.true_and]
      exact spec_reach hg h m (v + 1) (by omega)
    | false =>
      rw [Bool.false_and, cond_false, spec_l17Least_l4_eq]
      cases decide (((v + 1 : Nat) : Int) < g.1) <;> rfl
theorem impl_find {g : Gr} (hg : GOk g) {k : Int} {L : List (List Int)} (hL : ∀ d ∈ L, Sd g d) (hl : L.length ≤ 100000000) : ∀ (m i : Nat), i + m = L.length → impl_GonalDivisor_l2 g k L (L.length : Int) (i : Int) = match (L.drop i).find? (RB g) with | some d => some (d, true) | none => impl_GonalDivisor_l0 g (w64 (k + 1))
  | 0, i, hi => by
    have : i = L.length := by omega
    subst this
    rw [impl_GonalDivisor_l2_eq, dec_lt_f, List.drop_length]; rfl
  | m + 1, i, hi => by
    have hi' : i < L.length := by omega
    rw [impl_GonalDivisor_l2_eq, dec_lt_t hi', inside_lt hi', toNat_n, impl_reaches_p hg (hL _ (getD_mem [] hi')), w64_succ hi' (by omega), List.drop_eq_getElem_cons hi', getD_lt hi', List.find?_cons]
    simp only [cond_true, Option.bind_some]
    cases RB g L[i] with
    | true => rfl
    | false => exact impl_find hg hL hl m (i + 1) (by omega)
theorem spec_find {g : Gr} (hg : GOk g) {k : Int} {L : List (List Int)} (hL : ∀ d ∈ L, Sd g d) (hl : L.length ≤ 100000000) : ∀ (m i : Nat), i + m = L.length → spec_l17Least_l2 g k L (L.length : Int) (i : Int) = match (L.drop i).find? (RB g) with | some d => some d | none => spec_l17Least_l0 g (w64 (k + 1))
  | 0, i, hi => by
    have : i = L.length := by omega
    subst this
    rw [spec_l17Least_l2_eq, dec_lt_f, List.drop_length]; rfl
  | m + 1, i, hi => by
    have hi' : i < L.length := by omega
    have hr := spec_reach hg (hL _ (getD_mem [] hi')) (k := k) (L := L) (l := (L.length : Int)) (i := (i : Int)) (N g) 0 (by omega)
    have hr' : spec_l17Least_l4 g k (L.getD i []) true 0 L (L.length : Int) (i : Int) = cond (RB g (L.getD i [])) (some (L.getD i [])) (spec_l17Least_l2 g k L (L.length : Int) (w64 ((i : Int) + 1))) := hr
    rw [spec_l17Least_l2_eq, dec_lt_t hi', inside_lt hi', toNat_n, hr', w64_succ hi' (by omega), List.drop_eq_getElem_cons hi', getD_lt hi', List.find?_cons]
    simp only [cond_true]
    cases RB g L[i] with
    | true => rfl
    | false => exact spec_find hg hL hl m (i + 1) (by omega)
theorem eff_Sd {g : Gr} (hg : GOk g) {k : Nat} (hk : k ≤ 9) {d : List Int} (h : d ∈ eff (N g - 1) k) : Sd g d := by
  have hn := gN hg
  obtain ⟨h1, h2⟩ := eff_mem h
  exact ⟨by omega, fun x hx => by have := h2 x hx; omega⟩
theorem RT_ones {g : Gr} (hg : GOk g) {d : List Int} (h : Sd g d) (h1 : ∀ w, w < N g → 1 ≤ d.getD w 0) : ∀ (m v : Nat), v + m = N g → RT g d v m = true
  | 0, _, _ => rfl
  | m + 1, v, hv => by
    have hv' : v < N g := by omega
    obtain ⟨h3, h4⟩ := dm_vec h hv'
    have hw := (W_p hg h3 h4).2.2 fun w hw => by
      have a := h1 v hv'
      have b := h1 w hw
      show 0 ≤ (if w = v then d.getD v 0 - 1 else d.getD w 0)
      split <;> omega
    rw [RT, hw, RT_ones hg h h1 m (v + 1) (by omega)]; rfl
theorem find_ex {g : Gr} (hg : GOk g) : ∀ (m k : Nat), k + m = N g → 1 ≤ k → ∃ d, Sd g d ∧ impl_GonalDivisor_l0 g (k : Int) = some (d, true) ∧ spec_l17Least_l0 g (k : Int) = some d := by
  have hn := gN hg
  have hlen : ∀ k, k ≤ 9 → (eff (N g - 1) k).length ≤ 100000000 := fun k hk => Nat.le_trans (eff_len _ k hk) (Nat.le_trans (Nat.pow_le_pow_right (by omega) (show N g - 1 ≤ 8 by omega)) (by decide))
  have step : ∀ k : Nat, k ≤ N g → impl_GonalDivisor_l0 g (k : Int) = (match (eff (N g - 1) k).find? (RB g) with | some d => some (d, true) | none => impl_GonalDivisor_l0 g ((k + 1 : Nat) : Int)) ∧ spec_l17Least_l0 g (k : Int) = (match (eff (N g - 1) k).find? (RB g) with | some d => some d | none => spec_l17Least_l0 g ((k + 1 : Nat) : Int)) := fun k hk => by
    have e1 := impl_eff (n := N g - 1) (by omega) k (by omega)
    have e2 := spec_eff (n := N g - 1) (by omega) k (by omega)
    have eg : (((N g - 1 : Nat) : Int) + 1) = g.1 := by omega
    rw [eg] at e1 e2
    have w : w64 ((k : Int) + 1) = ((k + 1 : Nat) : Int) := by rw [w64_id (by omega) (by omega)]; rfl
    have f1 := impl_find hg (k := (k : Int)) (L := eff (N g - 1) k) (fun d hd => eff_Sd hg (by omega) hd) (hlen k (by omega)) _ 0 (Nat.zero_add _)
    have f2 := spec_find hg (k := (k : Int)) (L := eff (N g - 1) k) (fun d hd => eff_Sd hg (by omega) hd) (hlen k (by omega)) _ 0 (Nat.zero_add _)
    rw [List.drop_zero, w] at f1 f2
    rw [impl_GonalDivisor_l0_eq, e1, Option.bind_some, spec_l17Least_l0_eq, e2, Option.bind_some]
    exact ⟨f1, f2⟩
  intro m
  induction m with
  | zero =>
    intro k hk h1
    have : k = N g := by omega
    subst this
    have hm : List.replicate (N g) (1 : Int) ∈ eff (N g - 1) (N g) := by
      have := ones_mem (N g - 1)
      rw [show N g - 1 + 1 = N g by omega] at this
      exact this
    have hs := eff_Sd hg (by omega) hm
    have hr : RB g (List.replicate (N g) (1 : Int)) = true := RT_ones hg hs (fun w hw => by
      rw [List.getD_eq_getElem?_getD, List.getElem?_replicate, if_pos hw]; exact Int.le_refl 1) _ 0 (by omega)
    obtain ⟨s1, s2⟩ := step (N g) (Nat.le_refl _)
    cases hf : (eff (N g - 1) (N g)).find? (RB g) with
    | none =>
      have := List.find?_eq_none.1 hf _ hm
      exact absurd hr this
    | some d =>
      rw [hf] at s1 s2
      exact ⟨d, eff_Sd hg (by omega) (List.mem_of_find?_eq_some hf), s1, s2⟩
  | succ m ih =>
    intro k hk h1
    obtain ⟨s1, s2⟩ := step k (by omega)
    cases hf : (eff (N g - 1) k).find? (RB g) with
    | none =>
      rw [hf] at s1 s2
      obtain ⟨d, k1, k2, k3⟩ := ih (k + 1) (by omega) (by omega)
      exact ⟨d, k1, s1.trans k2, s2.trans k3⟩
    | some d =>
      rw [hf] at s1 s2
      exact ⟨d, eff_Sd hg (by omega) (List.mem_of_find?_eq_some hf), s1, s2⟩
theorem genus_p {g : Gr} (h : g.2.length ≤ 1048576) : ∃ b r, spec_GraphOk g = some b ∧ impl_GraphOk g = some b ∧ (b = true ↔ GOk g) ∧ spec_GenusOf g = some r ∧ impl_GenusOf g = some r := by
  obtain ⟨b, p1, p2, p3⟩ := graphOk_p (g := g) (by omega)
  rw [spec_GenusOf_eq, impl_GenusOf_eq, p1, p2]
  cases b with
  | false => exact ⟨false, _, rfl, rfl, p3, rfl, rfl⟩
  | true => exact ⟨true, _, rfl, rfl, p3, rfl, rfl⟩
/-- both find the same -/
theorem gonal_p {g : Gr} (h : g.2.length ≤ 1048576) : (impl_GonalDivisor g = some ([], false) ∧ spec_l17Small g = some false) ∨ ∃ d, Sd g d ∧ GOk g ∧ impl_GonalDivisor g = some (d, true) ∧ spec_l17Small g = some true ∧ spec_l17Least g = some d ∧ ∃ r, spec_GenusOf g = some r ∧ impl_GenusOf g = some r ∧ r ≤ 5 := by
  obtain ⟨b, r, p1, p2, p3, p4, p5⟩ := genus_p h
  rw [impl_GonalDivisor_eq, spec_l17Small_eq, p1, p2, p4, p5]
  simp only [Option.bind_some]
  cases b with
  | false => exact .inl ⟨rfl, rfl⟩
  | true =>
    have hg := p3.1 rfl
    simp only [Bool.not_true, cond_false, cond_true]
    by_cases c1 : g.1 ≤ 5
    · rw [decide_eq_false (show ¬ g.1 > 5 by omega), decide_eq_true c1, cond_false, cond_true]
      by_cases c2 : r ≤ 5
      · rw [decide_eq_false (show ¬ r > 5 by omega), decide_eq_true c2, cond_false]
        obtain ⟨d, k1, k2, k3⟩ := find_ex hg (N g - 1) 1 (by have := gN hg; omega) (Nat.le_refl _)
        refine .inr ⟨d, k1, hg, k2, rfl, ?_, r, rfl, rfl, c2⟩
        rw [spec_l17Least_eq]
        exact k3
      · rw [decide_eq_true (show r > 5 by omega), decide_eq_false c2]
        exact .inl ⟨rfl, rfl⟩
    · rw [decide_eq_true (show g.1 > 5 by omega), decide_eq_false c1]
      exact .inl ⟨rfl, rfl⟩
theorem gonalityOf_p {g : Gr} (h : g.2.length ≤ 1048576) : ∃ r, impl_GonalityOf g = some r ∧ spec_GonalityOf g = some r ∧ (r.2 = true → ∃ s, spec_GenusOf g = some s ∧ impl_GenusOf g = some s ∧ s ≤ 5) := by
  rw [impl_GonalityOf_eq, spec_GonalityOf_eq]
  rcases gonal_p h with ⟨h1, h2⟩ | ⟨d, h1, hg, h2, h3, h4, h5⟩
  · rw [h1, h2]; exact ⟨_, rfl, rfl, fun k => by cases k⟩
  · obtain ⟨v1, v2⟩ := h1.vec
    have hn := gN hg
    obtain ⟨s1, s2⟩ := sumLoop (d := d) (by rw [h1.1]; omega) (fun k hk => by
      have := v2 k (by rw [← h1.1]; exact hk)
      omega)
    rw [h2, h3]
    simp only [Option.bind_some, Bool.not_true, cond_false]
    rw [h4, Option.bind_some, s2, impl_DegreeOf_eq, s1]
    exact ⟨_, rfl, rfl, fun _ => h5⟩
theorem law_GonalityOf {g : Gr} (h : g.2.length ≤ 9223372036854775807) : laws_FnExactGonalityOf g = some true := by
  rw [laws_FnExactGonalityOf_eq]
  obtain ⟨r, h1, h2⟩ := szGraph_p h (m := 1048576) (by omega) (by omega)
  rw [h1]
  simp only [Option.bind_some]
  by_cases c : r < 0
  · rw [decide_eq_true c]; rfl
  · have hl : g.2.length ≤ 1048576 := by have := h2 (by omega); omega
    obtain ⟨x, k1, k2, _⟩ := gonalityOf_p hl
    rw [decide_eq_false c, toGraph_p hl]
    simp only [cond_false, Option.bind_some, k1, k2, true_of (eqGraph_p h) rfl, Bool.not_true, beq_self_eq_true, bne_self_eq_false]
theorem law_IsHyperelliptic {g : Gr} (h : g.2.length ≤ 9223372036854775807) : laws_FnExactIsHyperelliptic g = some true := by
  rw [laws_FnExactIsHyperelliptic_eq]
  obtain ⟨r, h1, h2⟩ := szGraph_p h (m := 1048576) (by omega) (by omega)
  rw [h1]
  simp only [Option.bind_some]
  by_cases c : r < 0
  · rw [decide_eq_true c]; rfl
  · have hl : g.2.length ≤ 1048576 := by have := h2 (by omega); omega
    obtain ⟨x, k1, k2, k3⟩ := gonalityOf_p hl
    have key : ∃ b, impl_IsHyperelliptic g = some b ∧ spec_IsHyperelliptic g = some b := by
      rw [impl_IsHyperelliptic_eq, spec_IsHyperelliptic_eq, k1, k2]
      simp only [Option.bind_some]
      cases hx : x.2 with
      | false => exact ⟨_, rfl, rfl⟩
      | true =>
        obtain ⟨s, s1, s2, s3⟩ := k3 hx
        simp only [cond_true]
        cases (x.1 : Int) == 2 with
        | false => exact ⟨_, rfl, rfl⟩
        | true =>
          rw [cond_true, cond_true, s1, s2]
          simp only [Option.bind_some, within_p]
          refine ⟨_, rfl, congrArg some (decide_eq_decide.2 ?_)⟩
          omega
    obtain ⟨b, b1, b2⟩ := key
    rw [decide_eq_false c, toGraph_p hl]
    simp only [cond_false, Option.bind_some, b1, b2, true_of (eqGraph_p h) rfl, Bool.not_true, beq_self_eq_true]
theorem gonalDiv_p {g : Gr} (h : g.2.length ≤ 1048576) : ∃ r, impl_GonalDivisor g = some r ∧ spec_GonalDivisor g = some r ∧ r.1.length ≤ 6 := by
  rw [spec_GonalDivisor_eq]
  rcases gonal_p h with ⟨h1, h2⟩ | ⟨d, h0, hg, h1, h2, h3, _⟩
  · rw [h1, h2]; exact ⟨([], false), rfl, rfl, Nat.zero_le _⟩
  · rw [h1, h2]
    simp only [Option.bind_some, Bool.not_true, cond_false, h3]
    exact ⟨(d, true), rfl, rfl, by have := gN hg; show d.length ≤ 6; rw [h0.1]; omega⟩
theorem law_GonalDivisor {g : Gr} (hg : g.2.length ≤ 9223372036854775807) : laws_FnExactGonalDivisor g = some true := by
  rw [laws_FnExactGonalDivisor_eq]
  obtain ⟨r, k1, k2⟩ := szGraph_p hg (m := 1048576) (by omega) (by omega)
  rw [k1]
  simp only [cond_false, Option.bind_some]
  by_cases c : r < 0
  · rw [decide_eq_true c]; rfl
  have hl : g.2.length ≤ 1048576 := by have := k2 (by omega); omega
  have t1 := toGraph_p (a := g) hl
  have e1 : laws_eqGraph g g = some true := true_of (eqGraph_p hg) rfl
  obtain ⟨x, p1, p2, p3⟩ := gonalDiv_p hl
  have e3 : laws_eqIntS x.1 x.1 = some true := true_of (eqIntS_p (by omega)) rfl
  obtain ⟨q1, m1, n1⟩ := markGraph_p (a := g) (m := 1) (by omega) (by omega)
  have m3 := markIntS_p (a := x.1) (m := 1) (by omega) (by omega)
  have m4 := heldIntS_p (m := 1) (n := x.1.length) (by omega) (by omega)
  have z1 : ¬ q1.1 < 0 := by omega
  have z2 : ¬ (1 : Int) + (x.1.length : Int) < 0 := by omega
  rw [decide_eq_false c]
  simp only [t1, e1, e3, p1, p2, Option.bind_some, cond_false, Bool.not_true, beq_self_eq_true, bne_self_eq_false, laws_FnExactGonalDivisor_c13_eq, m1, m3, m4, decide_eq_false z1, decide_eq_false z2, laws_FnExactGonalDivisor_c25_eq]
end Go.Proofs.Ytdkokleocohepaa.D

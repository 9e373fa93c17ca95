/-
  A game that is lost: the fire's order, the orientation that it leaves, and why no script wins against it.
-/
import Derived.Test.YthmddgkpebneoaaDoorPureWl
namespace Go.Proofs.YthmddgkpebneoaaDoor.D
open Go Go.Den
set_option linter.unusedVariables false
set_option linter.unusedSimpArgs false
/-! ### the order of the fire -/
structure Od (g : Gr) (q : Nat) (D : Nat → Int) (L : List Nat) : Prop where
  head : L.getD 0 0 = q
  step : ∀ j, 0 < j → j < L.length → D (L.getD j 0) < outd (Eg g) (cmp (L.take j)) (L.getD j 0)
theorem getD_app2 {α : Type} {d : α} {l t : List α} {i : Nat} (h : i < l.length) : (l ++ t).getD i d = l.getD i d := by
  rw [List.getD_eq_getElem?_getD, List.getD_eq_getElem?_getD, List.getElem?_append_left h]
theorem burn_o {g : Gr} (hg : GOk g) {d : List Int} {D : Nat → Int} (hd : vec (N g) d D) {q : Nat} (hq : q < N g) : ∃ L, impl_burn g d (q : Int) = some (ints L) ∧ BI (N g) (Eg g) q D L ∧ Fin' (N g) (Eg g) D L ∧ Od g q D L := by
  obtain ⟨gE1, gE2, gE3⟩ := gE hg
  have hn := gN hg
  rw [impl_burn_eq]
  have key : ∀ (m : Nat) (L : List Nat), L.length + m = N g + 1 → 0 < L.length → BI (N g) (Eg g) q D L → Od g q D L → ∃ L', impl_burn_l0 d g (ints L) = some (ints L') ∧ BI (N g) (Eg g) q D L' ∧ Fin' (N g) (Eg g) D L' ∧ Od g q D L' := by
    intro m
    induction m with
    | zero => intro L hl _ hB; have := hB.len; omega
    | succ m ih =>
      intro L hl h0 hB hO
      rw [impl_burn_l0_eq]
      rcases impl_l2_n hg hd hB (N g) 0 (by omega) (fun v hv => by omega) with ⟨v, h1, h2⟩ | ⟨h1, h2⟩
      · have hO' : Od g q D (L ++ [v]) := by
          refine ⟨by rw [getD_app2 h0]; exact hO.head, fun j j0 hj => ?_⟩
          rw [List.length_append, List.length_singleton] at hj
          rcases Nat.lt_or_ge j L.length with c | c
          · rw [getD_app2 c, List.take_append_of_le_length (by omega)]
            exact hO.step j j0 c
          · have e : j = L.length := by omega
            subst e
            have e2 : (L ++ [v]).getD L.length 0 = v := by
              rw [List.getD_eq_getElem?_getD, List.getElem?_append_right (Nat.le_refl _), Nat.sub_self]; rfl
            rw [e2, List.take_left']
            · exact h1.2.2.1
            · rfl
        obtain ⟨L', q1, q2, q3, q4⟩ := ih (L ++ [v]) (by rw [List.length_append]; simp only [List.length_cons, List.length_nil]; omega) (by simp) (hB.add gE1 h1.1 h1.2.1 h1.2.2.1) hO'
        exact ⟨L', h2.trans q1, q2, q3, q4⟩
      · exact ⟨L, h2, hB, h1, hO⟩
  exact key (N g) [q] (by simp; omega) (by simp) (BI.start hq) ⟨rfl, fun j j0 hj => by simp at hj; omega⟩
/-- all burns where the divisor is reduced -/
theorem burn_all {n q : Nat} {E : Es} {D : Nat → Int} {L : List Nat} (hB : BI n E q D L) (hF : Fin' n E D L) (hR : Red n E q D) : ∀ v, v < n → v ∈ L := by
  intro v hv
  apply Classical.byContradiction
  intro c
  obtain ⟨u, u1, u2, u3⟩ := hR.no (cmp L) ⟨v, hv, cmp_t.2 c⟩ (cmp_f.2 hB.hq)
  have := hF u u1 (cmp_t.1 u2)
  omega
/-! ### the orientation -/
def ps (L : List Nat) (v : Nat) : Nat := L.idxOf v
theorem ps_lt {L : List Nat} {v : Nat} (h : v ∈ L) : ps L v < L.length := List.idxOf_lt_length_iff.2 h
theorem ps_at {L : List Nat} {v : Nat} (h : v ∈ L) : L.getD (ps L v) 0 = v := by
  rw [getD_lt (ps_lt h)]
  exact List.getElem_idxOf (ps_lt h)
theorem ps_inj {L : List Nat} {u v : Nat} (hu : u ∈ L) (hv : v ∈ L) (h : ps L u = ps L v) : u = v := by
  rw [← ps_at hu, ← ps_at hv, h]
theorem ps_take {L : List Nat} (hn : L.Nodup) {w : Nat} (hw : w ∈ L) {j : Nat} (hj : j ≤ L.length) : w ∈ L.take j ↔ ps L w < j := by
  constructor
  · intro h
    obtain ⟨i, hi, e⟩ := List.getElem_of_mem h
    rw [List.length_take] at hi
    rw [List.getElem_take] at e
    have hp := ps_at hw
    rw [getD_lt (ps_lt hw)] at hp
    rcases Nat.lt_trichotomy i (ps L w) with c | c | c
    · exact absurd (e.trans hp.symm) ((List.pairwise_iff_getElem.1 hn) i (ps L w) (by omega) (ps_lt hw) c)
    · omega
    · exact absurd (hp.trans e.symm) ((List.pairwise_iff_getElem.1 hn) (ps L w) i (ps_lt hw) (by omega) c)
  · intro h
    have hp := ps_at hw
    rw [getD_lt (ps_lt hw)] at hp
    exact List.mem_iff_getElem.2 ⟨ps L w, by rw [List.length_take]; have := ps_lt hw; omega, by rw [List.getElem_take]; exact hp⟩
def toE (L : List Nat) (e : Nat × Nat) : Nat := if ps L e.1 < ps L e.2 then e.2 else e.1
def frE (L : List Nat) (e : Nat × Nat) : Nat := if ps L e.1 < ps L e.2 then e.1 else e.2
def indg (L : List Nat) (v : Nat) : Es → Int
  | [] => 0
  | e :: E => (if toE L e = v then 1 else 0) + indg L v E
theorem indg_app (L : List Nat) (v : Nat) (e : Nat × Nat) : ∀ E : Es, indg L v (E ++ [e]) = indg L v E + if toE L e = v then 1 else 0
  | [] => by simp [indg]
  | a :: E => by rw [List.cons_append, indg, indg, indg_app L v e E]; omega
theorem indg_bd (L : List Nat) (v : Nat) : ∀ E : Es, 0 ≤ indg L v E ∧ indg L v E ≤ (E.length : Int)
  | [] => by simp [indg]
  | a :: E => by
    have := indg_bd L v E
    rw [indg, List.length_cons]
    split <;> omega
theorem indg_out {n : Nat} {L : List Nat} (hn : L.Nodup) (hall : ∀ w, w < n → w ∈ L) {v : Nat} (hv : v < n) : ∀ {E : Es}, GE n E → indg L v E = outd E (cmp (L.take (ps L v))) v
  | [], _ => rfl
  | e :: E, hE => by
    have he := hE e List.mem_cons_self
    have h1 := hall e.1 (by omega)
    have h2 := hall e.2 he.2
    have hle : ps L v ≤ L.length := Nat.le_of_lt (ps_lt (hall v hv))
    have hne : ps L e.1 ≠ ps L e.2 := fun c => by have := ps_inj h1 h2 c; omega
    rw [indg, outd_cons, indg_out hn hall hv hE.tail]
    congr 1
    have cm : ∀ w, w < n → cmp (L.take (ps L v)) w = decide (ps L v ≤ ps L w) := fun w hw => by
      have := ps_take hn (hall w hw) hle
      by_cases c : ps L w < ps L v
      · rw [cmp_f.2 (this.2 c), decide_eq_false (by omega)]
      · rw [cmp_t.2 fun k => c (this.1 k), decide_eq_true (by omega)]
    rw [cm e.1 (by omega), cm e.2 he.2]
    unfold toE
    by_cases c1 : v = e.1
    · subst c1
      rw [if_pos rfl]
      by_cases c : ps L e.1 < ps L e.2
      · rw [if_pos c, if_neg (by omega), decide_eq_true (by omega)]; rfl
      · rw [if_neg c, if_pos rfl, decide_eq_false (by omega)]; rfl
    · rw [if_neg c1]
      by_cases c2 : v = e.2
      · subst c2
        rw [if_pos rfl]
        by_cases c : ps L e.1 < ps L e.2
        · rw [if_pos c, if_pos rfl, decide_eq_false (by omega)]; rfl
        · rw [if_neg c, if_neg (fun k => c1 k.symm), decide_eq_true (by omega)]; rfl
      · rw [if_neg c2]
        split
        · rw [if_neg (fun k => c2 k.symm)]
        · rw [if_neg (fun k => c1 k.symm)]
/-- an orientation without circles wins against every script -/
theorem acyc_lost {n : Nat} {E : Es} (hE : GE n E) {L : List Nat} (hn : L.Nodup) (hall : ∀ w, w < n → w ∈ L) (h0 : 0 < n) (S : Nat → Int) : ∃ v, v < n ∧ (indg L v E - 1) - lap E S v < 0 := by
  -- the greatest number of the script
  have hmax : ∀ m, 0 < m → m ≤ n → ∃ M, (∃ v, v < m ∧ S v = M) ∧ ∀ w, w < m → S w ≤ M := by
    intro m
    induction m with
    | zero => intro h; omega
    | succ m ih =>
      intro _ hm
      rcases Nat.eq_zero_or_pos m with c | c
      · subst c; exact ⟨S 0, ⟨0, by omega, rfl⟩, fun w hw => by rw [show w = 0 by omega]; exact Int.le_refl _⟩
      · obtain ⟨M, ⟨v, v1, v2⟩, h2⟩ := ih c (by omega)
        by_cases k : S m ≤ M
        · exact ⟨M, ⟨v, by omega, v2⟩, fun w hw => by
            by_cases e : w = m
            · rw [e]; exact k
            · exact h2 w (by omega)⟩
        · exact ⟨S m, ⟨m, by omega, rfl⟩, fun w hw => by
            by_cases e : w = m
            · rw [e]; exact Int.le_refl _
            · have := h2 w (by omega); omega⟩
  obtain ⟨M, ⟨v0, v1, v2⟩, hM⟩ := hmax n h0 (Nat.le_refl _)
  -- the first of these in the order
  have first : ∀ p, (∃ v, v < n ∧ S v = M ∧ ps L v ≤ p) → ∃ v, v < n ∧ S v = M ∧ ∀ w, w < n → S w = M → ps L v ≤ ps L w := by
    intro p
    induction p with
    | zero => rintro ⟨v, a, b, c⟩; exact ⟨v, a, b, fun w _ _ => by omega⟩
    | succ p ih =>
      rintro ⟨v, a, b, c⟩
      by_cases k : ∃ w, w < n ∧ S w = M ∧ ps L w < ps L v
      · obtain ⟨w, w1, w2, w3⟩ := k
        exact ih ⟨w, w1, w2, by omega⟩
      · refine ⟨v, a, b, fun w hw hs => ?_⟩
        rcases Nat.lt_or_ge (ps L w) (ps L v) with u | u
        · exact absurd ⟨w, hw, hs, u⟩ k
        · exact u
  obtain ⟨v, a, b, c⟩ := first (ps L v0) ⟨v0, v1, v2, Nat.le_refl _⟩
  refine ⟨v, a, ?_⟩
  let A : Nat → Bool := fun w => decide (S w = M)
  have ht := lap_top (s := S) (M := M) (A := A) a (fun w _ => decide_eq_true_iff) hM (decide_eq_true b) hE
  have hle : ps L v ≤ L.length := Nat.le_of_lt (ps_lt (hall v a))
  have hm := outd_mono (A := A) (B := cmp (L.take (ps L v))) (v := v) (fun w hw h => cmp_t.2 fun k => by
    have h1 := (ps_take hn (hall w hw) hle).1 k
    have h2 := c w hw (of_decide_eq_true h)
    omega) hE
  rw [indg_out hn hall a hE]
  omega
/-! ### the program's answers -/
theorem index_o {L : List Nat} (hl : L.length ≤ 1000) {v : Nat} (hv : v ∈ L) : slices_Index_int_int (ints L) (v : Int) = some ((ps L v : Nat) : Int) := by
  have hp := ps_lt hv
  have key : ∀ (m k : Nat), k + m = ps L v → slices_Index_int_int_l0 (ints L) (v : Int) ((ints L).length : Int) (k : Int) = some ((ps L v : Nat) : Int) := by
    intro m
    induction m with
    | zero =>
      intro k hk
      have : k = ps L v := by omega
      subst this
      rw [slices_Index_int_int_l0_eq, dec_lt_t (by rw [ints_len]; exact hp), inside_lt (by rw [ints_len]; exact hp), toNat_n, ints_getD hp, ps_at hv, beq_self_eq_true]; rfl
    | succ m ih =>
      intro k hk
      have hk' : k < L.length := by omega
      have hne : ¬ (v : Int) = ((L.getD k 0 : Nat) : Int) := fun c => by
        have hm : L.getD k 0 ∈ L := getD_mem 0 hk'
        have e : v = L.getD k 0 := by omega
        have h2 : ps L v ≤ k := by
          rcases Nat.lt_or_ge k (ps L v) with c | c
          · exfalso
            have := List.not_of_lt_findIdx (p := (· == v)) (xs := L) (i := k) c
            rw [getD_lt hk'] at e
            simp [← e] at this
          · exact c
        omega
      rw [slices_Index_int_int_l0_eq, dec_lt_t (by rw [ints_len]; exact hk'), inside_lt (by rw [ints_len]; exact hk'), toNat_n, ints_getD hk', beq_f hne, w64_succ hk' (by omega)]
      exact ih (k + 1) (by omega)
  rw [slices_Index_int_int_eq]
  exact key (ps L v) 0 (by omega)
def orB (L : List Nat) (e : Nat × Nat) : Int := if ps L e.1 < ps L e.2 then 0 else 1
theorem rmapS {α : Type} (f : Nat → α) (k : Nat) : (List.range k).map f ++ [f k] = (List.range (k + 1)).map f := by
  rw [List.range_succ, List.map_append]; rfl
def oL (g : Gr) (L : List Nat) : List Int := (List.range g.2.length).map fun k => orB L ((Eg g).getD k (0, 0))
theorem oL_len (g : Gr) (L : List Nat) : (oL g L).length = g.2.length := by simp [oL]
theorem oL_at {g : Gr} {L : List Nat} {k : Nat} (h : k < g.2.length) : (oL g L).getD k 0 = orB L ((Eg g).getD k (0, 0)) := getD_range_map _ h
theorem burnt_o {g : Gr} (hg : GOk g) {L : List Nat} (hl : L.length ≤ 1000) (hall : ∀ w, w < N g → w ∈ L) : impl_burnt g (ints L) = some (oL g L) := by
  have h12 := hg.1.2.1
  have key : ∀ (m k : Nat), k + m = g.2.length → impl_burnt_l0 (ints L) ((List.range k).map fun k => orB L ((Eg g).getD k (0, 0))) g.2 (g.2.length : Int) (k : Int) = some (oL g L) := by
    intro m
    induction m with
    | zero =>
      intro k hk
      have : k = g.2.length := by omega
      subst this
      rw [impl_burnt_l0_eq, dec_lt_f]; rfl
    | succ m ih =>
      intro k hk
      have hk' : k < g.2.length := by omega
      obtain ⟨a, b, e1, e2, hab, hb⟩ := gEk hg hk'
      have next := ih (k + 1) (by omega)
      rw [← rmapS (fun k => orB L ((Eg g).getD k (0, 0))), e2] at next
      have hlen : ((List.range k).map fun k => orB L ((Eg g).getD k (0, 0))).length = k := by simp
      rw [impl_burnt_l0_eq, dec_lt_t hk', inside_lt hk', toNat_n, e1, w64_succ hk' (by omega)]
      simp only [cond_true]
      rw [index_o hl (hall a (by omega)), Option.bind_some, index_o hl (hall b hb), Option.bind_some]
      by_cases c : ps L a < ps L b
      · have eo : orB L (a, b) = 0 := if_pos c
        rw [eo] at next
        rw [decide_eq_true (by omega), cond_true, decide_eq_true (by rw [room, hlen]; simp only [List.length_singleton]; omega), cond_true]
        exact next
      · have eo : orB L (a, b) = 1 := if_neg c
        rw [eo] at next
        rw [decide_eq_false (by omega), cond_false, decide_eq_true (by rw [room, hlen]; simp only [List.length_singleton]; omega), cond_true]
        exact next
  rw [impl_burnt_eq]
  exact key g.2.length 0 (by omega)
theorem ends_o {g : Gr} (hg : GOk g) {L : List Nat} {k : Nat} (hk : k < g.2.length) : impl_ends g (oL g L) (k : Int) = some (((frE L ((Eg g).getD k (0, 0)) : Nat) : Int), ((toE L ((Eg g).getD k (0, 0)) : Nat) : Int)) := by
  obtain ⟨a, b, e1, e2, hab, hb⟩ := gEk hg hk
  rw [impl_ends_eq, inside_lt (by rw [oL_len]; exact hk), inside_lt hk, toNat_n, oL_at hk, e1, e2]
  simp only [cond_true]
  unfold orB frE toE
  by_cases c : ps L a < ps L b
  · rw [if_pos c, if_pos c, if_pos c]; rfl
  · rw [if_neg c, if_neg c, if_neg c]; rfl
theorem to_lt {g : Gr} (hg : GOk g) {L : List Nat} {k : Nat} (hk : k < g.2.length) : toE L ((Eg g).getD k (0, 0)) < N g ∧ frE L ((Eg g).getD k (0, 0)) < N g := by
  obtain ⟨a, b, e1, e2, hab, hb⟩ := gEk hg hk
  rw [e2]
  unfold toE frE
  simp only
  split <;> omega
theorem orOk_o {g : Gr} (hg : GOk g) {L : List Nat} : impl_OrientOk g (oL g L) = some true := by
  have h12 := hg.1.2.1
  obtain ⟨b, b1, b2⟩ := impl_GraphOk_p (g := g) (by omega)
  have hb := b2.2 hg
  subst hb
  obtain ⟨b, w1, w2⟩ := allWithin_p (l := oL g L) (lo := 0) (hi := 1) (by rw [oL_len]; omega)
  have hb := w2.2 fun j hj => by
    rw [oL_len] at hj
    rw [oL_at hj]
    unfold orB
    split <;> omega
  subst hb
  rw [impl_OrientOk_eq, b1, Option.bind_some, cond_true, beq_t (by rw [oL_len]), cond_true, w1]; rfl
theorem divOf_o {g : Gr} (hg : GOk g) {L : List Nat} : ∃ e, impl_DivisorOfOrient g (oL g L) = some (e, true) ∧ vec (N g) e (fun v => indg L v (Eg g) - 1) := by
  obtain ⟨gE1, gE2, gE3⟩ := gE hg
  have hn := gN hg
  have h12 := hg.1.2.1
  rw [impl_DivisorOfOrient_eq, orOk_o hg]
  simp only [Option.bind_some, Bool.not_true, cond_false]
  have hr : (decide (0 ≤ g.1) && decide (g.1 ≤ (room : Int))) = true := by
    rw [decide_eq_true (by omega), decide_eq_true (by unfold room; omega)]; rfl
  rw [hr, cond_true]
  have l0 : ∀ (m k : Nat) (x : List Int), k + m = N g → vec (N g) x (fun v => if v < k then -1 else 0) → ∃ x', impl_DivisorOfOrient_l0 (oL g L) g x ((N g : Nat) : Int) (k : Int) = impl_DivisorOfOrient_l2 (oL g L) g x' (((oL g L).length : Nat) : Int) 0 ∧ vec (N g) x' (fun _ => -1) := by
    intro m
    induction m with
    | zero =>
      intro k x hk hx
      have : k = N g := by omega
      subst this
      rw [impl_DivisorOfOrient_l0_eq, dec_lt_f]
      exact ⟨x, rfl, hx.congr fun w hw => if_pos hw⟩
    | succ m ih =>
      intro k x hk hx
      have hk' : k < N g := by omega
      rw [impl_DivisorOfOrient_l0_eq, dec_lt_t hk', inside_lt (by rw [hx.1]; exact hk'), toNat_n, w64_succ hk' (by omega)]
      simp only [cond_true]
      exact ih (k + 1) _ (by omega) ((hx.set hk' _).congr fun w hw => by
        by_cases c : w = k
        · subst c; rw [if_pos rfl, if_pos (by omega)]
        · rw [if_neg c]
          by_cases c2 : w < k
          · rw [if_pos c2, if_pos (by omega)]
          · rw [if_neg c2, if_neg (by omega)])
  have l2 : ∀ (m k : Nat) (x : List Int), k + m = g.2.length → vec (N g) x (fun v => indg L v ((Eg g).take k) - 1) → ∃ e, impl_DivisorOfOrient_l2 (oL g L) g x (g.2.length : Int) (k : Int) = some (e, true) ∧ vec (N g) e (fun v => indg L v (Eg g) - 1) := by
    intro m
    induction m with
    | zero =>
      intro k x hk hx
      have : k = g.2.length := by omega
      subst this
      rw [impl_DivisorOfOrient_l2_eq, dec_lt_f]
      rw [← gE3, List.take_length] at hx
      exact ⟨x, rfl, hx⟩
    | succ m ih =>
      intro k x hk hx
      have hk' : k < g.2.length := by omega
      have ht := (to_lt (L := L) hg hk').1
      have hb := indg_bd L (toE L ((Eg g).getD k (0, 0))) ((Eg g).take k)
      have hbl : ((Eg g).take k).length ≤ 12 := by rw [List.length_take]; omega
      rw [impl_DivisorOfOrient_l2_eq, dec_lt_t hk', cond_true, ends_o hg hk', Option.bind_some]
      simp only
      have hv : x.getD (toE L ((Eg g).getD k (0, 0))) 0 = indg L (toE L ((Eg g).getD k (0, 0))) ((Eg g).take k) - 1 := hx.2 _ ht
      rw [inside_lt (by rw [hx.1]; exact ht), cond_true, cond_true, toNat_n, hv, w64_id (by omega) (by omega), w64_succ hk' (by omega)]
      refine ih (k + 1) _ (by omega) ((hx.set ht _).congr fun w hw => ?_)
      show (if w = toE L ((Eg g).getD k (0, 0)) then indg L (toE L ((Eg g).getD k (0, 0))) ((Eg g).take k) - 1 + 1 else indg L w ((Eg g).take k) - 1) = indg L w ((Eg g).take (k + 1)) - 1
      have et : (Eg g).take (k + 1) = (Eg g).take k ++ [(Eg g).getD k (0, 0)] := by
        rw [List.take_add_one, List.getD_eq_getElem?_getD, List.getElem?_eq_getElem (by omega)]; rfl
      rw [et, indg_app]
      by_cases c : w = toE L ((Eg g).getD k (0, 0))
      · rw [if_pos c, if_pos c.symm, c]; omega
      · rw [if_neg c, if_neg (fun k => c k.symm)]; omega
  have hx0 : vec (N g) (List.replicate g.1.toNat (0 : Int)) (fun v => if v < 0 then -1 else 0) := (vec.zero (N g)).congr fun w hw => by rw [if_neg (by omega)]
  obtain ⟨x', a1, a2⟩ := l0 (N g) 0 _ (by omega) hx0
  obtain ⟨e, c1, c2⟩ := l2 g.2.length 0 x' (by omega) (a2.congr fun w hw => by simp [indg])
  refine ⟨e, ?_, c2⟩
  rw [List.length_replicate]
  refine a1.trans ?_
  rw [oL_len]
  exact c1
theorem bits_and_p {x y : Nat} (hx : x < 2 ^ 62) (hy : y < 2 ^ 62) : bits .and .i64 (x : Int) (y : Int) = ((x &&& y : Nat) : Int) := by
  have h : x &&& y < 2 ^ 62 := Nat.and_lt_two_pow x hy
  have e1 : (BitVec.ofInt 64 (x : Int)) = BitVec.ofNat 64 x := by simp
  have e2 : (BitVec.ofInt 64 (y : Int)) = BitVec.ofNat 64 y := by simp
  show ((bitsD .and .i64 (x : Int) (y : Int)).getD 0) = _
  simp only [bitsD, Option.getD_some]
  show IntKind.i64.wrap (((BitVec.ofInt 64 (x : Int)) &&& (BitVec.ofInt 64 (y : Int))).toNat : Int) = _
  rw [e1, e2, BitVec.toNat_and, BitVec.toNat_ofNat, BitVec.toNat_ofNat, Nat.mod_eq_of_lt (by omega), Nat.mod_eq_of_lt (by omega)]
  exact w64_id (by omega) (by omega)
theorem acyclic_o {g : Gr} (hg : GOk g) {L : List Nat} (hnd : L.Nodup) (hall : ∀ w, w < N g → w ∈ L) (hl : L.length ≤ N g) : impl_IsAcyclic g (oL g L) = some true := by
  obtain ⟨gE1, gE2, gE3⟩ := gE hg
  have hn := gN hg
  have h12 := hg.1.2.1
  rw [impl_IsAcyclic_eq, orOk_o hg]
  simp only [Option.bind_some, Bool.not_true, cond_false]
  rw [decide_eq_false (by omega), cond_false]
  have inner : ∀ (left : Nat), left < 2 ^ 60 → ∀ (i : Int) (m k into : Nat), k + m = g.2.length → into < 2 ^ 60 → (∀ w, into.testBit w = true → ∃ j, j < g.2.length ∧ toE L ((Eg g).getD j (0, 0)) = w ∧ left.testBit (frE L ((Eg g).getD j (0, 0))) = true) → ∃ into', into' < 2 ^ 60 ∧ impl_IsAcyclic_l2 (oL g L) g (left : Int) (into : Int) g.1 i (((oL g L).length : Nat) : Int) (k : Int) = impl_IsAcyclic_l0 (oL g L) g (((left &&& into' : Nat)) : Int) g.1 (w64 (i + 1)) ∧ ∀ w, into'.testBit w = true → ∃ j, j < g.2.length ∧ toE L ((Eg g).getD j (0, 0)) = w ∧ left.testBit (frE L ((Eg g).getD j (0, 0))) = true := by
    intro left hleft i m
    induction m with
    | zero =>
      intro k into hk hi hw
      have : k = (oL g L).length := by rw [oL_len]; omega
      rw [this, impl_IsAcyclic_l2_eq, dec_lt_f, cond_false, bits_and_p (by omega) (by omega)]
      exact ⟨into, hi, rfl, hw⟩
    | succ m ih =>
      intro k into hk hi hw
      have hk' : k < g.2.length := by omega
      have ht := to_lt (L := L) hg hk'
      rw [impl_IsAcyclic_l2_eq, dec_lt_t (by rw [oL_len]; exact hk'), cond_true, ends_o hg hk', Option.bind_some]
      simp only
      rw [decide_eq_false (by omega), cond_false, toNat_n, bit_p (by omega) (by omega), decide_eq_false (by omega), cond_false, toNat_n, pow_p (by omega), w64_succ hk' (by omega)]
      cases c : left.testBit (frE L ((Eg g).getD k (0, 0))) with
      | false => exact ih (k + 1) into (by omega) hi hw
      | true =>
        have hp : 2 ^ toE L ((Eg g).getD k (0, 0)) < 2 ^ 60 := Nat.pow_lt_pow_right (by omega) (by omega)
        rw [cond_true, bits_or_p (by omega) (by omega)]
        refine ih (k + 1) _ (by omega) (Nat.or_lt_two_pow hi hp) fun w hb => ?_
        rw [Nat.testBit_or, Bool.or_eq_true] at hb
        rcases hb with hb | hb
        · exact hw w hb
        · rw [Nat.testBit_two_pow] at hb
          exact ⟨k, hk', of_decide_eq_true hb, c⟩
  have outer : ∀ (m i left : Nat), i + m = N g → left < 2 ^ 60 → (∀ w, left.testBit w = true → w < N g ∧ i ≤ ps L w) → impl_IsAcyclic_l0 (oL g L) g (left : Int) g.1 (i : Int) = some true := by
    intro m
    induction m with
    | zero =>
      intro i left hi hlt hw
      have hz : left = 0 := Nat.eq_of_testBit_eq fun w => by
        rw [Nat.zero_testBit]
        cases c : left.testBit w with
        | false => rfl
        | true =>
          have := hw w c
          have := ps_lt (hall w this.1)
          omega
      subst hz
      rw [impl_IsAcyclic_l0_eq, decide_eq_false (by omega)]; rfl
    | succ m ih =>
      intro i left hi hlt hw
      obtain ⟨into, a1, a2, a3⟩ := inner left hlt (i : Int) g.2.length 0 0 (by omega) (by decide) (fun w h => by rw [Nat.zero_testBit] at h; cases h)
      have a2' : impl_IsAcyclic_l2 (oL g L) g (left : Int) 0 g.1 (i : Int) (((oL g L).length : Nat) : Int) 0 = _ := a2
      rw [impl_IsAcyclic_l0_eq, decide_eq_true (by omega), cond_true, a2', w64_id (by omega) (by omega)]
      refine ih (i + 1) _ (by omega) (Nat.and_lt_two_pow _ a1) fun w hb => ?_
      rw [Nat.testBit_and, Bool.and_eq_true] at hb
      obtain ⟨h1, h2⟩ := hw w hb.1
      obtain ⟨j, j1, j2, j3⟩ := a3 w hb.2
      have h3 := (hw _ j3).2
      refine ⟨h1, ?_⟩
      obtain ⟨a, b, e1, e2, hab, hb'⟩ := gEk hg j1
      rw [e2] at j2 h3
      have hne : ps L a ≠ ps L b := fun c => by have := ps_inj (hall a (by omega)) (hall b hb') c; omega
      unfold toE at j2
      unfold frE at h3
      simp only at j2 h3
      by_cases c : ps L a < ps L b
      · rw [if_pos c] at j2 h3
        subst j2; omega
      · rw [if_neg c] at j2 h3
        subst j2; omega
  have hp : (2 : Nat) ^ N g < 2 ^ 60 := Nat.pow_lt_pow_right (by omega) (by omega)
  have hpos : 0 < (2 : Nat) ^ N g := Nat.pow_pos (by decide)
  rw [show g.1.toNat = N g from rfl, pow_p (by omega), w64_id (by omega) (by omega), show (((2 ^ N g : Nat)) : Int) - 1 = ((2 ^ N g - 1 : Nat) : Int) by omega]
  exact outer (N g) 0 _ (by omega) (by omega) fun w hb => by
    rw [Nat.testBit_two_pow_sub_one] at hb
    exact ⟨of_decide_eq_true hb, Nat.zero_le _⟩
end Go.Proofs.YthmddgkpebneoaaDoor.D

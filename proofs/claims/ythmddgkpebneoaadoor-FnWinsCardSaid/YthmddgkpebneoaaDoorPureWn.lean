/-
  The law FnWins.
-/
import Derived.Test.YthmddgkpebneoaaDoorPureFw
namespace Go.Proofs.YthmddgkpebneoaaDoor.D
open Go Go.Den
set_option linter.unusedVariables false
set_option linter.unusedSimpArgs false
theorem sameW_p {l : List Int} (h : l.length ≤ 1000) : laws_same l l = some true := by
  have key : ∀ m k, k + m = l.length → laws_same_l0 l l (l.length : Int) (k : Int) = some true := by
    intro m
    induction m with
    | zero =>
      intro k hk
      have : k = l.length := by omega
      subst this
      rw [laws_same_l0_eq, dec_lt_f]; rfl
    | succ m ih =>
      intro k hk
      have hk' : k < l.length := by omega
      rw [laws_same_l0_eq, dec_lt_t hk', inside_lt hk', w64_succ hk' (by omega)]
      simp only [cond_true, bne_self_eq_false, cond_false]
      exact ih (k + 1) (by omega)
  rw [laws_same_eq]
  simp only [bne_self_eq_false, cond_false]
  exact key l.length 0 (by omega)
theorem divOk_w {g : Gr} (hg : GOk g) {d : List Int} (hl : d.length = N g) (hd : ∀ x ∈ d, -60 ≤ x ∧ x ≤ 60) : impl_DivisorOk g d = some true := by
  have hn := gN hg
  have h12 := hg.1.2.1
  obtain ⟨b, b1, b2⟩ := impl_GraphOk_p (g := g) (by omega)
  have hb := b2.2 hg
  subst hb
  obtain ⟨b, w1, w2⟩ := allWithin_p (l := d) (lo := -60) (hi := 60) (by omega)
  have hb := w2.2 fun j hj => hd _ (getD_mem 0 hj)
  subst hb
  rw [impl_DivisorOk_eq, b1, Option.bind_some, cond_true, beq_t (by omega), cond_true, w1]; rfl
/-- won exactly if the sink is not in debt at the end -/
theorem winnable_o {g : Gr} (hg : GOk g) {d x y : List Int} {D O S : Nat → Int} (hd : vec (N g) d D) (hD : Bd (N g) 1000 D) (hr : impl_reduce g d 0 = some (x, y)) (hR : Rdd g 0 D x y O S) : impl_winnable g d = some (decide (O 0 ≥ 0)) := by
  have hn := gN hg
  have hs := sum_i (d := d) (by rw [hd.1]; omega) (fun k hk => by
    have := hD k (by rw [← hd.1]; exact hk)
    rw [hd.2 k (by rw [← hd.1]; exact hk)]; exact this)
  have hsm : sm d.length (fun w => d.getD w 0) = sm (N g) D := by
    rw [hd.1]; exact sm_congr fun v hv => hd.2 v hv
  rw [impl_winnable_eq, hs, hsm, Option.bind_some]
  by_cases c : sm (N g) D < 0
  · rw [decide_eq_true c, cond_true]
    have hO := hR.sum hg
    have hneg : ¬ O 0 ≥ 0 := fun k => by
      have : 0 ≤ sm (N g) O := sm_nonneg fun v hv => by
        by_cases e : v = 0
        · subst e; exact k
        · exact hR.red.pos v hv e
      omega
    rw [decide_eq_false hneg]
  · rw [decide_eq_false c, cond_false, hr, Option.bind_some]
    simp only
    rw [show inside 0 x.length = true from inside_lt (k := 0) (by rw [hR.vx.1]; omega), cond_true, hR.vx.2 0 (by omega)]
theorem law_Wins {l : List Int} : laws_FnWins l = some true := by
  rw [laws_FnWins_eq]
  by_cases c0 : (l.length : Int) > 1048576
  · rw [decide_eq_true c0]; rfl
  obtain ⟨c, c1, c2⟩ := new_p (l := l) (by omega)
  obtain ⟨g, c', g1, hG, g2, g3, _⟩ := graph_p c2
  have hmg : spec_MakeGraph l = some g := by rw [spec_MakeGraph_eq, c1, Option.bind_some, g1]; rfl
  obtain ⟨d, d1, d2, d3⟩ := div_p (l := l) (by omega) hG (n := 20) (by omega)
  have d1' : spec_MakeDivisor l 20 g = some d := d1
  obtain ⟨gE1, gE2, gE3⟩ := gE hG
  have hn := gN hG
  have h12 := hG.1.2.1
  have hdl : d.length = N g := by omega
  let D : Nat → Int := fun v => d.getD v 0
  have hd : vec (N g) d D := ⟨hdl, fun _ _ => rfl⟩
  have hD6 : ∀ v, v < N g → -2 ≤ D v ∧ D v ≤ 6 := fun v hv => d3 _ (getD_mem 0 (by omega))
  have hB : Bd (N g) 1000 D := fun v hv => by have := hD6 v hv; omega
  have hok := divOk_w hG hdl (fun x hx => by have := d3 x hx; omega)
  obtain ⟨x, y, O, S, r1, hR⟩ := reduce_i (q := 0) hG (by omega) hd hB
  have r1' : impl_reduce g d 0 = some (x, y) := r1
  have hw := winnable_o hG hd hB r1' hR
  have hiw : impl_IsWinnable g d = some (decide (O 0 ≥ 0)) := by rw [impl_IsWinnable_eq, hok, Option.bind_some, cond_true, hw]; rfl
  have hsum := hR.sum hG
  have sO : ∀ (z : List Int) (Z : Nat → Int), vec (N g) z Z → Bd (N g) 1000 Z → impl_DegreeOf z = some (sm (N g) Z) := fun z Z hz hZ => by
    have hs := sum_i (d := z) (by rw [hz.1]; omega) (fun k hk => by
      have hk' : k < N g := by rw [← hz.1]; exact hk
      have := hZ k hk'
      rw [hz.2 k hk']; exact this)
    rw [impl_DegreeOf_eq, hs, hz.1, Option.bind_some]
    exact congrArg some (sm_congr fun v hv => hz.2 v hv)
  rw [decide_eq_false c0, cond_false, hmg, Option.bind_some, d1', Option.bind_some]
  by_cases hc : O 0 ≥ 0
  · -- won
    rw [decide_eq_true hc] at hw hiw
    have hO0 : ∀ v, v < N g → 0 ≤ O v := fun v hv => by
      by_cases e : v = 0
      · subst e; exact hc
      · exact hR.red.pos v hv e
    have hDs : sm (N g) D ≤ 36 := by
      have h1 : sm (N g) D ≤ ((N g : Nat) : Int) * 6 := sm_const_le fun v hv => (hD6 v hv).2
      omega
    have hOb : ∀ v, v < N g → O v ≤ 36 := fun v hv => by
      have := sm_ge_one hO0 hv
      omega
    have hlap : ∀ v, v < N g → -40 ≤ lap (Eg g) S v ∧ lap (Eg g) S v ≤ 40 := fun v hv => by
      have a := hR.out v hv
      have b := hD6 v hv
      have e := hOb v hv
      have f := hO0 v hv
      omega
    have hgap := gap hG (S := S) (F := 40) (by omega) hlap
    obtain ⟨r, w, f1, f2, f3⟩ := lift_o hn.2 hR.vy hR.bd (by decide)
    have hSb : Bd (N g) 100000 (fun k => S k - S w) := fun v hv => by
      have a := hgap v hv
      have b := hgap w f2
      show -100000 ≤ S v - S w ∧ S v - S w ≤ 100000
      omega
    have hrI : ∀ z ∈ r, -100000 ≤ z ∧ z ≤ 100000 := fun z hz => by
      obtain ⟨j, hj, e⟩ := List.getElem_of_mem hz
      have hjn : j < N g := by rw [← f3.1]; exact hj
      have a := f3.2 j hjn
      rw [getD_lt hj, e] at a
      have b := hSb j hjn
      have a' : z = S j - S w := a
      have b' : -100000 ≤ S j - S w ∧ S j - S w ≤ 100000 := b
      omega
    have hws : impl_WinningScript g d = some (r, true) := by
      rw [impl_WinningScript_eq, hiw]
      simp only [Option.bind_some, Bool.not_true, cond_false]
      rw [r1', Option.bind_some]
      simp only
      rw [f1]; rfl
    have hI : ∀ z ∈ r, I64 z := fun z hz => by have := hrI z hz; exact ⟨by omega, by omega⟩
    have hfs := fd_size (d := r) (by rw [f3.1]; omega) hI
    have z1 : (⟨#[119, 111, 110, 32, 98, 121, 32]⟩ : ByteArray).size = 7 := rfl
    have hline : impl_WinLine g d = some ((⟨#[119, 111, 110, 32, 98, 121, 32]⟩ : ByteArray) ++ fd r) := by
      rw [impl_WinLine_eq, hok]
      simp only [Option.bind_some, Bool.not_true, cond_false]
      rw [hws, Option.bind_some]
      simp only [cond_true]
      rw [impl_FormatDivisor_p (d := r) (by rw [f3.1]; omega) hI, Option.bind_some, decide_eq_true (by omega)]; rfl
    obtain ⟨z, f4, f5⟩ := fired_o hG hd f3 hB hSb
    have hzO : vec (N g) z O := f5.congr fun v hv => by
      have e : lap (Eg g) (fun k => S k - S w) v = lap (Eg g) S v := by
        have e1 : lap (Eg g) (fun k => S k - S w) v = lap (Eg g) (fun k => S k + (- S w)) v := lap_congr hv (fun u _ => by omega) gE1
        rw [e1, lap_add (fun k => S k) (fun _ => - S w)]
        rw [lap_const hv (f := fun _ => - S w) (c := - S w) (fun _ _ => rfl) gE1]
        exact Int.add_zero _
      show D v - lap (Eg g) (fun k => S k - S w) v = O v
      rw [e, hR.out v hv]
    have hsok : impl_ScriptOk g r = some true := by
      obtain ⟨b, b1, b2⟩ := impl_GraphOk_p (g := g) (by omega)
      have hb := b2.2 hG
      subst hb
      obtain ⟨b, w1, w2⟩ := allWithin_p (l := r) (lo := -100000) (hi := 100000) (by rw [f3.1]; omega)
      have hb := w2.2 fun j hj => hrI _ (getD_mem 0 hj)
      subst hb
      rw [impl_ScriptOk_eq, b1, Option.bind_some, cond_true, beq_t (by rw [f3.1]; omega), cond_true, w1]; rfl
    have hfire : impl_FireScript g d r = some (z, true) := by
      rw [impl_FireScript_eq, hok]
      simp only [Option.bind_some, Bool.not_true, cond_false]
      rw [hsok]
      simp only [Option.bind_some, Bool.not_true, cond_false]
      rw [f4]; rfl
    obtain ⟨b, e1, e2⟩ := isEff_o (d := z) (by rw [hzO.1]; omega)
    have hb := e2.2 fun v hv => by
      have hv' : v < N g := by rw [← hzO.1]; exact hv
      rw [hzO.2 v hv']; exact hO0 v hv'
    subst hb
    have s1 := sO z O hzO (fun v hv => by have := hO0 v hv; have := hOb v hv; omega)
    have s2 := sO d D hd hB
    rw [hws, Option.bind_some, hok, Option.bind_some]
    simp only [Bool.not_true, cond_false]
    rw [hiw, Option.bind_some]
    simp only [beq_self_eq_true, Bool.not_true, cond_false]
    rw [hline, Option.bind_some, toList_eq, decide_eq_false (fun k => by
      have := congrArg ByteArray.size k
      rw [size_app] at this
      have e0 : (⟨#[]⟩ : ByteArray).size = 0 := rfl
      omega), cond_false, cond_true, hfire, Option.bind_some, laws_FnWins_c10_eq]
    simp only [cond_true]
    rw [e1, Option.bind_some, cond_true, s1, Option.bind_some, s2, Option.bind_some, hsum, beq_self_eq_true]
  · -- lost
    rw [decide_eq_false hc] at hw hiw
    obtain ⟨L, b1, b2, b3, b4⟩ := burn_o (q := 0) hG hR.vx (by omega)
    have b1' : impl_burn g x 0 = some (ints L) := b1
    have hall := burn_all b2 b3 hR.red
    have hLl := b2.len
    have hor : impl_OrientOfRank g d = some (oL g L, true) := by
      rw [impl_OrientOfRank_eq, hok]
      simp only [Option.bind_some, Bool.not_true, cond_false]
      rw [hw]
      simp only [Option.bind_some, cond_false]
      rw [r1', Option.bind_some]
      simp only
      rw [b1', Option.bind_some, burnt_o hG (by omega) hall]; rfl
    have hws : impl_WinningScript g d = some ([], false) := by
      rw [impl_WinningScript_eq, hiw]; rfl
    have hoI : ∀ z ∈ oL g L, I64 z := fun z hz => by
      obtain ⟨k, _, rfl⟩ := List.mem_map.1 hz
      unfold orB
      split <;> exact ⟨by omega, by omega⟩
    have hfs := fd_size (d := oL g L) (by rw [oL_len]; omega) hoI
    have z1 : (⟨#[108, 111, 115, 116, 58, 32]⟩ : ByteArray).size = 6 := rfl
    have hline : impl_WinLine g d = some ((⟨#[108, 111, 115, 116, 58, 32]⟩ : ByteArray) ++ fd (oL g L)) := by
      rw [impl_WinLine_eq, hok]
      simp only [Option.bind_some, Bool.not_true, cond_false]
      rw [hws, Option.bind_some]
      simp only [cond_false]
      rw [hor, Option.bind_some]
      simp only
      rw [impl_FormatDivisor_p (d := oL g L) (by rw [oL_len]; omega) hoI, Option.bind_some, decide_eq_true (by omega)]; rfl
    obtain ⟨e, e1, e2⟩ := divOf_o hG (L := L)
    have hred : impl_ReducedOf g d 0 = some (x, true) := by
      obtain ⟨b, q1, q2⟩ := impl_GraphOk_p (g := g) (by omega)
      have hb := q2.2 hG
      subst hb
      rw [impl_ReducedOf_eq, hok]
      simp only [Option.bind_some, Bool.not_true, cond_false]
      rw [impl_isVertex_eq, q1]
      simp only [Option.bind_some, cond_true]
      rw [within_p, w64_id (n := g.1 - 1) (by omega) (by omega), decide_eq_true (show 0 ≤ (0 : Int) ∧ (0 : Int) ≤ g.1 - 1 by omega)]
      simp only [Option.bind_some, Bool.not_true, cond_false]
      rw [r1']; rfl
    have hacy := acyclic_o hG b2.nd hall hLl
    -- the orientation's divisor
    have heb : ∀ v, v < N g → -1 ≤ indg L v (Eg g) - 1 ∧ indg L v (Eg g) - 1 ≤ 11 := fun v _ => by
      have := indg_bd L v (Eg g); omega
    have heB : Bd (N g) 1000 (fun v => indg L v (Eg g) - 1) := fun v hv => by
      have := heb v hv
      show -1000 ≤ indg L v (Eg g) - 1 ∧ indg L v (Eg g) - 1 ≤ 1000
      omega
    have hek : impl_DivisorOk g e = some true := divOk_w hG e2.1 fun z hz => by
      obtain ⟨j, hj, ej⟩ := List.getElem_of_mem hz
      have hjn : j < N g := by rw [← e2.1]; exact hj
      have a := e2.2 j hjn
      rw [getD_lt hj, ej] at a
      have b := heb j hjn
      have a' : z = indg L j (Eg g) - 1 := a
      omega
    obtain ⟨x2, y2, O2, S2, t1, t2⟩ := reduce_i (q := 0) hG (by omega) e2 heB
    have t1' : impl_reduce g e 0 = some (x2, y2) := t1
    have hw2 := winnable_o hG e2 heB t1' t2
    have hneg : ¬ O2 0 ≥ 0 := fun k => by
      obtain ⟨v, v1, v2⟩ := acyc_lost gE1 b2.nd hall (by omega) S2
      have a := t2.out v v1
      have b : 0 ≤ O2 v := by
        by_cases e : v = 0
        · subst e; exact k
        · exact t2.red.pos v v1 e
      have a' : O2 v = (indg L v (Eg g) - 1) - lap (Eg g) S2 v := a
      omega
    rw [decide_eq_false hneg] at hw2
    have hiw2 : impl_IsWinnable g e = some false := by rw [impl_IsWinnable_eq, hek, Option.bind_some, cond_true, hw2]; rfl
    -- each vertex but the first has a fire that comes to it
    have hin : ∀ v, v < N g → v ≠ 0 → O v < indg L v (Eg g) := fun v hv h0 => by
      have hm := hall v hv
      have hp := ps_lt hm
      have hp0 : 0 < ps L v := by
        rcases Nat.eq_zero_or_pos (ps L v) with c | c
        · have := ps_at hm
          rw [c, b4.head] at this
          exact absurd this.symm h0
        · exact c
      have := b4.step (ps L v) hp0 hp
      rw [ps_at hm] at this
      rw [indg_out b2.nd hall hv gE1]
      exact this
    have hin0 : indg L 0 (Eg g) = 0 := by
      have h0 : 0 < N g := by omega
      have hm := hall 0 h0
      have hp : ps L 0 = 0 := by
        have hlen : 0 < L.length := by have := ps_lt hm; omega
        have h1 := b4.head
        rcases Nat.eq_zero_or_pos (ps L 0) with c | c
        · exact c
        · exfalso
          have h2 := ps_at hm
          rw [getD_lt hlen] at h1
          rw [getD_lt (ps_lt hm)] at h2
          exact (List.pairwise_iff_getElem.1 b2.nd) 0 (ps L 0) hlen (ps_lt hm) c (h1.trans h2.symm)
      rw [indg_out b2.nd hall h0 gE1, hp, List.take_zero]
      have key : ∀ E : Es, outd E (cmp []) 0 = 0 := by
        intro E
        induction E with
        | nil => rfl
        | cons a E ih =>
          have ct : ∀ w, cmp [] w = true := fun w => cmp_t.2 List.not_mem_nil
          rw [outd_cons, ih, ct, ct]
          split
          · rfl
          · split <;> rfl
      exact key _
    have hsrc : impl_SourcesOf g (oL g L) = some [0] := by
      rw [impl_SourcesOf_eq, e1]
      simp only [Option.bind_some, Bool.not_true, cond_false]
      have hel := e2.1
      have key : ∀ (m k : Nat), k + m = N g → 1 ≤ k → impl_SourcesOf_l0 e [0] ((N g : Nat) : Int) (k : Int) = some [0] := by
        intro m
        induction m with
        | zero =>
          intro k hk h1
          have : k = N g := by omega
          subst this
          rw [impl_SourcesOf_l0_eq, dec_lt_f]; rfl
        | succ m ih =>
          intro k hk h1
          have hk' : k < N g := by omega
          have a := hin k hk' (by omega)
          have b := hR.red.pos k hk' (by omega)
          have ek : e.getD k 0 = indg L k (Eg g) - 1 := e2.2 k hk'
          rw [impl_SourcesOf_l0_eq, dec_lt_t hk', inside_lt (by omega), toNat_n, ek, beq_f (by omega), w64_succ hk' (by omega)]
          exact ih (k + 1) (by omega) (by omega)
      have h0 : 0 < N g := by omega
      have ek : e.getD 0 0 = indg L 0 (Eg g) - 1 := e2.2 0 h0
      have k1 := key (N g - 1) 1 (by omega) (Nat.le_refl _)
      have k1' : impl_SourcesOf_l0 e [0] ((N g : Nat) : Int) 1 = some [0] := k1
      rw [hel, impl_SourcesOf_l0_eq, decide_eq_true (by omega), cond_true, show inside 0 e.length = true from inside_lt (k := 0) (by omega), cond_true, show (0 : Int).toNat = 0 from rfl, ek, hin0, show (((0 : Int) - 1) == (-1)) = true from rfl, cond_true, decide_eq_true (by decide), cond_true]
      exact k1'
    have hloop : ∀ (m k : Nat), k + m = N g → laws_FnWins_l0 g (oL g L) e x ((N g : Nat) : Int) (k : Int) = some true := by
      intro m
      induction m with
      | zero =>
        intro k hk
        have : k = N g := by omega
        subst this
        rw [laws_FnWins_l0_eq, dec_lt_f, cond_false, hsrc, Option.bind_some, sameW_p (by decide)]; rfl
      | succ m ih =>
        intro k hk
        have hk' : k < N g := by omega
        have ek : e.getD k 0 = indg L k (Eg g) - 1 := e2.2 k hk'
        have hle : ¬ O k > indg L k (Eg g) - 1 := by
          by_cases c : k = 0
          · subst c; rw [hin0]; omega
          · have := hin k hk' c; omega
        rw [laws_FnWins_l0_eq, dec_lt_t hk', inside_lt (by rw [hR.vx.1]; exact hk'), inside_lt (by rw [e2.1]; exact hk'), toNat_n, hR.vx.2 k hk', ek, decide_eq_false hle, w64_succ hk' (by omega)]
        exact ih (k + 1) (by omega)
    rw [hws, Option.bind_some, hok, Option.bind_some]
    simp only [Bool.not_true, cond_false]
    rw [hiw, Option.bind_some]
    simp only [beq_self_eq_true, Bool.not_true, cond_false]
    rw [hline, Option.bind_some, toList_eq, decide_eq_false (fun k => by
      have := congrArg ByteArray.size k
      rw [size_app] at this
      have e0 : (⟨#[]⟩ : ByteArray).size = 0 := rfl
      omega), cond_false, hor, Option.bind_some, laws_FnWins_c12_eq, e1, Option.bind_some, hred, Option.bind_some]
    simp only [Bool.not_true, cond_false]
    rw [eq_f (show (e.length : Int) = g.1 by rw [e2.1]; omega), cond_false, eq_f (show (x.length : Int) = g.1 by rw [hR.vx.1]; omega), cond_false, hacy, Option.bind_some]
    simp only [Bool.not_true, cond_false]
    rw [hiw2, Option.bind_some, cond_false, laws_FnWins_c16_eq, hR.vx.1]
    exact hloop (N g) 0 (by omega)
end Go.Proofs.YthmddgkpebneoaaDoor.D

/-
  What is told through the rank: both programs alike.
-/
import Derived.Test.YtdkeeekdlcfebaaGreatDoorPureU
namespace Go.Proofs.YtdkeeekdlcfebaaGreatDoor.D
open Go Go.Den
set_option linter.unusedVariables false
set_option linter.unusedSimpArgs false
/-- a row as a divisor -/
def fn (d : List Int) (w : Nat) : Int := d.getD w 0
theorem DOk.vec {g : Gr} {d : List Int} (h : DOk g d) : vec (N g) d (fn d) ∧ Bd (N g) 60 (fn d) := by
  have hn := gN h.1
  have hl : d.length = N g := by have := h.2.1; omega
  exact ⟨⟨hl, fun _ _ => rfl⟩, fun w hw => h.2.2 w (by omega)⟩
theorem deg_p {g : Gr} {d : List Int} (h : DOk g d) : spec_DegreeOf d = some (sm (N g) (fn d)) ∧ impl_DegreeOf d = some (sm (N g) (fn d)) := by
  obtain ⟨h1, h2⟩ := h.vec
  have hn := gN h.1
  have hs := sumLoop (d := d) (by rw [h1.1]; omega) (fun k hk => by
    rw [h1.1] at hk
    have := h2 k hk
    unfold fn at this
    omega)
  rw [h1.1] at hs
  rw [impl_DegreeOf_eq, hs.1]
  exact ⟨hs.2, rfl⟩
theorem Bd.mono {n : Nat} {B C : Int} {f : Nat → Int} (h : Bd n B f) (hBC : B ≤ C) : Bd n C f := fun w hw => by have := h w hw; omega
theorem deg_bd {g : Gr} (hg : GOk g) {f : Nat → Int} {B : Int} (h0 : 0 ≤ B) (h : Bd (N g) B f) : -(6 * B) ≤ sm (N g) f ∧ sm (N g) f ≤ 6 * B := by
  have hn := gN hg
  have key : ∀ n, n ≤ N g → -((n : Int) * B) ≤ sm n f ∧ sm n f ≤ (n : Int) * B := fun n => by
    induction n with
    | zero => intro _; simp [sm]
    | succ n ih =>
      intro hk
      have := ih (by omega)
      have := h n (by omega)
      rw [sm, show (((n + 1 : Nat) : Int)) * B = (n : Int) * B + B by rw [Int.natCast_succ, Int.add_mul, Int.one_mul]]
      omega
  have := key (N g) (Nat.le_refl _)
  have : (N g : Int) * B ≤ 6 * B := Int.mul_le_mul_of_nonneg_right (by omega) h0
  omega
/-! ### all effective divisors -/
theorem same_p {x y : List Int} (hl : x.length = y.length) (h : x.length ≤ 1000) : ∃ b, spec_SameDivisor x y = some b ∧ (b = true ↔ x = y) := by
  rw [spec_SameDivisor_eq, eq_f (show (x.length : Int) = (y.length : Int) by rw [hl]), cond_false]
  obtain ⟨b, h1, h2⟩ := upAll (n := x.length) (f := fun i => spec_SameDivisor_l0 y x (x.length : Int) i) (p := fun k => decide (x.getD k 0 = y.getD k 0)) (fun k hk => by
    rw [spec_SameDivisor_l0_eq, dec_lt_t hk, inside_lt hk, inside_lt (by omega), toNat_n, w64_succ hk (by omega)]
    simp only [cond_true]
    by_cases c : x.getD k 0 = y.getD k 0
    · rw [eq_f c, decide_eq_true c]; rfl
    · rw [ne_t c, decide_eq_false c]; rfl) (by rw [spec_SameDivisor_l0_eq, dec_lt_f]; rfl)
  exact ⟨b, h1, h2.trans ⟨fun h => ext_getD hl fun j hj => of_decide_eq_true (h j hj), fun h j hj => decide_eq_true (by rw [h])⟩⟩
theorem spec_win_p {g : Gr} {d : List Int} (hd : DOk g d) {b : Bool} (hb : spec_DivisorOk g d = some b) (hb2 : b = true) {x y : List Int} (hx : spec_l05Reduce g d 0 = some (x, y)) (hl : 0 < x.length) : spec_IsWinnable g d = some (decide (x.getD 0 0 ≥ 0)) := by
  have hn := gN hd.1
  rw [spec_IsWinnable_eq, spec_ChipsAt_eq, spec_ReducedOf_eq, spec_l05Ok_eq, hb, hb2]
  simp only [Option.bind_some, cond_true]
  rw [in_p, w64_id (by omega) (by omega)]
  simp only [Option.bind_some]
  rw [decide_eq_true (show 0 ≤ (0 : Int) ∧ (0 : Int) ≤ g.1 - 1 by omega)]
  simp only [Bool.not_true, cond_false, hx, Option.bind_some]
  rw [show inside 0 x.length = true from inside_lt (k := 0) hl]
  rfl
open Classical in
theorem spec_sys {g : Gr} (hg : GOk g) {d : List Int} {D : Nat → Int} (hd : vec (N g) d D) (hD : Bd (N g) 1000 D) {k : Nat} (hk9 : k ≤ 9) (hk : sm (N g) D = (k : Int)) {x y : List Int} {O S : Nat → Int} (hx : Rdd g 0 D x y O S) : ∃ L, spec_EffectiveIn_l0 g [] x (eff (N g - 1) k) ((eff (N g - 1) k).length : Int) 0 = some (L, true) ∧ Sys g D L := by
  have hn := gN hg
  have hq : 0 < N g := by omega
  have hEl := eff_len (N g - 1) k hk9
  have h3 : 10 ^ (N g - 1) ≤ 10 ^ 5 := Nat.pow_le_pow_right (by omega) (by omega)
  have key : ∀ e ∈ eff (N g - 1) k, ∃ r, spec_l05Reduce g e 0 = some r ∧ ∃ b, spec_SameDivisor x r.1 = some b ∧ (b = true ↔ CL g D e) := fun e he => by
    have hs := eff_Sd hg hk9 he
    obtain ⟨x', y', O', S', _, e2, e3⟩ := reduce_p hg hq hs.vec.1 (fun v hv => by have := hs.vec.2 v hv; omega)
    have e2' : spec_l05Reduce g e 0 = some (x', y') := e2
    obtain ⟨b, b1, b2⟩ := same_p (x := x) (y := x') (by rw [hx.vx.1, e3.vx.1]) (by rw [hx.vx.1]; omega)
    refine ⟨_, e2', b, b1, b2.trans ⟨fun h => ?_, fun h => ?_⟩⟩
    · refine ⟨hs.1, fun v hv => (hs.vec.2 v hv).1, fun v => S v + - S' v, fun v hv => ?_⟩
      have q1 := hx.out v hv
      have q2 := e3.out v hv
      have q3 := hx.vx.2 v hv
      have q4 := e3.vx.2 v hv
      rw [h, q4] at q3
      rw [lap_add, lap_neg]
      omega
    · obtain ⟨_, _, T, h3⟩ := h
      refine hx.vx.eq e3.vx fun v hv => ?_
      have := Red.uniq (s := fun v => (T v + S' v) + - S v) (gE hg).1 hq hx.red e3.red (fun v hv => by
        have q1 := hx.out v hv
        have q2 := e3.out v hv
        rw [lap_add, lap_add, lap_neg, q1]
        rw [q2]
        show e.getD v 0 - _ = _
        rw [h3 v hv]; omega)
      exact (this v hv).2.symm
  obtain ⟨h1, h2⟩ := upFold (n := (eff (N g - 1) k).length) (f := fun s i => spec_EffectiveIn_l0 g s x (eff (N g - 1) k) ((eff (N g - 1) k).length : Int) i) (g := fun i s => if CL g D ((eff (N g - 1) k).getD i []) then s ++ [(eff (N g - 1) k).getD i []] else s) (fun i s => s = ((eff (N g - 1) k).take i).filter fun e => decide (CL g D e)) (fun i s hi hs => by
    obtain ⟨r, r1, b, b1, b2⟩ := key _ (getD_mem [] hi)
    have hsl : s.length ≤ i := by
      rw [hs]
      refine Nat.le_trans (List.length_filter_le _ _) ?_
      rw [List.length_take]; exact Nat.min_le_left _ _
    have ht : ((eff (N g - 1) k).take (i + 1)).filter (fun e => decide (CL g D e)) = s ++ (if CL g D ((eff (N g - 1) k).getD i []) then [(eff (N g - 1) k).getD i []] else []) := by
      rw [hs, List.take_add_one, List.getElem?_eq_getElem hi, List.filter_append, ← getD_lt (d := []) hi]
      congr 1
      by_cases c : CL g D ((eff (N g - 1) k).getD i [])
      · rw [if_pos c, Option.toList_some, List.filter_cons, decide_eq_true c, if_pos rfl]; rfl
      · rw [if_neg c, Option.toList_some, List.filter_cons, decide_eq_false c, if_neg Bool.false_ne_true]; rfl
    rw [spec_EffectiveIn_l0_eq, dec_lt_t hi, inside_lt hi, toNat_n, cond_true, cond_true, r1, Option.bind_some, b1, Option.bind_some, w64_succ hi (by omega), decide_eq_true (by rw [room]; simp only [List.length_singleton]; omega), cond_true, ht]
    by_cases c : CL g D ((eff (N g - 1) k).getD i [])
    · rw [if_pos c, if_pos c, b2.2 c]; exact ⟨rfl, rfl⟩
    · rw [if_neg c, if_neg c, show b = false from Bool.eq_false_iff.2 fun h => c (b2.1 h), List.append_nil]; exact ⟨rfl, rfl⟩) (s := []) (by simp)
  rw [h2, List.take_length] at h1
  refine ⟨(eff (N g - 1) k).filter fun e => decide (CL g D e), h1.trans ?_, ?_⟩
  · rw [spec_EffectiveIn_l0_eq, dec_lt_f]; rfl
  · refine ⟨((eff_sorted (N g - 1) k).filter _).imp fun {a b} hab => by simp only [rowLe, decide_eq_true_eq]; omega, List.Pairwise.imp (fun {a b} hab e => by rw [e, cmpL_self] at hab; omega) ((eff_sorted (N g - 1) k).filter _), fun r => ?_⟩
    rw [List.mem_filter, decide_eq_true_iff]
    exact ⟨fun h => h.2, fun h => ⟨h.in hg hk, h⟩⟩
theorem effIn_p {g : Gr} {d : List Int} (hg : g.2.length ≤ 1048576) (hd : d.length ≤ 1048576) : ∃ L b, spec_EffectiveIn g d = some (L, b) ∧ impl_EffectiveIn g d = some (L, b) ∧ L.length ≤ 100000 ∧ (b = true ↔ DOk g d ∧ sm (N g) (fn d) ≤ 7) ∧ (b = true → Sys g (fn d) L) := by
  obtain ⟨b, p1, p2, p3⟩ := divisorOk_p hg hd
  rw [spec_EffectiveIn_eq, impl_EffectiveIn_eq, p1, p2]
  cases b with
  | false => exact ⟨[], false, rfl, rfl, Nat.zero_le _, ⟨fun k => (by cases k), fun k => (by have := p3.2 k.1; cases this)⟩, fun k => by cases k⟩
  | true =>
    have hD := p3.1 rfl
    obtain ⟨h1, h2⟩ := hD.vec
    obtain ⟨q1, q2⟩ := deg_p hD
    have hn := gN hD.1
    simp only [Option.bind_some, Bool.not_true, cond_false, q1, q2]
    by_cases c : sm (N g) (fn d) > 7
    · rw [decide_eq_true c]
      exact ⟨[], false, rfl, rfl, Nat.zero_le _, ⟨fun k => (by cases k), fun k => (by omega)⟩, fun k => by cases k⟩
    · rw [decide_eq_false c]
      simp only [cond_false]
      obtain ⟨L, l1, l2⟩ := effectiveIn_p hD.1 h1 (h2.mono (by omega)) (by omega)
      have hll := l2.len hD.1 (by omega)
      obtain ⟨x, y, O, S, _, r2, r3⟩ := reduce_p (q := 0) hD.1 (by omega) h1 (h2.mono (by omega))
      have r2' : spec_l05Reduce g d 0 = some (x, y) := r2
      rw [spec_win_p hD p1 rfl r2' (by rw [r3.vx.1]; omega), l1, r3.vx.2 0 (by omega)]
      simp only [Option.bind_some]
      refine ⟨L, true, ?_, rfl, hll, ⟨fun _ => ⟨hD, by omega⟩, fun _ => rfl⟩, fun _ => l2⟩
      by_cases c2 : O 0 ≥ 0
      · rw [decide_eq_true c2]
        simp only [Bool.not_true, cond_false, r2', Option.bind_some]
        have hw : Win g (fn d) := ⟨x, r3.in hD.1 (by omega) c2⟩
        have hdg := hw.deg hD.1
        have hk : sm (N g) (fn d) = (((sm (N g) (fn d)).toNat : Nat) : Int) := by omega
        rw [hk, show g.1 = ((N g - 1 : Nat) : Int) + 1 by omega, spec_eff (by omega) _ (by omega), Option.bind_some]
        obtain ⟨L', m1, m2⟩ := spec_sys hD.1 h1 (h2.mono (by omega)) (by omega) hk r3
        rw [m1, m2.uniq l2]
      · rw [decide_eq_false c2]
        have : Sys g (fn d) [] := ⟨List.Pairwise.nil, List.Pairwise.nil, fun r => ⟨fun h => (List.not_mem_nil h).elim, fun h => (c2 (r3.cl hD.1 (by omega) h)).elim⟩⟩
        rw [l2.uniq this]; rfl
theorem countEff_p {g : Gr} {d : List Int} (hg : g.2.length ≤ 1048576) (hd : d.length ≤ 1048576) : ∃ r, spec_CountEffective g d = some r ∧ impl_CountEffective g d = some r := by
  obtain ⟨L, b, h1, h2, _⟩ := effIn_p hg hd
  rw [spec_CountEffective_eq, impl_CountEffective_eq, h1, h2]
  cases b with
  | false => exact ⟨_, rfl, rfl⟩
  | true => exact ⟨_, rfl, rfl⟩
/-! ### the rank -/
theorem rankOf_p {g : Gr} {d : List Int} (hg : g.2.length ≤ 1048576) (hd : d.length ≤ 1048576) : ∃ r b, spec_RankOf g d = some (r, b) ∧ impl_RankOf g d = some (r, b) ∧ (b = true ↔ DOk g d ∧ sm (N g) (fn d) ≤ 7) ∧ (-1 ≤ r ∧ r ≤ 7) ∧ (b = false → r = 0) ∧ (b = true → ∃ (k : Nat) (w : List Int), r = (k : Int) - 1 ∧ RK g (fn d) k w ∧ k ≤ (sm (N g) (fn d) + 1).toNat ∧ impl_rank g d = some (r, w) ∧ spec_l07Search g d = some (r, w)) := by
  obtain ⟨b, p1, p2, p3⟩ := divisorOk_p hg hd
  rw [spec_RankOf_eq, impl_RankOf_eq, spec_l07Ok_eq, p1, p2]
  cases b with
  | false => exact ⟨0, false, rfl, rfl, ⟨fun k => (by cases k), fun k => (by have := p3.2 k.1; cases this)⟩, by omega, fun _ => rfl, fun k => by cases k⟩
  | true =>
    have hD := p3.1 rfl
    obtain ⟨h1, h2⟩ := hD.vec
    obtain ⟨q1, q2⟩ := deg_p hD
    simp only [Option.bind_some, Bool.not_true, cond_false, cond_true, q1, q2]
    by_cases c : sm (N g) (fn d) > 7
    · rw [decide_eq_true c, decide_eq_false (by omega)]
      exact ⟨0, false, rfl, rfl, ⟨fun k => (by cases k), fun k => (by omega)⟩, by omega, fun _ => rfl, fun k => by cases k⟩
    · rw [decide_eq_false c, decide_eq_true (by omega)]
      obtain ⟨r, w, r1, r2, r3, r4⟩ := rank_p hD.1 h1 (h2.mono (by omega)) (by omega)
      simp only [Bool.not_true, cond_false, r1, r2, Option.bind_some]
      exact ⟨_, true, rfl, rfl, ⟨fun _ => ⟨hD, by omega⟩, fun _ => rfl⟩, by omega, fun k => (by cases k), fun _ => ⟨r, w, rfl, r3, r4, rfl, rfl⟩⟩
theorem hasRank_p {g : Gr} {d : List Int} {a : Int} (hg : g.2.length ≤ 1048576) (hd : d.length ≤ 1048576) : ∃ r, spec_HasRank g d a = some r ∧ impl_HasRank g d a = some r := by
  obtain ⟨r, b, h1, h2, _⟩ := rankOf_p hg hd
  rw [spec_HasRank_eq, impl_HasRank_eq, h1, h2]
  cases b with
  | false => exact ⟨_, rfl, rfl⟩
  | true => exact ⟨_, rfl, rfl⟩
/-! ### the residual divisor -/
theorem spec_val_p {g : Gr} (hg : GOk g) {v : Nat} (hv : v < N g) : spec_Valence g (v : Int) = some (val (Eg g) v) := by
  obtain ⟨gE1, gE2, gE3⟩ := gE hg
  have hn := gN hg
  rw [spec_Valence_eq, spec_l02Vert_eq, decide_eq_true (by omega), decide_eq_true (by omega)]
  simp only [cond_true, Option.bind_some, Bool.not_true, cond_false]
  have := upFold (n := g.2.length) (f := fun s i => spec_Valence_l0 (v : Int) s g.2 (g.2.length : Int) i) (g := fun k s => val ((Eg g).take (k + 1)) v) (fun k s => s = val ((Eg g).take k) v) (fun k s hk hs => ⟨by
    obtain ⟨x, y, q1, q2, q3, q4⟩ := gEk hg hk
    have b1 := val_bd v ((Eg g).take k)
    have b2 : ((Eg g).take k).length ≤ k := by rw [List.length_take]; omega
    subst hs
    rw [spec_Valence_l0_eq, dec_lt_t hk, inside_lt hk, toNat_n, q1, w64_succ hk (by omega), val_take (by omega), q2]
    simp only [cond_true, ends]
    rw [w64_id (by omega) (by omega)]
    by_cases c : v = x
    · subst c; rw [beq_t rfl]; simp
    · by_cases c2 : v = y
      · subst c2; rw [beq_f (by omega), beq_t rfl]; simp
      · rw [beq_f (by omega), beq_f (by omega)]; simp [c, c2], rfl⟩) (s := 0) (by simp [val])
  refine this.1.trans ?_
  rw [this.2, spec_Valence_l0_eq, dec_lt_f, cond_false, ← gE3, List.take_length]
/-- the canonical divisor -/
def Kn (g : Gr) (v : Nat) : Int := val (Eg g) v - 2
theorem canon_p {g : Gr} (hg : g.2.length ≤ 1048576) : ∃ x, spec_CanonicalOf g = some x ∧ impl_CanonicalOf g = some x ∧ x.length ≤ 6 ∧ (GOk g → vec (N g) x (Kn g)) := by
  obtain ⟨b, p1, p2, p3⟩ := graphOk_p (g := g) (by omega)
  rw [spec_CanonicalOf_eq, impl_CanonicalOf_eq, p1, p2]
  cases b with
  | false => exact ⟨[], rfl, rfl, Nat.zero_le _, fun h => by have := p3.2 h; cases this⟩
  | true =>
    have hG := p3.1 rfl
    have hn := gN hG
    obtain ⟨gE1, gE2, gE3⟩ := gE hG
    simp only [Option.bind_some, Bool.not_true, cond_false]
    have hx : vec (N g) ((List.range (N g)).map (Kn g)) (Kn g) := ⟨by simp, fun w hw => getD_range_map _ hw⟩
    refine ⟨(List.range (N g)).map (Kn g), ?_, ?_, by simp; omega, fun _ => hx⟩
    · have := upFold (n := N g) (f := fun s i => spec_CanonicalOf_l0 g s i) (g := fun k s => s ++ [Kn g k]) (fun k s => s.length = k) (fun k s hk hs => ⟨by
        have := val_bd k (Eg g)
        rw [spec_CanonicalOf_l0_eq, decide_eq_true (by omega), cond_true, spec_val_p hG hk, Option.bind_some, w64_id (by omega) (by omega), decide_eq_true (by rw [room]; simp only [List.length_singleton]; omega), cond_true, w64_succ hk (by omega)]
        rfl, by rw [List.length_append, hs]; rfl⟩) (s := []) rfl
      refine this.1.trans ?_
      rw [spec_CanonicalOf_l0_eq, decide_eq_false (by omega), itr_push (Kn g), List.nil_append]; rfl
    · have := upFold (n := N g) (f := fun s i => impl_CanonicalOf_l0 g s i) (g := fun k s => s ++ [Kn g k]) (fun k s => s.length = k) (fun k s hk hs => ⟨by
        have := val_bd k (Eg g)
        rw [impl_CanonicalOf_l0_eq, decide_eq_true (by omega), cond_true, impl_val_p hG hk, Option.bind_some, w64_id (by omega) (by omega), decide_eq_true (by rw [room]; simp only [List.length_singleton]; omega), cond_true, w64_succ hk (by omega)]
        rfl, by rw [List.length_append, hs]; rfl⟩) (s := []) rfl
      refine this.1.trans ?_
      rw [impl_CanonicalOf_l0_eq, decide_eq_false (by omega), itr_push (Kn g), List.nil_append]; rfl
theorem neg_p {n : Nat} (hn : n ≤ 6) {d : List Int} {D : Nat → Int} (hd : vec n d D) (hD : Bd n 100000 D) : ∃ r, impl_NegateDivisor d = some r ∧ vec n r (fun v => - D v) := by
  rw [impl_NegateDivisor_eq, impl_copyInts_eq, decide_eq_true (by rw [hd.1, room]; simp only [List.length_nil]; omega), cond_true, Option.bind_some, List.nil_append, hd.1]
  have := upFold (n := n) (f := fun s i => impl_NegateDivisor_l0 s (n : Int) i) (g := fun k s => s.set k (- D k)) (fun k s => vec n s (fun w => if w < k then - D w else D w)) (fun k s hk hs => ⟨by
    have i1 : inside (k : Int) s.length = true := inside_lt (by rw [hs.1]; exact hk)
    have e : s.getD k 0 = D k := (hs.2 k hk).trans (if_neg (Nat.lt_irrefl k))
    have b1 := hD k hk
    rw [impl_NegateDivisor_l0_eq, dec_lt_t hk, i1, toNat_n, e, w64_succ hk (by omega), w64_id (by omega) (by omega), Int.zero_sub]
    rfl, (hs.set hk _).congr fun w hw => by
      by_cases c : w = k
      · subst c; rw [if_pos rfl, if_pos (by omega)]
      · rw [if_neg c]
        by_cases c2 : w < k
        · rw [if_pos c2, if_pos (by omega)]
        · rw [if_neg c2, if_neg (by omega)]⟩) (s := d) (hd.congr fun w hw => by rw [if_neg (by omega)])
  refine ⟨_, this.1.trans ?_, this.2.congr fun w hw => by rw [if_pos hw]⟩
  rw [impl_NegateDivisor_l0_eq, dec_lt_f]; rfl
/-- what is left of the canonical divisor -/
def Rs (g : Gr) (d : List Int) (v : Nat) : Int := Kn g v - fn d v
theorem residual_p {g : Gr} {d : List Int} (hg : g.2.length ≤ 1048576) (hd : d.length ≤ 1048576) : ∃ x b, spec_ResidualOf g d = some (x, b) ∧ impl_ResidualOf g d = some (x, b) ∧ x.length ≤ 6 ∧ (b = true ↔ DOk g d) ∧ (b = true → vec (N g) x (Rs g d) ∧ Bd (N g) 80 (Rs g d)) ∧ (b = false → x = []) := by
  obtain ⟨b, p1, p2, p3⟩ := divisorOk_p hg hd
  rw [spec_ResidualOf_eq, impl_ResidualOf_eq, p1, p2]
  cases b with
  | false => exact ⟨[], false, rfl, rfl, Nat.zero_le _, p3, fun k => (by cases k), fun _ => rfl⟩
  | true =>
    have hD := p3.1 rfl
    obtain ⟨h1, h2⟩ := hD.vec
    have hn := gN hD.1
    obtain ⟨gE1, gE2, gE3⟩ := gE hD.1
    obtain ⟨k, k1, k2, _, k4⟩ := canon_p hg
    have k5 := k4 hD.1
    have k6 : Bd (N g) 20 (Kn g) := fun v hv => by have := val_bd v (Eg g); unfold Kn; omega
    obtain ⟨x, x1, x2⟩ := minus_p (by omega) k5 h1.1 (k6.mono (by omega)) (fun v hv => by have := h2 v hv; unfold fn at this; omega)
    obtain ⟨m, m1, m2⟩ := neg_p (by omega) h1 (h2.mono (by omega))
    obtain ⟨y, y1, y2⟩ := plus_p (by omega) k5 m2 (k6.mono (by omega)) (fun v hv => by have := h2 v hv; omega)
    have hx : vec (N g) x (Rs g d) := x2.congr fun w hw => rfl
    have hy : y = x := y2.eq hx fun w hw => by unfold Rs; omega
    simp only [Option.bind_some, Bool.not_true, cond_false, k1, k2, x1, m1, y1, hy]
    exact ⟨x, true, rfl, rfl, by rw [hx.1]; omega, p3, fun _ => ⟨hx, fun v hv => by
      have := k6 v hv
      have := h2 v hv
      unfold Rs; omega⟩, fun k => by cases k⟩
theorem DOk.nil {g : Gr} (h : DOk g []) : False := by
  have := gN h.1
  have := h.2.1
  simp only [List.length_nil] at this
  omega
theorem rr_p {g : Gr} {d : List Int} (hg : g.2.length ≤ 1048576) (hd : d.length ≤ 1048576) : ∃ r, spec_RiemannRoch g d = some r ∧ impl_RiemannRoch g d = some r ∧ (-1 ≤ r.1 ∧ r.1 ≤ 7) ∧ (r.2.2 = true → DOk g d) := by
  obtain ⟨x, b, h1, h2, h3, h4, h5, h6⟩ := residual_p hg hd
  obtain ⟨r, c, r1, r2, r3, r4, r5, _⟩ := rankOf_p hg hd
  obtain ⟨s, e, s1, s2, s3, s4, s5, _⟩ := rankOf_p (g := g) (d := x) hg (by omega)
  rw [spec_RiemannRoch_eq, impl_RiemannRoch_eq, h1, h2, r1, r2]
  simp only [Option.bind_some, s1, s2]
  cases b with
  | false =>
    have : c = false := Bool.eq_false_iff.2 fun h => by have := h4.2 (r3.1 h).1; cases this
    subst this
    exact ⟨_, rfl, rfl, by decide, fun k => by cases k⟩
  | true =>
    cases c with
    | false => exact ⟨_, rfl, rfl, by decide, fun k => by cases k⟩
    | true =>
      cases e with
      | false => exact ⟨_, rfl, rfl, by decide, fun k => by cases k⟩
      | true => exact ⟨_, rfl, rfl, r4, fun _ => (r3.1 rfl).1⟩
theorem special_p {g : Gr} {d : List Int} (hg : g.2.length ≤ 1048576) (hd : d.length ≤ 1048576) : ∃ r, spec_IsSpecial g d = some r ∧ impl_IsSpecial g d = some r := by
  obtain ⟨x, b, h1, h2, h3, h4, h5, h6⟩ := residual_p hg hd
  obtain ⟨r, c, r1, r2, r3, r4, r5, _⟩ := rankOf_p hg hd
  obtain ⟨b', p1, p2, p3⟩ := divisorOk_p hg hd
  have hok : spec_l07Ok g d = some c := by
    rw [spec_l07Ok_eq, p1]
    cases b' with
    | false =>
      have : c = false := Bool.eq_false_iff.2 fun h => by have := p3.2 (r3.1 h).1; cases this
      rw [this]; rfl
    | true =>
      rw [Option.bind_some, cond_true, (deg_p (p3.1 rfl)).1, Option.bind_some]
      congr 1
      rw [Bool.eq_iff_iff, decide_eq_true_iff, r3]
      exact ⟨fun h => ⟨p3.1 rfl, h⟩, fun h => h.2⟩
  rw [spec_IsSpecial_eq, impl_IsSpecial_eq, hok, r2]
  cases c with
  | false => exact ⟨_, rfl, rfl⟩
  | true =>
    have hD := (r3.1 rfl).1
    obtain ⟨v1, v2⟩ := h5 (h4.2 hD)
    obtain ⟨w, w1, w2, _⟩ := win_iff hD.1 v1 (v2.mono (by omega))
    simp only [Option.bind_some, Bool.not_true, cond_false, h1, h2, w1, w2]
    exact ⟨_, rfl, rfl⟩
theorem fromRes_p {g : Gr} {d : List Int} (hg : g.2.length ≤ 1048576) (hd : d.length ≤ 1048576) : ∃ r, spec_RankFromResidual g d = some r ∧ impl_RankFromResidual g d = some r := by
  obtain ⟨x, b, h1, h2, h3, h4, h5, h6⟩ := residual_p hg hd
  obtain ⟨s, e, s1, s2, s3, s4, s5, _⟩ := rankOf_p (g := g) (d := x) hg (by omega)
  obtain ⟨b', q, g1, g2, g3, g4, g5⟩ := genus_p hg
  rw [spec_RankFromResidual_eq, impl_RankFromResidual_eq, h1, h2]
  simp only [Option.bind_some, s1, s2, g4, g5]
  cases b with
  | false => exact ⟨_, rfl, rfl⟩
  | true =>
    obtain ⟨d1, d2⟩ := deg_p (h4.1 rfl)
    cases e with
    | false => exact ⟨_, rfl, rfl⟩
    | true =>
      rw [d1, d2]
      exact ⟨_, rfl, rfl⟩
theorem gap_p {g : Gr} {d : List Int} (hg : g.2.length ≤ 1048576) (hd : d.length ≤ 1048576) : ∃ r, spec_CliffordGap g d = some r ∧ impl_CliffordGap g d = some r := by
  obtain ⟨r, r1, r2, _, r3⟩ := rr_p hg hd
  rw [spec_CliffordGap_eq, impl_CliffordGap_eq, r1, r2]
  simp only [Option.bind_some]
  cases c : r.2.2 with
  | false => exact ⟨_, rfl, rfl⟩
  | true =>
    obtain ⟨d1, d2⟩ := deg_p (r3 c)
    rw [d1, d2]
    simp only [Bool.not_true, cond_false]
    cases decide (r.1 < 0) with
    | true => exact ⟨_, rfl, rfl⟩
    | false =>
      cases decide (r.2.1 < 0) with
      | true => exact ⟨_, rfl, rfl⟩
      | false => exact ⟨_, rfl, rfl⟩
end Go.Proofs.YtdkeeekdlcfebaaGreatDoor.D

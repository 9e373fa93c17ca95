/-
  What is told through the rank: both programs alike.
-/
import Derived.Test.YtplmeoocbocipaaGreatDoorPureU
namespace Go.Proofs.YtplmeoocbocipaaGreatDoor.D
open Go Go.Den
set_option linter.unusedVariables false
set_option linter.unusedSimpArgs false
/-- a row as a divisor -/
def fn (d : List Int) (w : Nat) : Int := d.getD w 0
theorem DOk.vec {g : Gr} {d : List Int} (h : DOk g d) : vec (N g) d (fn d) ∧ Bd (N g) 60 (fn d) := by
  have hn := gN h.1
  have hl : d.length = N g := by have := h.2.1; omega
  exact ⟨⟨hl, fun _ _ => rfl⟩, fun w hw => h.2.2 w (by omega)⟩
theorem deg_p {g : Gr} {d : List Int} (h : DOk g d) : spec_DegreeOf d = some (sm (N g) (fn d)) ∧ impl_DegreeOf d = some (sm (N g) (fn d)) := by
  obtain ⟨h1, h2⟩ := h.vec
  have hn := gN h.1
  have hs := sumLoop (d := d) (by rw [h1.1]; omega) (fun k hk => by
    rw [h1.1] at hk
    have := h2 k hk
    unfold fn at this
    omega)
  rw [h1.1] at hs
  rw [impl_DegreeOf_eq, hs.1]
  exact ⟨hs.2, rfl⟩
theorem Bd.mono {n : Nat} {B C : Int} {f : Nat → Int} (h : Bd n B f) (hBC : B ≤ C) : Bd n C f := fun w hw => by have := h w hw; omega
theorem deg_bd {g : Gr} (hg : GOk g) {f : Nat → Int} {B : Int} (h0 : 0 ≤ B) (h : Bd (N g) B f) : -(6 * B) ≤ sm (N g) f ∧ sm (N g) f ≤ 6 * B := by
  have hn := gN hg
  have key : ∀ n, n ≤ N g → -((n : Int) * B) ≤ sm n f ∧ sm n f ≤ (n : Int) * B := fun n => by
    induction n with
    | zero => intro _; simp [sm]
    | succ n ih =>
      intro hk
      have := ih (by omega)
      have := h n (by omega)
      rw [sm, show (((n + 1 : Nat) : Int)) * B = (n : Int) * B + B by rw [Int.natCast_succ, Int.add_mul, Int.one_mul]]
      omega
  have := key (N g) (Nat.le_refl _)
  have : (N g : Int) * B ≤ 6 * B := Int.mul_le_mul_of_nonneg_right (by omega) h0
  omega
/-! ### all effective divisors -/
theorem same_p {x y : List Int} (hl : x.length = y.length) (h : x.length ≤ 1000) : ∃ b, spec_SameDivisor x y = some b ∧ (b = true ↔ x = y) := by
  rw [spec_SameDivisor_eq, eq_f (show (x.length : Int) = (y.length : Int) by rw [hl]), cond_false]
  obtain ⟨b, h1, h2⟩ := upAll (n := x.length) (f := fun i => spec_SameDivisor_l0 y x (x.length : Int) i) (p := fun k => decide (x.getD k 0 = y.getD k 0)) (fun k hk => by
    rw [spec_SameDivisor_l0_eq, dec_lt_t hk, inside_lt hk, inside_lt (by omega), toNat_n, w64_succ hk (by omega)]
    simp only [cond_true]
    by_cases c : x.getD k 0 = y.getD k 0
    · rw [eq_f c, decide_eq_true c]; rfl
    · rw [ne_t c, decide_eq_false c]; rfl) (by rw [spec_SameDivisor_l0_eq, dec_lt_f]; rfl)
  exact ⟨b, h1, h2.trans ⟨fun h => ext_getD hl fun j hj => of_decide_eq_true (h j hj), fun h j hj => decide_eq_true (by rw [h])⟩⟩
theorem spec_win_p {g : Gr} {d : List Int} (hd : DOk g d) {b : Bool} (hb : spec_DivisorOk g d = some b) (hb2 : b = true) {x y : List Int} (hx : spec_l05Reduce g d 0 = some (x, y)) (hl : 0 < x.length) : spec_IsWinnable g d = some (decide (x.getD 0 0 ≥ 0)) := by
  have hn := gN hd.1
  rw [spec_IsWinnable_eq, spec_ChipsAt_eq, spec_ReducedOf_eq, spec_l05Ok_eq, hb, hb2]
  simp only [Option.bind_some, cond_true]
  rw [in_p, w64_id (by omega) (by omega)]
  simp only [Option.bind_some]
  rw [decide_eq_true (show 0 ≤ (0 : Int) ∧ (0 : Int) ≤ g.1 - 1 by omega)]
  simp only [Bool.not_true, cond_false, hx, Option.bind_some]
  rw [show inside 0 x.length = true from inside_lt (k := 0) hl]
  rfl
open Classical in
theorem spec_sys {g : Gr} (hg : GOk g) {d : List Int} {D : Nat → Int} (hd : vec (N g) d D) (hD : Bd (N g) 1000 D) {k : Nat} (hk9 : k ≤ 9) (hk : sm (N g) D = (k : Int)) {x y : List Int} {O S : Nat → Int} (hx : Rdd g 0 D x y O S) : ∃ L, spec_EffectiveIn_l0 g [] x (eff (N g - 1) k) ((eff (N g - 1) k).length : Int) 0 = some (L, true) ∧ Sys g D L := by
  have hn := gN hg
  have hq : 0 < N g := by omega
  have hEl := eff_len (N g - 1) k hk9
  have h3 : 10 ^ (N g - 1) ≤ 10 ^ 5 := Nat.pow_le_pow_right (by omega) (by omega)
  have key : ∀ e ∈ eff (N g - 1) k, ∃ r, spec_l05Reduce g e 0 = some r ∧ ∃ b, spec_SameDivisor x r.1 = some b ∧ (b = true ↔ CL g D e) := fun e he => by
    have hs := eff_Sd hg hk9 he
    obtain ⟨x', y', O', S', _, e2, e3⟩ := reduce_p hg hq hs.vec.1 (fun v hv => by have := hs.vec.2 v hv; omega)
    have e2' : spec_l05Reduce g e 0 = some (x', y') := e2
    obtain ⟨b, b1, b2⟩ := same_p (x := x) (y := x') (by rw [hx.vx.1, e3.vx.1]) (by rw [hx.vx.1]; omega)
    refine ⟨_, e2', b, b1, b2.trans ⟨fun h => ?_, fun h => ?_⟩⟩
    · refine ⟨hs.1, fun v hv => (hs.vec.2 v hv).1, fun v => S v + - S' v, fun v hv => ?_⟩
      have q1 := hx.out v hv
      have q2 := e3.out v hv
      have q3 := hx.vx.2 v hv
      have q4 := e3.vx.2 v hv
      rw [h, q4] at q3
      rw [lap_add, lap_neg]
      omega
    · obtain ⟨_, _, T, h3⟩ := h
      refine hx.vx.eq e3.vx fun v hv => ?_
      have := Red.uniq (s := fun v => (T v + S' v) + - S v) (gE hg).1 hq hx.red e3.red (fun v hv => by
        have q1 := hx.out v hv
        have q2 := e3.out v hv
        rw [lap_add, lap_add, lap_neg, q1]
        rw [q2]
        show e.getD v 0 - _ = _
        rw [h3 v hv]; omega)
      exact (this v hv).2.symm
  obtain ⟨h1, h2⟩ := upFold (n := (eff (N g - 1) k).length) (f := fun s i => spec_EffectiveIn_l0 g s x (eff (N g - 1) k) ((eff (N g - 1) k).length : Int) i) (g := fun i s => if CL g D ((eff (N g - 1) k).getD i []) then s ++ [(eff (N g - 1) k).getD i []] else s) (fun i s => s = ((eff (N g - 1) k).take i).filter fun e => decide (CL g D e)) (fun i s hi hs => by
    obtain ⟨r, r1, b, b1, b2⟩ := key _ (getD_mem [] hi)
    have hsl : s.length ≤ i := by
      rw [hs]
      refine Nat.le_trans (List.length_filter_le _ _) ?_
      rw [List.length_take]; exact Nat.min_le_left _ _
    have ht : ((eff (N g - 1) k).take (i + 1)).filter (fun e => decide (CL g D e)) = s ++ (if CL g D ((eff (N g - 1) k).getD i []) then [(eff (N g - 1) k).getD i []] else []) := by
      rw [hs, List.take_add_one, List.getElem?_eq_getElem hi, List.filter_append, ← getD_lt (d := []) hi]
      congr 1
      by_cases c : CL g D ((eff (N g - 1) k).getD i [])
      · rw [if_pos c, Option.toList_some, List.filter_cons, decide_eq_true c, if_pos rfl]; rfl
      · rw [if_neg c, Option.toList_some, List.filter_cons, decide_eq_false c, if_neg Bool.false_ne_true]; rfl
    rw [spec_EffectiveIn_l0_eq, dec_lt_t hi, inside_lt hi, toNat_n, cond_true, cond_true, r1, Option.bind_some, b1, Option.bind_some, w64_succ hi (by omega), decide_eq_true (by rw [room]; simp only [List.length_singleton]; omega), cond_true, ht]
    by_cases c : CL g D ((eff (N g - 1) k).getD i [])
    · rw [if_pos c, if_pos c, b2.2 c]; exact ⟨rfl, rfl⟩
    · rw [if_neg c, if_neg c, show b = false from Bool.eq_false_iff.2 fun h => c (b2.1 h), List.append_nil]; exact ⟨rfl, rfl⟩) (s := []) (by simp)
  rw [h2, List.take_length] at h1
  refine ⟨(eff (N g - 1) k).filter fun e => decide (CL g D e), h1.trans ?_, ?_⟩
  · rw [spec_EffectiveIn_l0_eq, dec_lt_f]; rfl
  · refine ⟨((eff_sorted (N g - 1) k).filter _).imp fun {a b} hab => by simp only [rowLe, decide_eq_true_eq]; omega, List.Pairwise.imp (fun {a b} hab e => by rw [e, cmpL_self] at hab; omega) ((eff_sorted (N g - 1) k).filter _), fun r => ?_⟩
    rw [List.mem_filter, decide_eq_true_iff]
    exact ⟨fun h => h.2, fun h => ⟨h.in hg hk, h⟩⟩
theorem effIn_p {g : Gr} {d : List Int} (hg : g.2.length ≤ 1048576) (hd : d.length ≤ 1048576) : ∃ L b, spec_EffectiveIn g d = some (L, b) ∧ impl_EffectiveIn g d = some (L, b) ∧ L.length ≤ 100000 ∧ (b = true ↔ DOk g d ∧ sm (N g) (fn d) ≤ 7) ∧ (b = true → Sys g (fn d) L) := by
  obtain ⟨b, p1, p2, p3⟩ := divisorOk_p hg hd
  rw [spec_EffectiveIn_eq, impl_EffectiveIn_eq, p1, p2]
  cases b with
  | false => exact ⟨[], false, rfl, rfl, Nat.zero_le _, ⟨fun k => (by cases k), fun k => (by have := p3.2 k.1; cases this)⟩, fun k => by cases k⟩
  | true =>
    have hD := p3.1 rfl
    obtain ⟨h1, h2⟩ := hD.vec
    obtain ⟨q1, q2⟩ := deg_p hD
    have hn := gN hD.1
    simp only [Option.bind_some, Bool.not_true, cond_false, q1, q2]
    by_cases c : sm (N g) (fn d) > 7
    · rw [decide_eq_true c]
      exact ⟨[], false, rfl, rfl, Nat.zero_le _, ⟨fun k => (by cases k), fun k => (by omega)⟩, fun k => by cases k⟩
    · rw [decide_eq_false c]
      simp only [cond_false]
      obtain ⟨L, l1, l2⟩ := effectiveIn_p hD.1 h1 (h2.mono (by omega)) (by omega)
      have hll := l2.len hD.1 (by omega)
      obtain ⟨x, y, O, S, _, r2, r3⟩ := reduce_p (q := 0) hD.1 (by omega) h1 (h2.mono (by omega))
      have r2' : spec_l05Reduce g d 0 = some (x, y) := r2
      rw [spec_win_p hD p1 rfl r2' (by rw [r3.vx.1]; omega), l1, r3.vx.2 0 (by omega)]
      simp only [Option.bind_some]
      refine ⟨L, true, ?_, rfl, hll, ⟨fun _ => ⟨hD, by omega⟩, fun _ => rfl⟩, fun _ => l2⟩
      by_cases c2 : O 0 ≥ 0
      · rw [decide_eq_true c2]
        simp only [Bool.not_true, cond_false, r2', Option.bind_some]
        have hw : Win g (fn d) := ⟨x, r3.in hD.1 (by omega) c2⟩
        have hdg := hw.deg hD.1
        have hk : sm (N g) (fn d) = (((sm (N g) (fn d)).toNat : Nat) : Int) := by omega
        rw [hk, show g.1 = ((N g - 1 : Nat) : Int) + 1 by omega, spec_eff (by omega) _ (by omega), Option.bind_some]
        obtain ⟨L', m1, m2⟩ := spec_sys hD.1 h1 (h2.mono (by omega)) (by omega) hk r3
        rw [m1, m2.uniq l2]
      · rw [decide_eq_false c2]
        have : Sys g (fn d) [] := ⟨List.Pairwise.nil, List.Pairwise.nil, fun r => ⟨fun h => (List.not_mem_nil h).elim, fun h => (c2 (r3.cl hD.1 (by omega) h)).elim⟩⟩
        rw [l2.uniq this]; rfl
/-- the canonical divisor -/
def Kn (g : Gr) (v : Nat) : Int := val (Eg g) v - 2
/-- what is left of the canonical divisor -/
def Rs (g : Gr) (d : List Int) (v : Nat) : Int := Kn g v - fn d v
theorem DOk.nil {g : Gr} (h : DOk g []) : False := by
  have := gN h.1
  have := h.2.1
  simp only [List.length_nil] at this
  omega
end Go.Proofs.YtplmeoocbocipaaGreatDoor.D

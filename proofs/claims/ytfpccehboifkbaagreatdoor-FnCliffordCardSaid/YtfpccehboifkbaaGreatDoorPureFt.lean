/-
  The law FnTop: the theorem of Riemann and Roch, as the program tells it.
-/
import Derived.Test.YtfpccehboifkbaaGreatDoorPureFr
import Derived.Test.YtfpccehboifkbaaGreatDoorPureRr
namespace Go.Proofs.YtfpccehboifkbaaGreatDoor.D
open Go Go.Den
set_option linter.unusedVariables false
set_option linter.unusedSimpArgs false
theorem zeros_in {g : Gr} (hg : GOk g) : List.replicate (N g) (0 : Int) ∈ eff (N g - 1) 0 := by
  have hn := gN hg
  refine eff_in (by rw [List.length_replicate]; omega) (fun x hx => by rw [(List.mem_replicate.1 hx).2]; exact Int.le_refl _) ?_
  have : ∀ n : Nat, (List.replicate n (0 : Int)).sum = 0 := fun n => by
    induction n with
    | zero => rfl
    | succ n ih => rw [List.replicate_succ, List.sum_cons, ih]; rfl
  rw [this]; rfl
theorem RK.win {g : Gr} (hg : GOk g) {D : Nat → Int} {r : Nat} {w : List Int} (h : RK g D r w) : 1 ≤ r ↔ Win g D := by
  have hn := gN hg
  constructor
  · intro hr
    refine (h.up 0 hr _ (zeros_in hg)).congr fun v hv => ?_
    unfold Mi
    rw [show (List.replicate (N g) (0 : Int)).getD v 0 = 0 from (vec.zero (N g)).2 v hv]; omega
  · intro hw
    rcases Nat.eq_zero_or_pos r with c | c
    · subst c
      exfalso
      refine h.bad (hw.congr fun v hv => ?_)
      obtain ⟨h1, h2⟩ := eff_mem h.mem
      have := h2 _ (getD_mem 0 (show v < w.length by omega))
      unfold Mi; omega
    · exact c
theorem degl_p {g : Gr} (hg : GOk g) {x : List Int} {f : Nat → Int} (hx : vec (N g) x f) (hb : Bd (N g) 900 f) : impl_DegreeOf x = some (sm (N g) f) := by
  have hn := gN hg
  have hs := (sumLoop (d := x) (by rw [hx.1]; omega) (fun k hk => by
    rw [hx.1] at hk
    rw [hx.2 k hk]
    have := hb k hk
    omega)).1
  rw [impl_DegreeOf_eq, hs, hx.1]
  simp only [Option.bind_some]
  rw [sm_congr fun v hv => hx.2 v hv]
theorem irr_p {g : Gr} {d x : List Int} {r s : Int} {e : Bool} (h1 : impl_ResidualOf g d = some (x, true)) (h2 : impl_RankOf g d = some (r, true)) (h3 : impl_RankOf g x = some (s, e)) : impl_RiemannRoch g d = some (cond e (r, s, true) (0, 0, false)) := by
  rw [impl_RiemannRoch_eq, h1, h2]
  simp only [Option.bind_some, h3, Bool.not_true, cond_false]
  cases e <;> rfl
theorem line_ne {g : Gr} {d : List Int} (hD : DOk g d) {a b : Int} (ha : I64 a) (hb : I64 b) (h : impl_RiemannRoch g d = some (a, b, true)) : ∃ x : ByteArray, impl_RiemannLine g d = some x ∧ 0 < x.size := by
  rw [impl_RiemannLine_eq, h]
  obtain ⟨d1, d2⟩ := deg_p hD
  obtain ⟨g1, g2⟩ := genus_v hD.1
  have hb' := deg_bd hD.1 (by omega) hD.vec.2
  have i1 : I64 (sm (N g) (fn d)) := by unfold I64; omega
  have hn := gN hD.1
  have h12 := hD.1.1.2.1
  have i2 : I64 (gn g) := by unfold I64 gn; omega
  have t1 := fi_size ha
  have t2 := fi_size hb
  have t3 := fi_size i1
  have t4 := fi_size i2
  simp only [Bool.not_true, cond_false, Option.bind_some, d2, g2, impl_FormatInt_p ha, impl_FormatInt_p hb, impl_FormatInt_p i1, impl_FormatInt_p i2]
  have z1 : (⟨#[32, 45, 32]⟩ : ByteArray).size = 3 := rfl
  have z2 : (⟨#[32, 61, 32]⟩ : ByteArray).size = 3 := rfl
  have z3 : (⟨#[32, 43, 32, 49, 32, 45, 32]⟩ : ByteArray).size = 7 := rfl
  simp only [size_app, z1, z2, z3]
  rw [decide_eq_true (show (fi a).size + 3 ≤ 9223372036854775807 by omega), decide_eq_true (show (fi a).size + 3 + (fi b).size ≤ 9223372036854775807 by omega), decide_eq_true (show (fi a).size + 3 + (fi b).size + 3 ≤ 9223372036854775807 by omega),
    decide_eq_true (show (fi a).size + 3 + (fi b).size + 3 + (fi (sm (N g) (fn d))).size ≤ 9223372036854775807 by omega), decide_eq_true (show (fi a).size + 3 + (fi b).size + 3 + (fi (sm (N g) (fn d))).size + 7 ≤ 9223372036854775807 by omega),
    decide_eq_true (show (fi a).size + 3 + (fi b).size + 3 + (fi (sm (N g) (fn d))).size + 7 + (fi (gn g)).size ≤ 9223372036854775807 by omega)]
  refine ⟨_, rfl, ?_⟩
  simp only [size_app, z1, z2, z3]
  omega
theorem law_Top {l : List Int} : laws_FnTop l = some true := by
  rw [laws_FnTop_eq]
  by_cases c0 : (l.length : Int) > 1048576
  · rw [decide_eq_true c0]; rfl
  rw [decide_eq_false c0, cond_false]
  obtain ⟨g, g1, g2, g3, g4⟩ := small_p (l := l) (by omega)
  obtain ⟨d, d1, d2, d3, d4⟩ := few_p (l := l) (by omega) g2 (n := 20) (by omega)
  have d1' : spec_MakeFew l 20 g = some d := d1
  have hn := gN g2
  have h12 := g2.1.2.1
  obtain ⟨gE1, gE2, gE3⟩ := gE g2
  obtain ⟨s1, s2⟩ := d2.small
  obtain ⟨k, _, k2, _, k4⟩ := canon_p (g := g) s1
  have kv := k4 g2
  have kb : Bd (N g) 20 (Kn g) := fun v hv => by have := val_bd v (Eg g); unfold Kn; omega
  obtain ⟨x, b, _, x2, x3, x4, x5, _⟩ := residual_p (g := g) (d := d) s1 s2
  have hb := x4.2 d2
  subst hb
  obtain ⟨xv, xb⟩ := x5 rfl
  obtain ⟨r, b, _, r2, r3, r4, r5, r6⟩ := rankOf_p (g := g) (d := d) s1 s2
  have hb := r3.2 ⟨d2, by omega⟩
  subst hb
  obtain ⟨kr, w, e1, e2, e3, _, _⟩ := r6 rfl
  have hKd := canon_deg g2
  have hdb := deg_bd g2 (by omega) d2.vec.2
  have hRs : sm (N g) (Rs g d) = sm (N g) (Kn g) - sm (N g) (fn d) := sm_sub (Kn g) (fn d) (N g)
  have xok : DOk g x := ⟨g2, by rw [xv.1]; omega, fun j hj => by
    rw [xv.1] at hj
    rw [xv.2 j hj]
    have := val_bd j (Eg g)
    have := d4 j hj
    unfold Rs Kn; omega⟩
  have hfx : sm (N g) (fn x) = sm (N g) (Rs g d) := sm_congr fun v hv => xv.2 v hv
  obtain ⟨s, e, _, t2, t3, t4, t5, t6⟩ := rankOf_p (g := g) (d := x) s1 (by rw [xv.1]; omega)
  have hrr := irr_p x2 r2 t2
  obtain ⟨gg1, gg2⟩ := genus_v g2
  have hgn : gn g = (g.2.length : Int) - (N g : Int) + 1 := rfl
  have dk := degl_p g2 kv (kb.mono (by omega))
  have dx := degl_p g2 xv (xb.mono (by omega))
  rw [g1, Option.bind_some, d1', Option.bind_some, k2, Option.bind_some, x2, Option.bind_some]
  simp only [Bool.not_true, cond_false]
  rw [eq_f (show (k.length : Int) = g.1 by rw [kv.1]; omega), cond_false, dk, Option.bind_some, gg2, Option.bind_some, w64_id (n := 2 * gn g) (by omega) (by omega), w64_id (n := 2 * gn g - 2) (by omega) (by omega), eq_f (by omega), cond_false, dx, Option.bind_some, Option.bind_some, (deg_p d2).2, Option.bind_some, w64_id (n := sm (N g) (Kn g) - sm (N g) (fn d)) (by omega) (by omega), eq_f hRs, cond_false, laws_FnTop_c9_eq, hrr, Option.bind_some, r2, Option.bind_some]
  simp only [Bool.not_true, cond_false]
  cases e with
  | false =>
    simp only [cond_false, Bool.not_false, cond_true, dx, Option.bind_some]
    congr 1
    refine decide_eq_true ?_
    refine Int.not_le.1 fun c => ?_
    have := t3.2 ⟨xok, by omega⟩
    cases this
  | true =>
    obtain ⟨ks, w', f1, f2, f3, _, _⟩ := t6 rfl
    have hres : ∃ q, impl_RankFromResidual g d = some (q, true) ∧ q = s + sm (N g) (fn d) + 1 - gn g := by
      rw [impl_RankFromResidual_eq, x2]
      simp only [Option.bind_some, t2, Bool.not_true, cond_false, (deg_p d2).2, gg2]
      rw [w64_id (n := s + sm (N g) (fn d)) (by omega) (by omega), w64_id (n := s + sm (N g) (fn d) + 1) (by omega) (by omega), w64_id (by omega) (by omega)]
      exact ⟨_, rfl, rfl⟩
    obtain ⟨q, q1, q2⟩ := hres
    have hRR := rr g2 (D1 := fn d) (D2 := fn x) (fun v hv => by
      have := xv.2 v hv
      unfold fn
      unfold Rs fn at this
      omega) (d2.vec.2.mono (by omega)) (xok.vec.2.mono (by omega)) e2 f2 (by omega) (by omega)
    have hsp : impl_IsSpecial g d = some (decide (s ≥ 0)) := by
      obtain ⟨z, z1, _, z2⟩ := win_iff g2 xv (xb.mono (by omega))
      rw [impl_IsSpecial_eq, r2]
      simp only [Option.bind_some, Bool.not_true, cond_false, x2, z1]
      congr 1
      have hw := f2.win g2
      rw [Bool.eq_iff_iff, z2, decide_eq_true_iff]
      have hcong : Win g (Rs g d) ↔ Win g (fn x) := Win.iff fun v hv => (xv.2 v hv).symm
      rw [hcong, ← hw]
      omega
    obtain ⟨str, str1, str2⟩ := line_ne d2 (a := r) (b := s) (by unfold I64; omega) (by unfold I64; omega) hrr
    have hstr : (str.toList == (⟨#[]⟩ : ByteArray).toList) = false := by
      rw [toList_eq]
      refine decide_eq_false fun c => ?_
      rw [c] at str2
      exact absurd str2 (by decide)
    simp only [cond_true, Bool.not_true, cond_false, q1, Option.bind_some, beq_self_eq_true, (deg_p d2).2, gg2, hsp, str1, hstr, Bool.not_false]
    rw [w64_id (n := r - s) (by omega) (by omega), w64_id (n := sm (N g) (fn d) + 1) (by omega) (by omega), w64_id (n := sm (N g) (fn d) + 1 - gn g) (by omega) (by omega), beq_t (show r - s = sm (N g) (fn d) + 1 - gn g by omega), cond_true, beq_t (show q = r by omega), cond_true]
end Go.Proofs.YtfpccehboifkbaaGreatDoor.D

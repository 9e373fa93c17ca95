/-
  The line that tells of a pile: both programs alike.
-/
import Derived.Test.YthmddgkpebneoaaDoorPurePl
namespace Go.Proofs.YthmddgkpebneoaaDoor.D
open Go Go.Den
set_option linter.unusedVariables false
set_option linter.unusedSimpArgs false
theorem effB_p {d : List Int} (h : d.length ≤ 1000) : ∃ b, impl_IsEffective d = some b ∧ spec_IsEffective d = some b ∧ (b = true ↔ ∀ v, v < d.length → 0 ≤ d.getD v 0) := by
  rw [impl_IsEffective_eq, spec_IsEffective_eq]
  have key : ∀ (m k : Nat), k + m = d.length → (∀ v, v < k → 0 ≤ d.getD v 0) → ∃ b, impl_IsEffective_l0 d (d.length : Int) (k : Int) = some b ∧ spec_IsEffective_l0 d (d.length : Int) (k : Int) = some b ∧ (b = true ↔ ∀ v, v < d.length → 0 ≤ d.getD v 0) := by
    intro m
    induction m with
    | zero =>
      intro k hk hp
      have : k = d.length := by omega
      subst this
      rw [impl_IsEffective_l0_eq, spec_IsEffective_l0_eq, dec_lt_f]
      exact ⟨true, rfl, rfl, ⟨fun _ => hp, fun _ => rfl⟩⟩
    | succ m ih =>
      intro k hk hp
      have hk' : k < d.length := by omega
      rw [impl_IsEffective_l0_eq, spec_IsEffective_l0_eq, dec_lt_t hk', inside_lt hk', toNat_n, w64_succ hk' (by omega)]
      simp only [cond_true]
      by_cases c : d.getD k 0 < 0
      · rw [decide_eq_true c]
        exact ⟨false, rfl, rfl, ⟨fun h => (by cases h), fun h => (by have := h k hk'; omega)⟩⟩
      · rw [decide_eq_false c]
        refine ih (k + 1) (by omega) fun v hv => ?_
        rcases Nat.lt_or_ge v k with h | h
        · exact hp v h
        · rw [show v = k by omega]; omega
  exact key d.length 0 (by omega) (fun v hv => by omega)
theorem w64_range (n : Int) : I64 (w64 n) := by
  simp [I64, w64, IntKind.wrap, IntKind.bits, IntKind.signed]
  omega
theorem sumB_p {d : List Int} (h : d.length ≤ 1000) : ∃ r, impl_sumOf d = some r ∧ spec_DegreeOf d = some r ∧ I64 r := by
  rw [impl_sumOf_eq, spec_DegreeOf_eq]
  have key : ∀ (m k : Nat) (s : Int), k + m = d.length → I64 s → ∃ r, impl_sumOf_l0 s d (d.length : Int) (k : Int) = some r ∧ spec_DegreeOf_l0 s d (d.length : Int) (k : Int) = some r ∧ I64 r := by
    intro m
    induction m with
    | zero =>
      intro k s hk hs
      have : k = d.length := by omega
      subst this
      rw [impl_sumOf_l0_eq, spec_DegreeOf_l0_eq, dec_lt_f]
      exact ⟨s, rfl, rfl, hs⟩
    | succ m ih =>
      intro k s hk hs
      have hk' : k < d.length := by omega
      rw [impl_sumOf_l0_eq, spec_DegreeOf_l0_eq, dec_lt_t hk', inside_lt hk', toNat_n, w64_succ hk' (by omega)]
      exact ih (k + 1) _ (by omega) (w64_range _)
  exact key d.length 0 0 (by omega) (by unfold I64; omega)
theorem sameB_p {a b : List Int} (h : a.length ≤ 1000) : ∃ r, impl_SameDivisor a b = some r ∧ spec_SameDivisor a b = some r := by
  rw [impl_SameDivisor_eq, slices_Equal_int_int_eq, spec_SameDivisor_eq]
  by_cases c : (a.length : Int) = (b.length : Int)
  · rw [eq_f c, cond_false, cond_false]
    have key : ∀ (m k : Nat), k + m = a.length → ∃ r, slices_Equal_int_int_l0 a b (a.length : Int) (k : Int) = some r ∧ spec_SameDivisor_l0 b a (a.length : Int) (k : Int) = some r := by
      intro m
      induction m with
      | zero =>
        intro k hk
        have : k = a.length := by omega
        subst this
        rw [slices_Equal_int_int_l0_eq, spec_SameDivisor_l0_eq, dec_lt_f]
        exact ⟨true, rfl, rfl⟩
      | succ m ih =>
        intro k hk
        have hk' : k < a.length := by omega
        rw [slices_Equal_int_int_l0_eq, spec_SameDivisor_l0_eq, dec_lt_t hk', inside_lt hk', inside_lt (show k < b.length by omega), w64_succ hk' (by omega)]
        simp only [cond_true]
        cases a.getD (k : Int).toNat 0 != b.getD (k : Int).toNat 0 with
        | true => exact ⟨false, rfl, rfl⟩
        | false => exact ih (k + 1) (by omega)
    obtain ⟨r, h1, h2⟩ := key a.length 0 (by omega)
    have h1' : slices_Equal_int_int_l0 a b (a.length : Int) 0 = some r := h1
    have h2' : spec_SameDivisor_l0 b a (a.length : Int) 0 = some r := h2
    rw [h1', h2']
    exact ⟨r, rfl, rfl⟩
  · rw [ne_t c]; exact ⟨false, rfl, rfl⟩
theorem pileOk_p {g : Gr} {p : List Int} {q : Int} (hg : g.2.length ≤ 1048576) (hp : p.length ≤ 1048576) : ∃ b, impl_PileOk g p q = some b ∧ spec_PileOk g p q = some b ∧ (b = true → DOk g p ∧ 0 ≤ q ∧ q < g.1 ∧ (∀ v, v < p.length → 0 ≤ p.getD v 0) ∧ p.getD q.toNat 0 = 0) := by
  obtain ⟨b, p1, p2, p3⟩ := divisorOk_p hg hp
  rw [impl_PileOk_eq, spec_PileOk_eq, p1, p2]
  cases b with
  | false => exact ⟨false, rfl, rfl, fun h => by cases h⟩
  | true =>
    have hD := p3.1 rfl
    have hn := gN hD.1
    have hl : p.length = N g := by have := hD.2.1; omega
    simp only [Option.bind_some, cond_true]
    rw [in_p, within_p, w64_id (by omega) (by omega)]
    simp only [Option.bind_some]
    by_cases c : 0 ≤ q ∧ q ≤ g.1 - 1
    · rw [decide_eq_true c]
      obtain ⟨e, e1, e2, e3⟩ := effB_p (d := p) (by omega)
      simp only [cond_true, e1, e2, Option.bind_some]
      cases e with
      | false => exact ⟨false, rfl, rfl, fun h => by cases h⟩
      | true =>
        rw [inside_int c.1 (by omega)]
        simp only [cond_true]
        exact ⟨_, rfl, rfl, fun h => ⟨hD, c.1, by omega, e3.1 rfl, by simpa using h⟩⟩
    · rw [decide_eq_false c]; exact ⟨false, rfl, rfl, fun h => by cases h⟩
theorem lap_off {n : Nat} {q w : Nat} (hne : w ≠ q) : ∀ {E : Es}, GE n E → lap E (one q) w = - mul E q w
  | [], _ => rfl
  | e :: E, hE => by
    obtain ⟨h1, h2⟩ := hE e List.mem_cons_self
    rw [lap_cons, mul_cons, lap_off hne hE.tail]
    have : tm (one q) w e = - hit e q w := by
      unfold tm hit one
      by_cases c1 : w = e.1
      · rw [if_pos c1]
        by_cases c2 : q = e.2
        · rw [if_neg hne, if_pos c2.symm, if_pos (.inr ⟨c2, c1⟩)]; omega
        · rw [if_neg hne, if_neg (fun k => c2 k.symm), if_neg (by omega)]; omega
      · rw [if_neg c1]
        by_cases c3 : w = e.2
        · rw [if_pos c3]
          by_cases c2 : q = e.1
          · rw [if_neg hne, if_pos c2.symm, if_pos (.inl ⟨c2, c3⟩)]; omega
          · rw [if_neg hne, if_neg (fun k => c2 k.symm), if_neg (by omega)]; omega
        · rw [if_neg c3, if_neg (by omega)]; rfl
    omega
theorem rec_p {g : Gr} {x : List Int} {q : Int} (hg : g.2.length ≤ 1048576) (hx : x.length ≤ 1000) : ∃ b, impl_IsRecurrent g x q = some b ∧ spec_IsRecurrent g x q = some b := by
  obtain ⟨b, p1, p2, p3⟩ := pileOk_p (g := g) (p := x) (q := q) hg (by omega)
  rw [impl_IsRecurrent_eq, spec_IsRecurrent_eq, impl_IsStable_eq, spec_IsStable_eq, p1, p2]
  cases b with
  | false => exact ⟨false, rfl, rfl⟩
  | true =>
    obtain ⟨hD, q1, q2, q3, q4⟩ := p3 rfl
    have hn := gN hD.1
    have h12 := hD.1.1.2.1
    obtain ⟨gE1, gE2, gE3⟩ := gE hD.1
    obtain ⟨k, rfl⟩ : ∃ k : Nat, q = (k : Int) := ⟨q.toNat, by omega⟩
    have hk : k < N g := by omega
    have hl : x.length = N g := by have := hD.2.1; omega
    have hv : vec (N g) x (fun w => x.getD w 0) := ⟨hl, fun _ _ => rfl⟩
    have hB : ∀ w, w < N g → 0 ≤ x.getD w 0 ∧ x.getD w 0 ≤ 60 := fun w hw => ⟨q3 w (by omega), (hD.2.2 w (by omega)).2⟩
    obtain ⟨r, u1, u2, _⟩ := unst_p hD.1 (q := k) hv
    simp only [Option.bind_some, cond_true, u1, u2]
    cases decide (r < 0) with
    | false => exact ⟨false, rfl, rfl⟩
    | true =>
      simp only [Bool.not_true, cond_false]
      obtain ⟨y, f1, f2⟩ := impl_fire_p hD.1 hv hk (t := 1) (B := 60) (T := 1) (fun w hw => by have := hB w hw; omega) (by omega) (by omega)
      let Z : Nat → Int := fun w => if w = k then 0 else x.getD w 0 + mul (Eg g) k w
      have hz : vec (N g) (y.set k 0) Z := (f2.set hk 0).congr fun w hw => by
        show (if w = k then 0 else _) = (if w = k then 0 else _)
        by_cases c : w = k
        · rw [if_pos c, if_pos c]
        · rw [if_neg c, if_neg c]
          have e : lap (Eg g) (fun u => 1 * one k u) w = lap (Eg g) (one k) w := lap_congr hw (fun u _ => by omega) gE1
          rw [e, lap_off c gE1]; omega
      have hlit : spec_l11Lit g x (k : Int) = some (y.set k 0) := by
        rw [spec_l11Lit_eq, hl]
        have := upFold (n := N g) (f := fun s i => spec_l11Lit_l0 (k : Int) g s x ((N g : Nat) : Int) i) (g := fun j s => s ++ [Z j]) (fun j s => s.length = j) (fun j s hj hs => ⟨by
          have hm := mul_bd k j (Eg g)
          have hb := hB j hj
          have hZ : x.getD j 0 + mul (Eg g) k j = Z j := by
            show _ = (if j = k then 0 else _)
            by_cases c : j = k
            · subst c
              rw [if_pos rfl, mul_same gE1]
              have q4' : x.getD j 0 = 0 := q4
              omega
            · rw [if_neg c]
          rw [spec_l11Lit_l0_eq, dec_lt_t hj, inside_lt (by omega), toNat_n, spec_mul_p hD.1 hk hj, w64_succ hj (by omega)]
          simp only [cond_true, Option.bind_some]
          rw [w64_id (by omega) (by omega), hZ, decide_eq_true (by rw [room]; simp only [List.length_singleton]; omega), cond_true], by rw [List.length_append, hs]; rfl⟩) (s := []) rfl
        refine this.1.trans ?_
        rw [spec_l11Lit_l0_eq, dec_lt_f, cond_false, itr_push Z, List.nil_append]
        have hr : vec (N g) ((List.range (N g)).map Z) Z := ⟨by simp, fun w hw => getD_range_map _ hw⟩
        exact congrArg some (hr.eq hz fun _ _ => rfl)
      obtain ⟨a, t, T, s1, s2, s3⟩ := settle_p hD.1 hk hz (fun w hw => by
        have := hB w hw
        have := mul_bd k w (Eg g)
        show -900 ≤ (if w = k then 0 else _) ∧ (if w = k then (0 : Int) else _) ≤ 900
        split <;> omega) (if_pos rfl)
      rw [impl_copyInts_eq, decide_eq_true (by rw [hl, room]; simp only [List.length_nil]; omega), cond_true, Option.bind_some, List.nil_append, f1, Option.bind_some, inside_lt (by rw [f2.1]; exact hk), cond_true, toNat_n, s1, hlit, Option.bind_some, Option.bind_some, s2, Option.bind_some, s3.vy.1]
      have loop : ∀ (m i : Nat), i + m = N g → ∃ b, impl_IsRecurrent_l0 x (k : Int) a t ((N g : Nat) : Int) (i : Int) = some b ∧ spec_IsRecurrent_l0 x (k : Int) (a, t) ((N g : Nat) : Int) (i : Int) = some b := by
        intro m
        induction m with
        | zero =>
          intro i hi
          have : i = N g := by omega
          subst this
          obtain ⟨b, b1, b2⟩ := sameB_p (a := a) (b := x) (by rw [s3.vx.1]; omega)
          rw [impl_IsRecurrent_l0_eq, spec_IsRecurrent_l0_eq, dec_lt_f, b1]
          simp only [cond_false, b2, Option.bind_some]
          exact ⟨b, rfl, rfl⟩
        | succ m ih =>
          intro i hi
          have hi' : i < N g := by omega
          rw [impl_IsRecurrent_l0_eq, spec_IsRecurrent_l0_eq, dec_lt_t hi', inside_lt (by rw [s3.vy.1]; exact hi'), w64_succ hi' (by omega)]
          simp only [cond_true]
          cases ((i : Int) != (k : Int)) with
          | false => exact ih (i + 1) (by omega)
          | true =>
            simp only [cond_true]
            cases (t.getD (i : Int).toNat 0 != 1) with
            | true => exact ⟨false, rfl, rfl⟩
            | false => exact ih (i + 1) (by omega)
      exact loop (N g) 0 (by omega)
theorem pileLine_p {g : Gr} {p : List Int} {q : Int} (hg : g.2.length ≤ 1048576) (hp : p.length ≤ 1048576) : ∃ x, spec_PileLine g p q = some x ∧ impl_PileLine g p q = some x := by
  obtain ⟨b, p1, p2, p3⟩ := pileOk_p (g := g) (p := p) (q := q) hg hp
  rw [spec_PileLine_eq, impl_PileLine_eq, spec_Stabilize_eq, impl_Stabilize_eq, p1, p2]
  cases b with
  | false => exact ⟨_, rfl, rfl⟩
  | true =>
    obtain ⟨hD, q1, q2, q3, q4⟩ := p3 rfl
    have hn := gN hD.1
    obtain ⟨gE1, gE2, gE3⟩ := gE hD.1
    obtain ⟨k, rfl⟩ : ∃ k : Nat, q = (k : Int) := ⟨q.toNat, by omega⟩
    have hk : k < N g := by omega
    have hl : p.length = N g := by have := hD.2.1; omega
    have hv : vec (N g) p (fun w => p.getD w 0) := ⟨hl, fun _ _ => rfl⟩
    obtain ⟨x, y, T, s1, s2, s3⟩ := settle_p hD.1 hk hv (fun w hw => by have := hD.2.2 w (by omega); omega) q4
    have hxi : ∀ z ∈ x, I64 z := fun z hz => by
      obtain ⟨j, hj, e⟩ := List.getElem_of_mem hz
      have hjn : j < N g := by rw [s3.vx.1] at hj; exact hj
      have h1 := s3.vx.2 j hjn
      rw [getD_lt hj, e] at h1
      have h1 : z = if j = k then 0 else p.getD j 0 - lap (Eg g) T j := h1
      have h2 := lap_bd (n := N g) (f := T) (T := 30941000) (fun w hw => by have := s3.lo w hw; omega) (by omega) hjn gE1 gE2
      have h3 := hD.2.2 j (by omega)
      rw [h1]
      unfold I64
      split <;> omega
    have hs := fd_size (d := x) (by rw [s3.vx.1]; omega) hxi
    obtain ⟨sm', m1, m2, m3⟩ := sumB_p (d := y) (by rw [s3.vy.1]; omega)
    have hm := fi_size m3
    obtain ⟨rb, r1, r2⟩ := rec_p (g := g) (x := x) (q := (k : Int)) hg (by rw [s3.vx.1]; omega)
    simp only [Option.bind_some, Bool.not_true, cond_false, s1, s2, spec_FormatDivisor_p (d := x) (by rw [s3.vx.1]; omega) hxi, impl_FormatDivisor_p (d := x) (by rw [s3.vx.1]; omega) hxi, m1, m2, spec_FormatInt_p m3, impl_FormatInt_p m3, r1, r2]
    have z1 : (⟨#[32, 97, 102, 116, 101, 114, 32]⟩ : ByteArray).size = 7 := rfl
    have z2 : (⟨#[32, 114, 101, 99, 117, 114, 114, 101, 110, 116]⟩ : ByteArray).size = 10 := rfl
    simp only [size_app, z1, z2]
    rw [decide_eq_true (show (fd x).size + 7 ≤ 9223372036854775807 by omega), decide_eq_true (show (fd x).size + 7 + (fi sm').size ≤ 9223372036854775807 by omega), decide_eq_true (show (fd x).size + 7 + (fi sm').size + 10 ≤ 9223372036854775807 by omega)]
    simp only [cond_true]
    cases rb with
    | false => exact ⟨_, rfl, rfl⟩
    | true => exact ⟨_, rfl, rfl⟩
theorem law_PileLine {g : Gr} {d : List Int} {q : Int} (hg : g.2.length ≤ 9223372036854775807) : laws_FnExactPileLine g d q = some true := by
  rw [laws_FnExactPileLine_eq]
  by_cases c0 : (d.length : Int) > 1048576
  · rw [decide_eq_true c0]; rfl
  obtain ⟨r, k1, k2⟩ := szGraph_p hg (m := 1048576) (by omega) (by omega)
  rw [decide_eq_false c0, k1]
  simp only [cond_false, Option.bind_some]
  by_cases c : r < 0
  · rw [decide_eq_true c]; rfl
  have hl : g.2.length ≤ 1048576 := by have := k2 (by omega); omega
  have t1 := toGraph_p (a := g) hl
  have t2 := toIntS_p (a := d) (by omega)
  have e1 : laws_eqGraph g g = some true := true_of (eqGraph_p hg) rfl
  have e2 : laws_eqIntS d d = some true := true_of (eqIntS_p (by omega)) rfl
  obtain ⟨x, p1, p2⟩ := pileLine_p hl (p := d) (q := q) (by omega)
  rw [decide_eq_false c]
  simp only [t1, t2, e1, e2, p1, p2, Option.bind_some, cond_false, Bool.not_true, beq_self_eq_true, bne_self_eq_false]
end Go.Proofs.YthmddgkpebneoaaDoor.D

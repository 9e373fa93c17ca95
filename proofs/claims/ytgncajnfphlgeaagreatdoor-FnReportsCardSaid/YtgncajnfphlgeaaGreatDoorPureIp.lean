/-
  The program's piles alone: what is stable, what recurs, and the line that tells of a pile.
-/
import Derived.Test.YtgncajnfphlgeaaGreatDoorPurePl
import Derived.Test.YtgncajnfphlgeaaGreatDoorPureIm
namespace Go.Proofs.YtgncajnfphlgeaaGreatDoor.D
open Go Go.Den
set_option linter.unusedVariables false
set_option linter.unusedSimpArgs false
theorem settle_i {g : Gr} (hg : GOk g) {q : Nat} (hq : q < N g) {p : List Int} {P : Nat → Int} (hp : vec (N g) p P) (hP0 : Bd (N g) 900 P) : ∃ x y T, impl_stabilize g p (q : Int) = some (x, y) ∧ Fin1 g q P x y T := by
  have hn := gN hg
  obtain ⟨gE1, gE2, gE3⟩ := gE hg
  obtain ⟨t, ht⟩ := pay_ex hg hq (D := Db g P) (fun v hv => by
    have := val_bd v (Eg g)
    have := hP0 v hv
    unfold Db; omega)
  have hr1 : (decide (0 ≤ g.1) && decide (g.1 ≤ (room : Int))) = true := by rw [room]; simp; omega
  have hl : decide (([] : List Int).length + p.length ≤ room) = true := decide_eq_true (by rw [hp.1, room]; simp only [List.length_nil]; omega)
  have start : SI g q P t (List.replicate g.1.toNat 0) P (fun _ => 0) := ⟨vec.zero (N g), fun w hw _ => by rw [lap_const hw (fun _ _ => rfl) gE1]; omega, rfl, fun w hw => ⟨Int.le_refl _, (ht.bd w).1⟩⟩
  obtain ⟨m, hm⟩ := bound_nat _ start.msr
  obtain ⟨x, y, T, h1, h2, h3⟩ := impl_run hg hq hP0 ht m p _ P _ hm hp (by rw [lap_const hq (fun _ _ => rfl) gE1]; omega) start
  refine ⟨x, y, T, ?_, h2⟩
  rw [impl_stabilize_eq, impl_copyInts_eq, hl, cond_true, Option.bind_some, hr1, cond_true, List.nil_append]
  exact h1
theorem w64_rng (n : Int) : I64 (w64 n) := by
  simp [I64, w64, IntKind.wrap, IntKind.bits, IntKind.signed]
  omega
theorem sumB_i {d : List Int} (h : d.length ≤ 1000) : ∃ r, impl_sumOf d = some r ∧ I64 r := by
  rw [impl_sumOf_eq]
  have key : ∀ (m k : Nat) (s : Int), k + m = d.length → I64 s → ∃ r, impl_sumOf_l0 s d (d.length : Int) (k : Int) = some r ∧ I64 r := by
    intro m
    induction m with
    | zero =>
      intro k s hk hs
      have : k = d.length := by omega
      subst this
      rw [impl_sumOf_l0_eq, dec_lt_f]
      exact ⟨s, rfl, hs⟩
    | succ m ih =>
      intro k s hk hs
      have hk' : k < d.length := by omega
      rw [impl_sumOf_l0_eq, dec_lt_t hk', inside_lt hk', toNat_n, w64_succ hk' (by omega)]
      exact ih (k + 1) _ (by omega) (w64_rng _)
  exact key d.length 0 0 (by omega) (by unfold I64; omega)
theorem sameB_i {a b : List Int} (h : a.length ≤ 1000) : ∃ r, impl_SameDivisor a b = some r := by
  rw [impl_SameDivisor_eq, slices_Equal_int_int_eq]
  by_cases c : (a.length : Int) = (b.length : Int)
  · rw [eq_f c, cond_false]
    have key : ∀ (m k : Nat), k + m = a.length → ∃ r, slices_Equal_int_int_l0 a b (a.length : Int) (k : Int) = some r := by
      intro m
      induction m with
      | zero =>
        intro k hk
        have : k = a.length := by omega
        subst this
        rw [slices_Equal_int_int_l0_eq, dec_lt_f]
        exact ⟨true, rfl⟩
      | succ m ih =>
        intro k hk
        have hk' : k < a.length := by omega
        rw [slices_Equal_int_int_l0_eq, dec_lt_t hk', inside_lt hk', inside_lt (show k < b.length by omega), w64_succ hk' (by omega)]
        simp only [cond_true]
        cases a.getD (k : Int).toNat 0 != b.getD (k : Int).toNat 0 with
        | true => exact ⟨false, rfl⟩
        | false => exact ih (k + 1) (by omega)
    obtain ⟨r, h1⟩ := key a.length 0 (by omega)
    have h1' : slices_Equal_int_int_l0 a b (a.length : Int) 0 = some r := h1
    rw [h1']
    exact ⟨r, rfl⟩
  · rw [ne_t c]; exact ⟨false, rfl⟩
/-- a pile: no debts, nothing at the sink -/
structure POk (g : Gr) (p : List Int) (q : Nat) : Prop where
  dv : DOk g p
  lt : q < N g
  pos : ∀ v, v < p.length → 0 ≤ p.getD v 0
  zero : p.getD q 0 = 0
theorem dok_i {g : Gr} (hg : GOk g) {d : List Int} (hl : d.length ≤ 1000) : ∃ b, impl_DivisorOk g d = some b ∧ (b = true ↔ DOk g d) := by
  rw [impl_DivisorOk_eq, okI hg, Option.bind_some, cond_true]
  by_cases c : (d.length : Int) = g.1
  · obtain ⟨b, q1, q2⟩ := allWithin_p (l := d) (lo := -60) (hi := 60) (by omega)
    rw [beq_t c, cond_true, q1]
    exact ⟨b, rfl, q2.trans ⟨fun h => ⟨hg, c, h⟩, fun h => h.2.2⟩⟩
  · rw [beq_f c]
    exact ⟨false, rfl, ⟨fun h => (by cases h), fun h => absurd h.2.1 c⟩⟩
theorem pileOk_i {g : Gr} {p : List Int} (hg : GOk g) (hl : p.length = N g) (q : Nat) (hq : q < N g) : ∃ b, impl_PileOk g p (q : Int) = some b ∧ (b = true ↔ POk g p q) := by
  have hn := gN hg
  obtain ⟨b, d1, d2⟩ := dok_i hg (d := p) (by omega)
  rw [impl_PileOk_eq, d1, Option.bind_some]
  cases b with
  | false => exact ⟨false, rfl, ⟨fun h => (by cases h), fun h => d2.2 h.dv⟩⟩
  | true =>
    obtain ⟨e, e1, e2⟩ := isEff_p (d := p) (by omega)
    rw [cond_true, within_p, w64_id (by omega) (by omega), Option.bind_some, decide_eq_true (by omega), cond_true, e1, Option.bind_some]
    cases e with
    | false => exact ⟨false, rfl, ⟨fun h => (by cases h), fun h => e2.2 h.pos⟩⟩
    | true =>
      rw [cond_true, inside_lt (by omega), cond_true, toNat_n]
      exact ⟨_, rfl, ⟨fun h => ⟨d2.1 rfl, hq, e2.1 rfl, by simpa using h⟩, fun h => by simpa using h.zero⟩⟩
theorem lap_offI {n : Nat} {q w : Nat} (hne : w ≠ q) : ∀ {E : Es}, GE n E → lap E (one q) w = - mul E q w
  | [], _ => rfl
  | e :: E, hE => by
    obtain ⟨h1, h2⟩ := hE e List.mem_cons_self
    rw [lap_cons, mul_cons, lap_offI hne hE.tail]
    have : tm (one q) w e = - hit e q w := by
      unfold tm hit one
      by_cases c1 : w = e.1
      · rw [if_pos c1]
        by_cases c2 : q = e.2
        · rw [if_neg hne, if_pos c2.symm, if_pos (.inr ⟨c2, c1⟩)]; omega
        · rw [if_neg hne, if_neg (fun k => c2 k.symm), if_neg (by omega)]; omega
      · rw [if_neg c1]
        by_cases c3 : w = e.2
        · rw [if_pos c3]
          by_cases c2 : q = e.1
          · rw [if_neg hne, if_pos c2.symm, if_pos (.inl ⟨c2, c3⟩)]; omega
          · rw [if_neg hne, if_neg (fun k => c2 k.symm), if_neg (by omega)]; omega
        · rw [if_neg c3, if_neg (by omega)]; rfl
    omega
theorem rec_i {g : Gr} {x : List Int} (hg : GOk g) (hl : x.length = N g) (k : Nat) (hk : k < N g) : ∃ b, impl_IsRecurrent g x (k : Int) = some b := by
  obtain ⟨b, p1, p3⟩ := pileOk_i hg hl k hk
  rw [impl_IsRecurrent_eq, impl_IsStable_eq, p1]
  cases b with
  | false => exact ⟨false, rfl⟩
  | true =>
    have hP := p3.1 rfl
    have hD := hP.dv
    have hn := gN hD.1
    have h12 := hD.1.1.2.1
    obtain ⟨gE1, gE2, gE3⟩ := gE hD.1
    have hv : vec (N g) x (fun w => x.getD w 0) := ⟨hl, fun _ _ => rfl⟩
    have hB : ∀ w, w < N g → 0 ≤ x.getD w 0 ∧ x.getD w 0 ≤ 60 := fun w hw => ⟨hP.pos w (by omega), (hD.2.2 w (by omega)).2⟩
    obtain ⟨r, u1, _⟩ := unst_i hD.1 (q := k) hv
    simp only [Option.bind_some, cond_true, u1]
    cases decide (r < 0) with
    | false => exact ⟨false, rfl⟩
    | true =>
      simp only [Bool.not_true, cond_false]
      obtain ⟨y, f1, f2⟩ := impl_fire_p hD.1 hv hk (t := 1) (B := 60) (T := 1) (fun w hw => by have := hB w hw; omega) (by omega) (by omega)
      let Z : Nat → Int := fun w => if w = k then 0 else x.getD w 0 + mul (Eg g) k w
      have hz : vec (N g) (y.set k 0) Z := (f2.set hk 0).congr fun w hw => by
        show (if w = k then 0 else _) = (if w = k then 0 else _)
        by_cases c : w = k
        · rw [if_pos c, if_pos c]
        · rw [if_neg c, if_neg c]
          have e : lap (Eg g) (fun u => 1 * one k u) w = lap (Eg g) (one k) w := lap_congr hw (fun u _ => by omega) gE1
          rw [e, lap_offI c gE1]; omega
      obtain ⟨a, t, T, s1, s3⟩ := settle_i hD.1 hk hz (fun w hw => by
        have := hB w hw
        have := mul_bd k w (Eg g)
        show -900 ≤ (if w = k then 0 else _) ∧ (if w = k then (0 : Int) else _) ≤ 900
        split <;> omega)
      rw [impl_copyInts_eq, decide_eq_true (by rw [hl, room]; simp only [List.length_nil]; omega), cond_true, Option.bind_some, List.nil_append, f1, Option.bind_some, inside_lt (by rw [f2.1]; exact hk), cond_true, toNat_n, s1, Option.bind_some, s3.vy.1]
      have loop : ∀ (m i : Nat), i + m = N g → ∃ b, impl_IsRecurrent_l0 x (k : Int) a t ((N g : Nat) : Int) (i : Int) = some b := by
        intro m
        induction m with
        | zero =>
          intro i hi
          have : i = N g := by omega
          subst this
          obtain ⟨b, b1⟩ := sameB_i (a := a) (b := x) (by rw [s3.vx.1]; omega)
          rw [impl_IsRecurrent_l0_eq, dec_lt_f, b1]
          exact ⟨b, rfl⟩
        | succ m ih =>
          intro i hi
          have hi' : i < N g := by omega
          rw [impl_IsRecurrent_l0_eq, dec_lt_t hi', inside_lt (by rw [s3.vy.1]; exact hi'), w64_succ hi' (by omega)]
          simp only [cond_true]
          cases ((i : Int) != (k : Int)) with
          | false => exact ih (i + 1) (by omega)
          | true =>
            simp only [cond_true]
            cases (t.getD (i : Int).toNat 0 != 1) with
            | true => exact ⟨false, rfl⟩
            | false => exact ih (i + 1) (by omega)
      exact loop (N g) 0 (by omega)
theorem pileLine_i {g : Gr} {p : List Int} {k : Nat} (hP : POk g p k) : ∃ x, impl_PileLine g p (k : Int) = some x ∧ 0 < x.size := by
  have hD := hP.dv
  have hk := hP.lt
  have hn := gN hD.1
  obtain ⟨gE1, gE2, gE3⟩ := gE hD.1
  have hl : p.length = N g := by have := hD.2.1; omega
  obtain ⟨b, p1, p3⟩ := pileOk_i hD.1 hl k hk
  have hb := p3.2 hP
  subst hb
  have hv : vec (N g) p (fun w => p.getD w 0) := ⟨hl, fun _ _ => rfl⟩
  obtain ⟨x, y, T, s1, s3⟩ := settle_i hD.1 hk hv (fun w hw => by have := hD.2.2 w (by omega); omega)
  have hxl := s3.vx.1
  have hxb : ∀ j, j < N g → -742585000 ≤ x.getD j 0 ∧ x.getD j 0 ≤ 742585000 := fun j hj => by
    have h1 := s3.vx.2 j hj
    have h1 : x.getD j 0 = if j = k then 0 else p.getD j 0 - lap (Eg g) T j := h1
    have h2 := lap_bd (n := N g) (f := T) (T := 30941000) (fun w hw => by have := s3.lo w hw; omega) (by omega) hj gE1 gE2
    have h3 := hD.2.2 j (by omega)
    rw [h1]
    split <;> omega
  have hxi : ∀ z ∈ x, I64 z := fun z hz => by
    obtain ⟨j, hj, e⟩ := List.getElem_of_mem hz
    have := hxb j (by omega)
    rw [getD_lt hj, e] at this
    unfold I64; omega
  have hs := fd_size (d := x) (by rw [s3.vx.1]; omega) hxi
  obtain ⟨sm', m1, m3⟩ := sumB_i (d := y) (by rw [s3.vy.1]; omega)
  have hm := fi_size m3
  obtain ⟨rb, r1⟩ := rec_i hD.1 hxl k hk
  rw [impl_PileLine_eq, impl_Stabilize_eq, p1]
  simp only [Option.bind_some, Bool.not_true, cond_false, s1, impl_FormatDivisor_p (d := x) (by rw [s3.vx.1]; omega) hxi, m1, impl_FormatInt_p m3, r1]
  have z1 : (⟨#[32, 97, 102, 116, 101, 114, 32]⟩ : ByteArray).size = 7 := rfl
  have z2 : (⟨#[32, 114, 101, 99, 117, 114, 114, 101, 110, 116]⟩ : ByteArray).size = 10 := rfl
  simp only [size_app, z1, z2]
  rw [decide_eq_true (show (fd x).size + 7 ≤ 9223372036854775807 by omega), decide_eq_true (show (fd x).size + 7 + (fi sm').size ≤ 9223372036854775807 by omega), decide_eq_true (show (fd x).size + 7 + (fi sm').size + 10 ≤ 9223372036854775807 by omega)]
  simp only [cond_true]
  cases rb with
  | false => exact ⟨_, rfl, by simp only [size_app, z1, z2]; omega⟩
  | true => exact ⟨_, rfl, by simp only [size_app, z1, z2]; omega⟩
end Go.Proofs.YtgncajnfphlgeaaGreatDoor.D

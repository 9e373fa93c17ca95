/-
  A harmonic morphism has the same degree over every vertex, and carries classes to classes both ways.
-/
import Derived.Test.YtikkkdpemjcjlaaPureMk
namespace Go.Proofs.Ytikkkdpemjcjlaa.D
open Go Go.Den
set_option linter.unusedVariables false
set_option linter.unusedSimpArgs false
theorem sumV {n : Nat} {d : List Int} {D : Nat → Int} (hn : n ≤ 6) (hd : vec n d D) (hD : Bd n 1000 D) : impl_DegreeOf d = some (sm n D) := by
  have bd : ∀ k, k ≤ n → -(1000 * (k : Int)) ≤ sm k D ∧ sm k D ≤ 1000 * (k : Int) := fun k => by
    induction k with
    | zero => intro _; simp [sm]
    | succ k ih =>
      intro hk
      have := ih (by omega)
      have := hD k (by omega)
      rw [sm]
      omega
  have hs : impl_sumOf d = some (sm n D) := by
    rw [impl_sumOf_eq, hd.1]
    have := upFold (n := n) (f := fun s i => impl_sumOf_l0 s d (n : Int) i) (g := fun k s => sm (k + 1) D) (fun k s => s = sm k D) (fun k s hk hs => ⟨by
      subst hs
      have b1 := bd (k + 1) (by omega)
      rw [sm] at b1
      rw [impl_sumOf_l0_eq, dec_lt_t hk, inside_lt (by rw [hd.1]; exact hk), toNat_n, hd.2 k hk, w64_succ hk (by omega)]
      simp only [cond_true, sm]
      rw [w64_id (by omega) (by omega)], rfl⟩) (s := 0) rfl
    refine this.1.trans ?_
    rw [this.2, impl_sumOf_l0_eq, dec_lt_f]; rfl
  rw [impl_DegreeOf_eq, hs]; rfl
theorem fireS_i {g : Gr} (hG : GOk g) {d s : List Int} {D S : Nat → Int} (hd : vec (N g) d D) (hs : vec (N g) s S) (hD : Bd (N g) 60 D) (hS : Bd (N g) 3 S) : ∃ x, impl_FireScript g d s = some (x, true) ∧ vec (N g) x (fun w => D w - lap (Eg g) S w) := by
  have hn := gN hG
  have g12 := hG.1.2.1
  obtain ⟨gE1, gE2, gE3⟩ := gE hG
  obtain ⟨b, _, p2, p3⟩ := graphOk_p (g := g) (by omega)
  have hb := p3.2 hG
  subst hb
  obtain ⟨b, q1, q2⟩ := allWithin_p (l := s) (lo := -100000) (hi := 100000) (by rw [hs.1]; omega)
  have hb := q2.2 fun j hj => by rw [hs.1] at hj; rw [hs.2 j hj]; have := hS j hj; omega
  subst hb
  have hsc : impl_ScriptOk g s = some true := by
    rw [impl_ScriptOk_eq, p2, Option.bind_some, cond_true, beq_t (by rw [hs.1]; omega), cond_true, q1]; rfl
  rw [impl_FireScript_eq, dok_i hG hd hD, Option.bind_some]
  simp only [Bool.not_true, cond_false]
  rw [hsc, Option.bind_some]
  simp only [Bool.not_true, cond_false]
  rw [impl_fired_eq, impl_copyInts_eq, decide_eq_true (by rw [room, hd.1]; simp only [List.length_nil]; omega), cond_true, Option.bind_some, List.nil_append, hs.1]
  have key : ∀ (m k : Nat) (x : List Int), k + m = N g → vec (N g) x (fun w => D w - lap (Eg g) (fun u => if u < k then S u else 0) w) → ∃ y, impl_fired_l0 g x s ((N g : Nat) : Int) (k : Int) = some y ∧ vec (N g) y (fun w => D w - lap (Eg g) S w) := by
    intro m
    induction m with
    | zero =>
      intro k x hk hx
      have : k = N g := by omega
      subst this
      rw [impl_fired_l0_eq, dec_lt_f]
      exact ⟨x, rfl, hx.congr fun w hw => by rw [lap_congr hw (fun u hu => if_pos hu) gE1]⟩
    | succ m ih =>
      intro k x hk hx
      have hk' : k < N g := by omega
      have hSk := hS k hk'
      obtain ⟨r, r1, r2⟩ := impl_fire_p hG hx hk' (t := S k) (B := 1000) (T := 3) (fun w hw => by
        have := hD w hw
        have := lap_bd (n := N g) (f := fun u => if u < k then S u else 0) (T := 3) (fun u hu => by
          have := hS u hu
          show -3 ≤ (if u < k then S u else 0) ∧ (if u < k then S u else 0) ≤ 3
          split <;> omega) (by omega) hw gE1 gE2
        omega) (by omega) (by omega)
      rw [impl_fired_l0_eq, dec_lt_t hk', cond_true, inside_lt (by rw [hs.1]; exact hk'), cond_true, toNat_n, hs.2 k hk', r1, Option.bind_some, w64_succ hk' (by omega)]
      refine ih (k + 1) r (by omega) (r2.congr fun w hw => ?_)
      have e : lap (Eg g) (fun u => if u < k + 1 then S u else 0) w = lap (Eg g) (fun u => (if u < k then S u else 0) + S k * one k u) w := lap_congr hw (fun u hu => by
        unfold one
        by_cases c : u = k
        · subst c; rw [if_pos (Nat.lt_succ_self _), if_neg (Nat.lt_irrefl _), if_pos rfl]; omega
        · rw [if_neg c]
          by_cases c2 : u < k
          · rw [if_pos c2, if_pos (show u < k + 1 by omega)]; omega
          · rw [if_neg c2, if_neg (show ¬ u < k + 1 by omega)]; omega) gE1
      rw [e, lap_add]; omega
  obtain ⟨y, y1, y2⟩ := key (N g) 0 d (by omega) (hd.congr fun w hw => by
    rw [lap_const hw (fun u _ => if_neg (Nat.not_lt_zero u)) gE1]; omega)
  have y1' : impl_fired_l0 g d s ((N g : Nat) : Int) 0 = some y := y1
  rw [y1']
  exact ⟨y, rfl, y2⟩
theorem equalR_p {a : List Int} (h : a.length ≤ 1000) : slices_Equal_int_int a a = some true := by
  rw [slices_Equal_int_int_eq, eq_f rfl, cond_false]
  obtain ⟨r, h1, h2⟩ := upAll (n := a.length) (f := fun i => slices_Equal_int_int_l0 a a (a.length : Int) i) (p := fun k => true) (fun k hk => by
    rw [slices_Equal_int_int_l0_eq, dec_lt_t hk, inside_lt hk, toNat_n, w64_succ hk (by omega)]
    simp only [cond_true]
    rw [eq_f rfl]; rfl) (by rw [slices_Equal_int_int_l0_eq, dec_lt_f]; rfl)
  exact h1.trans (congrArg some (h2.2 fun _ _ => rfl))
theorem equiv_i {h : Gr} (K : GOk h) {a b : List Int} {A B F : Nat → Int} (ha : vec (N h) a A) (hb : vec (N h) b B) (hA : Bd (N h) 60 A) (hB : Bd (N h) 60 B) (hF : ∀ w, w < N h → B w = A w - lap (Eg h) F w) : impl_AreEquivalent h a b = some true := by
  have hn := gN K
  have h12 := K.1.2.1
  obtain ⟨hE1, hE2, hE3⟩ := gE K
  have h0 : 0 < N h := by omega
  obtain ⟨x, y, O, S, x1, x2⟩ := reduce_i K h0 ha (fun w hw => by have := hA w hw; omega)
  obtain ⟨x', y', O', S', z1, z2⟩ := reduce_i K h0 hb (fun w hw => by have := hB w hw; omega)
  have key := Red.uniq (s := fun w => (S' w + F w) + - S w) hE1 h0 x2.red z2.red fun v hv => by
    rw [lap_add, lap_add, lap_neg]
    have := x2.out v hv
    have := z2.out v hv
    have := hF v hv
    omega
  have hx : x = x' := x2.vx.eq z2.vx fun w hw => (key w hw).2.symm
  obtain ⟨c, _, p2, p3⟩ := graphOk_p (g := h) (by omega)
  have hc := p3.2 K
  subst hc
  have hv : impl_isVertex h 0 = some true := by
    rw [impl_isVertex_eq, p2, Option.bind_some, cond_true, within_p, w64_id (n := h.1 - 1) (by omega) (by omega), decide_eq_true (by omega)]; rfl
  have x1' : impl_reduce h a 0 = some (x, y) := x1
  have z1' : impl_reduce h b 0 = some (x', y') := z1
  rw [impl_AreEquivalent_eq, impl_RepresentativeOf_eq, impl_RepresentativeOf_eq, impl_ReducedOf_eq, impl_ReducedOf_eq, dok_i K ha hA, dok_i K hb hB]
  simp only [Option.bind_some, Bool.not_true, cond_false]
  rw [hv]
  simp only [Option.bind_some, Bool.not_true, cond_false]
  rw [x1', z1']
  simp only [Option.bind_some, cond_true]
  rw [← hx, impl_SameDivisor_eq, equalR_p (by rw [x2.vx.1]; omega)]; rfl
/-- small fibres: what is pushed forward stays small -/
theorem inv_fib {g h : Gr} {m : Mo} (H : HOk g h m) (I : Inv g m) {D S : Nat → Int} (hD : ∀ v, v < N g → -2 ≤ D v ∧ D v ≤ 6) (hS : Bd (N g) 3 S) (w : Nat) :
    (-60 ≤ fib g m D w ∧ fib g m D w ≤ 60) ∧ (-60 ≤ fib g m D w - fib g m (lap (Eg g) S) w ∧ fib g m D w - fib g m (lap (Eg g) S) w ≤ 60) := by
  obtain ⟨⟨G, K, M1, M2, M3, M4⟩, A⟩ := H
  have hn := gN G
  obtain ⟨⟨i1, i2⟩, ⟨i3, i4⟩, i5⟩ := I
  have hl := sm_abs (c := 6) (by omega) (n := g.2.length) (f := GE2 g m S w) fun i hi => by
    obtain ⟨e1, e2, e3⟩ := ends_g G hi
    have h1 := hS (ae g i) (by omega)
    have h2 := hS (be g i) e3
    unfold GE2
    split <;> split <;> omega
  rw [← fib_lap G] at hl
  have key : (-4 ≤ fib g m D w ∧ fib g m D w ≤ 12) ∨ (g.2.length ≤ 4 ∧ -24 ≤ fib g m D w ∧ fib g m D w ≤ 24) := by
    rcases i5 with i5 | ⟨i5, i6⟩
    · left
      have up : fib g m D w ≤ sm (N g) (fun v => (if v = w then 6 else 0) + if v = 0 then 6 else 0) := sm_le fun v hv => by
        have := hD v hv
        show (if m.1.getD v 0 = (w : Int) then D v else 0) ≤ _
        by_cases c : m.1.getD v 0 = (w : Int)
        · rw [if_pos c]
          by_cases c0 : v = 0
          · rw [if_pos c0]; split <;> omega
          · have := i5 v (by omega) (by omega)
            rw [if_neg c0, if_pos (show v = w by omega)]; omega
        · rw [if_neg c]; split <;> split <;> omega
      have lo : sm (N g) (fun v => (if v = w then -2 else 0) + if v = 0 then -2 else 0) ≤ fib g m D w := sm_le fun v hv => by
        have := hD v hv
        show _ ≤ (if m.1.getD v 0 = (w : Int) then D v else 0)
        by_cases c : m.1.getD v 0 = (w : Int)
        · rw [if_pos c]
          by_cases c0 : v = 0
          · rw [if_pos c0]; split <;> omega
          · have := i5 v (by omega) (by omega)
            rw [if_neg c0, if_pos (show v = w by omega)]; omega
        · rw [if_neg c]; split <;> split <;> omega
      rw [sm_add, sm_one, sm_one] at up lo
      by_cases hw : w < N g <;> by_cases hz : 0 < N g <;> simp only [hw, hz, if_true, if_false] at up lo <;> omega
    · right
      have := sm_abs (c := 6) (by omega) (n := N g) (f := fun v => if m.1.getD v 0 = (w : Int) then D v else 0) fun v hv => by
        have := hD v hv
        show -6 ≤ (if _ then D v else 0) ∧ (if _ then D v else 0) ≤ 6
        split <;> omega
      unfold fib
      omega
  omega
theorem law_Morphisms {l : List Int} : laws_FnMorphisms l = some true := by
  rw [laws_FnMorphisms_eq]
  by_cases c0 : (l.length : Int) > 1048576
  · rw [decide_eq_true c0]; rfl
  obtain ⟨g, h, m, g1, I, H⟩ := makeMorphism_p (l := l) (by omega)
  have H' := H
  obtain ⟨⟨G, K, M1, M2, M3, M4⟩, A⟩ := H'
  have hn := gN G
  have hk := gN K
  have g12 := G.1.2.1
  have h12 := K.1.2.1
  have ct0 : 0 ≤ ct g m 0 ∧ ct g m 0 ≤ (g.2.length : Int) := by
    have := sm_bd (f := fun i => if m.2.getD i 0 = ((0 : Nat) : Int) then 1 else 0) (c := 1) (fun i => by
      show 0 ≤ (if _ then (1 : Int) else 0) ∧ (if _ then (1 : Int) else 0) ≤ 1
      split <;> omega) g.2.length
    unfold ct; omega
  obtain ⟨b, _, p2, p3⟩ := morphismOk_p (g := g) (h := h) (m := m) (by omega) (by omega) (by omega) (by omega)
  have hb := p3.2 H.1
  subst hb
  obtain ⟨b, _, r2, r3⟩ := harmonic_p (g := g) (h := h) (m := m) (by omega) (by omega) (by omega) (by omega)
  have hb := r3.2 H
  subst hb
  rw [decide_eq_false c0, cond_false, g1, Option.bind_some]
  simp only
  rw [degree_i H, Option.bind_some, p2, Option.bind_some]
  simp only [Bool.not_true, cond_false]
  rw [r2, Option.bind_some]
  simp only [Bool.not_true, cond_false]
  rw [decide_eq_false (by omega), cond_false]
  -- the draws
  obtain ⟨d, D, d1, d2, d3⟩ := makeDivisor_p (l := l) (by omega) G (n := 20) (by omega)
  obtain ⟨s, S, s1, s2, s3⟩ := makeScript_p (l := l) (by omega) G (n := 40) (by omega)
  obtain ⟨e, E, e1, e2, e3⟩ := makeDivisor_p (l := l) (by omega) K (n := 30) (by omega)
  have d1' : spec_MakeDivisor l 20 g = some d := d1
  have s1' : spec_MakeScript l 40 g = some s := s1
  have e1' : spec_MakeDivisor l 30 h = some e := e1
  have hS : Bd (N g) 3 S := s3
  have hD : Bd (N g) 60 D := fun v hv => by have := d3 v hv; omega
  have hE : Bd (N h) 60 E := fun v hv => by have := e3 v hv; omega
  have fb := inv_fib H I d3 hS
  obtain ⟨x, x1, x2⟩ := fireS_i G d2 s2 hD hS
  have xb : Bd (N g) 60 (fun w => D w - lap (Eg g) S w) := fun w hw => by
    have h1 := d3 w hw
    have h2 : -48 ≤ lap (Eg g) S w ∧ lap (Eg g) S w ≤ 48 := by
      obtain ⟨gE1, gE2, gE3⟩ := gE G
      have := sm_abs (c := 6) (by omega) (n := (Eg g).length) (f := fun i => tm S w ((Eg g).getD i (0, 0))) fun i hi => by
        have he := gE1 _ (getD_mem (0, 0) hi)
        have := tm_bd hS hw (e := (Eg g).getD i (0, 0)) (by omega) he.2
        show -6 ≤ tm S w _ ∧ tm S w _ ≤ 6
        omega
      rw [← lap_sm] at this
      have := I.1.2
      omega
    show -60 ≤ D w - lap (Eg g) S w ∧ D w - lap (Eg g) S w ≤ 60
    omega
  obtain ⟨a, a1, a2⟩ := push_i H d2 hD
  obtain ⟨b, b1, b2⟩ := push_i H x2 xb
  obtain ⟨p, P1, P2⟩ := pull_i H e2 hE
  have pb : ∀ v, v < N g → -16 ≤ Hr g h m v * E (m.1.getD v 0).toNat ∧ Hr g h m v * E (m.1.getD v 0).toNat ≤ 48 := fun v hv => by
    have h1 := Hr_bd (g := g) (h := h) (m := m) v
    have h2 := M3 v (by omega)
    have h3 := e3 (m.1.getD v 0).toNat (by omega)
    have h4 := I.1.2
    obtain ⟨q, hq⟩ : ∃ q : Nat, Hr g h m v = (q : Int) := ⟨(Hr g h m v).toNat, by omega⟩
    rw [hq]
    have hq8 : q ≤ 8 := by omega
    constructor
    · have : (q : Int) * (-2) ≤ (q : Int) * E (m.1.getD v 0).toNat := Int.mul_le_mul_of_nonneg_left h3.1 (by omega)
      omega
    · have : (q : Int) * E (m.1.getD v 0).toNat ≤ (q : Int) * 6 := Int.mul_le_mul_of_nonneg_left h3.2 (by omega)
      omega
  obtain ⟨q, q1, q2⟩ := push_i H P2 (fun v hv => by have := pb v hv; omega)
  have fib_sub : ∀ w, fib g m (fun w => D w - lap (Eg g) S w) w = fib g m D w - fib g m (lap (Eg g) S) w := fun w => by
    unfold fib
    rw [sm_congr (g := fun v => (if m.1.getD v 0 = (w : Int) then D v else 0) + -(if m.1.getD v 0 = (w : Int) then lap (Eg g) S v else 0)) fun v _ => by
      show (if m.1.getD v 0 = (w : Int) then D v - lap (Eg g) S v else 0) = _
      split <;> omega, sm_add]
    have : ∀ (f : Nat → Int) n, sm n (fun i => - f i) = - sm n f := fun f n => by
      induction n with
      | zero => rfl
      | succ n ih => rw [sm, sm, ih]; omega
    rw [this]; omega
  have heq := equiv_i K a2 b2 (fun w hw => (fb w).1) (fun w hw => by rw [fib_sub]; exact (fb w).2) (F := fib g m (fun v => Hr g h m v * S v)) fun w hw => by
    rw [fib_sub, push_lap H S hw]
  -- q is n times e
  have qe : 0 < h.2.length → ∀ w, w < N h → fib g m (fun v => Hr g h m v * E (m.1.getD v 0).toNat) w = ct g m 0 * E w := fun h0 w hw => by
    rw [← deg_all H h0 hw]
    unfold fib
    generalize N g = n
    induction n with
    | zero => simp [sm]
    | succ n ih =>
      rw [sm, sm, ih, Int.add_mul]
      congr 1
      by_cases c : m.1.getD n 0 = (w : Int)
      · rw [if_pos c, if_pos c]
        show Hr g h m n * E (m.1.getD n 0).toNat = _
        rw [c, Int.toNat_natCast]
      · rw [if_neg c, if_neg c, Int.zero_mul]
  have nE : ∀ w, w < N h → -24 ≤ ct g m 0 * E w ∧ ct g m 0 * E w ≤ 72 := fun w hw => by
    have h3 := e3 w hw
    obtain ⟨q, hq⟩ : ∃ q : Nat, ct g m 0 = (q : Int) := ⟨(ct g m 0).toNat, by omega⟩
    rw [hq]
    have hq8 : q ≤ 12 := by omega
    constructor
    · have : (q : Int) * (-2) ≤ (q : Int) * E w := Int.mul_le_mul_of_nonneg_left h3.1 (by omega)
      omega
    · have : (q : Int) * E w ≤ (q : Int) * 6 := Int.mul_le_mul_of_nonneg_left h3.2 (by omega)
      omega
  have dega : impl_DegreeOf a = some (sm (N g) D) := by
    rw [sumV hk.2.2 a2 (fun w hw => by have := (fb w).1; omega), fib_sum H]
  have degd : impl_DegreeOf d = some (sm (N g) D) := sumV hn.2.2 d2 (fun w hw => by have := hD w hw; omega)
  have tail : laws_FnMorphisms_c27 h (ct g m 0) d a e q = some true := by
    rw [laws_FnMorphisms_c27_eq, q2.1]
    have key : ∀ (z k : Nat), k + z = N h → laws_FnMorphisms_l4 h (ct g m 0) d a e q ((N h : Nat) : Int) (k : Int) = some true := by
      intro z
      induction z with
      | zero =>
        intro k hk
        have : k = N h := by omega
        subst this
        rw [laws_FnMorphisms_l4_eq, dec_lt_f, cond_false, dega, degd, Option.bind_some, Option.bind_some, beq_self_eq_true]
      | succ z ih =>
        intro k hkk
        have hk' : k < N h := by omega
        rw [laws_FnMorphisms_l4_eq, dec_lt_t hk', cond_true, w64_succ hk' (by omega)]
        by_cases h0 : (h.2.length : Int) > 0
        · have e5 := nE k hk'
          rw [decide_eq_true h0, cond_true, inside_lt (by rw [q2.1]; exact hk'), inside_lt (by rw [e2.1]; exact hk'), cond_true, cond_true, toNat_n, q2.2 k hk', e2.2 k hk', qe (by omega) k hk', w64_id (by omega) (by omega), eq_f rfl, cond_false]
          exact ih (k + 1) (by omega)
        · rw [decide_eq_false h0, cond_false]
          exact ih (k + 1) (by omega)
    exact key (N h) 0 (by omega)
  have c22 : laws_FnMorphisms_c22 l g h m (ct g m 0) d true a true b true = some true := by
    rw [laws_FnMorphisms_c22_eq, e1', Option.bind_some, P1, Option.bind_some, q1, Option.bind_some]
    simp only [Bool.not_true, cond_false]
    rw [eq_f (show (q.length : Int) = h.1 by rw [q2.1]; omega), cond_false, heq, Option.bind_some]
    simp only [Bool.not_true, cond_false]
    by_cases h0 : (h.2.length : Int) > 0
    · have degp : impl_DegreeOf p = some (ct g m 0 * sm (N h) E) := by
        rw [sumV hn.2.2 P2 (fun w hw => by have := pb w hw; omega), ← fib_sum H, sm_congr (qe (by omega))]
        refine congrArg some ?_
        generalize ct g m 0 = n
        generalize N h = z
        induction z with
        | zero => simp [sm]
        | succ z ih => rw [sm, sm, ih, Int.mul_add]
      have dege : impl_DegreeOf e = some (sm (N h) E) := sumV hk.2.2 e2 (fun w hw => by have := hE w hw; omega)
      have hb1 := sm_abs (c := 60) (by omega) (n := N h) (f := E) hE
      have hb2 : -5000 ≤ ct g m 0 * sm (N h) E ∧ ct g m 0 * sm (N h) E ≤ 5000 := by
        obtain ⟨q, hq⟩ : ∃ q : Nat, ct g m 0 = (q : Int) := ⟨(ct g m 0).toNat, by omega⟩
        rw [hq]
        have hq8 : q ≤ 12 := by omega
        constructor
        · have : (q : Int) * (-360) ≤ (q : Int) * sm (N h) E := Int.mul_le_mul_of_nonneg_left (by omega) (by omega)
          omega
        · have : (q : Int) * sm (N h) E ≤ (q : Int) * 360 := Int.mul_le_mul_of_nonneg_left (by omega) (by omega)
          omega
      rw [decide_eq_true h0, cond_true, degp, Option.bind_some, dege, Option.bind_some, w64_id (by omega) (by omega), eq_f rfl, cond_false]
      exact tail
    · rw [decide_eq_false h0, cond_false]; exact tail
  have rest : ((spec_MakeDivisor l 20 g).bind fun r6 =>
          (spec_MakeScript l 40 g).bind fun r7 =>
            (impl_FireScript g r6 r7).bind fun r8 =>
              (impl_PushForward g h m r6).bind fun r9 =>
                (impl_PushForward g h m r8.1).bind fun r10 =>
                  laws_FnMorphisms_c22 l g h m (ct g m 0) r6 r8.2 r9.1 r9.2 r10.1 r10.2) = some true := by
    rw [d1', Option.bind_some, s1', Option.bind_some, x1, Option.bind_some, a1, Option.bind_some, b1, Option.bind_some]
    exact c22
  have outer : ∀ (z k : Nat), k + z = N h → laws_FnMorphisms_l0 l g h m (ct g m 0) (k : Int) = some true := by
    intro z
    induction z with
    | zero =>
      intro k hkk
      rw [laws_FnMorphisms_l0_eq, decide_eq_false (by omega), cond_false]
      exact rest
    | succ z ih =>
      intro k hkk
      have hk' : k < N h := by omega
      rw [laws_FnMorphisms_l0_eq, decide_eq_true (by omega), cond_true]
      by_cases h0 : (h.2.length : Int) > 0
      · rw [decide_eq_true h0, cond_true]
        have hb : ∀ j, j ≤ N g → -72 ≤ sm j (fun v => if m.1.getD v 0 = (k : Int) then Hr g h m v else 0) ∧ sm j (fun v => if m.1.getD v 0 = (k : Int) then Hr g h m v else 0) ≤ 72 := fun j hj => by
          have := sm_abs (c := 12) (by omega) (n := j) (f := fun v => if m.1.getD v 0 = (k : Int) then Hr g h m v else 0) fun v hv => by
            have := Hr_bd (g := g) (h := h) (m := m) v
            show -12 ≤ (if _ then Hr g h m v else 0) ∧ (if _ then Hr g h m v else 0) ≤ 12
            split <;> omega
          omega
        have inner : ∀ (y j : Nat), j + y = N g → laws_FnMorphisms_l2 l g h m (ct g m 0) (k : Int) (sm j (fun v => if m.1.getD v 0 = (k : Int) then Hr g h m v else 0)) (j : Int) = some true := by
          intro y
          induction y with
          | zero =>
            intro j hj
            have : j = N g := by omega
            subst this
            have e9 : sm (N g) (fun v => if m.1.getD v 0 = (k : Int) then Hr g h m v else 0) = ct g m 0 := deg_all H (by omega) hk'
            rw [laws_FnMorphisms_l2_eq, decide_eq_false (by omega), cond_false, e9, eq_f rfl, cond_false, w64_id (n := (k : Int) + 1) (by omega) (by omega)]
            exact ih (k + 1) (by omega)
          | succ y ihy =>
            intro j hj
            have hj' : j < N g := by omega
            have hb1 := hb (j + 1) (by omega)
            have := ihy (j + 1) (by omega)
            rw [sm] at this hb1
            rw [laws_FnMorphisms_l2_eq, decide_eq_true (by omega), cond_true, inside_lt (show j < m.1.length by omega), cond_true, toNat_n, w64_id (n := (j : Int) + 1) (by omega) (by omega)]
            by_cases c : m.1.getD j 0 = (k : Int)
            · rw [if_pos c] at this hb1
              rw [beq_t c, cond_true, hor_i H hj', Option.bind_some, w64_id (by omega) (by omega)]
              exact this
            · rw [if_neg c, Int.add_zero] at this
              rw [beq_f c, cond_false]
              exact this
        exact inner (N g) 0 (by omega)
      · rw [decide_eq_false h0, cond_false]
        exact rest
  exact outer (N h) 0 (by omega)
end Go.Proofs.Ytikkkdpemjcjlaa.D

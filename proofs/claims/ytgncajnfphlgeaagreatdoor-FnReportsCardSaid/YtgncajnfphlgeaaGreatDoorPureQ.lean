/-
  The effective divisors of a class: the search by firing sets finds all of them, once each, in order.
-/
import Derived.Test.YtgncajnfphlgeaaGreatDoorPureJ
namespace Go.Proofs.YtgncajnfphlgeaaGreatDoor.D
open Go Go.Den
set_option linter.unusedVariables false
set_option linter.unusedSimpArgs false
/-- the effective divisors of a class, as rows -/
def CL (g : Gr) (D : Nat → Int) (r : List Int) : Prop := r.length = N g ∧ (∀ v, v < N g → 0 ≤ r.getD v 0) ∧ ∃ S : Nat → Int, ∀ v, v < N g → r.getD v 0 = D v - lap (Eg g) S v
theorem CL.sum {g : Gr} (hg : GOk g) {D : Nat → Int} {r : List Int} (h : CL g D r) : r.sum = sm (N g) D := by
  obtain ⟨h1, _, S, h3⟩ := h
  rw [← sm_list, h1]
  have e : sm (N g) (fun w => r.getD w 0) = sm (N g) (fun v => D v + - lap (Eg g) S v) := sm_congr fun v hv => by rw [h3 v hv]; omega
  rw [e, sm_add, sm_neg, lap_sum (gE hg).1]; omega
theorem mem_getD {l : List Int} {x : Int} (h : x ∈ l) : ∃ j, j < l.length ∧ l.getD j 0 = x := by
  obtain ⟨j, hj, e⟩ := List.getElem_of_mem h
  exact ⟨j, hj, by rw [getD_lt hj]; exact e⟩
theorem CL.pos {g : Gr} {D : Nat → Int} {r : List Int} (h : CL g D r) : ∀ x ∈ r, 0 ≤ x := fun x hx => by
  obtain ⟨j, hj, e⟩ := mem_getD hx
  rw [← e]; exact h.2.1 j (by rw [← h.1]; exact hj)
theorem CL.in {g : Gr} (hg : GOk g) {D : Nat → Int} {k : Nat} (hk : sm (N g) D = (k : Int)) {r : List Int} (h : CL g D r) : r ∈ eff (N g - 1) k := by
  have := gN hg
  exact eff_in (by rw [h.1]; omega) h.pos (by rw [h.sum hg, hk])
theorem CL.sd {g : Gr} (hg : GOk g) {D : Nat → Int} {k : Nat} (hk9 : k ≤ 9) (hk : sm (N g) D = (k : Int)) {r : List Int} (h : CL g D r) : Sd g r := eff_Sd hg hk9 (h.in hg hk)
/-- one more firing -/
theorem CL.step {g : Gr} {D : Nat → Int} {r y : List Int} (h : CL g D r) {A : Nat → Int} (hy : vec (N g) y (fun w => r.getD w 0 - lap (Eg g) A w)) (h0 : ∀ v, v < N g → 0 ≤ y.getD v 0) : CL g D y := by
  obtain ⟨_, _, S, h3⟩ := h
  refine ⟨hy.1, h0, fun v => S v + A v, fun v hv => ?_⟩
  rw [hy.2 v hv]
  show r.getD v 0 - lap (Eg g) A v = _
  rw [h3 v hv, lap_add]; omega
theorem mask_ex (A : Nat → Bool) : ∀ n, ∃ m, m < 2 ^ n ∧ ∀ v, v < n → m.testBit v = A v
  | 0 => ⟨0, by decide, fun v h => by omega⟩
  | n + 1 => by
    obtain ⟨m, h1, h2⟩ := mask_ex A n
    have hlt : 2 ^ n < 2 ^ (n + 1) := Nat.pow_lt_pow_right (by omega) (by omega)
    cases c : A n with
    | false =>
      refine ⟨m, Nat.lt_trans h1 hlt, fun v hv => ?_⟩
      rcases Nat.lt_or_ge v n with q | q
      · exact h2 v q
      · rw [show v = n by omega, c]; exact Nat.testBit_lt_two_pow h1
    | true =>
      refine ⟨m ||| 2 ^ n, Nat.or_lt_two_pow (Nat.lt_trans h1 hlt) hlt, fun v hv => ?_⟩
      rw [Nat.testBit_or, Nat.testBit_two_pow]
      rcases Nat.lt_or_ge v n with q | q
      · rw [h2 v q, decide_eq_false (by omega), Bool.or_false]
      · rw [show v = n by omega, c, decide_eq_true rfl, Bool.or_true]
theorem bitv_p {m a : Nat} (hm : m < 2 ^ 62) (ha : a ≤ 64) : bits .and .i64 (Int.fdiv (m : Int) (2 ^ (min a 64))) 1 = ind m.testBit a := by
  have h1 : Int.fdiv (m : Int) (2 ^ (min a 64)) = ((m / 2 ^ a : Nat) : Int) := by
    rw [Nat.min_eq_left ha]
    have : ((2 : Int) ^ a) = ((2 ^ a : Nat) : Int) := by simp
    rw [this]
    exact (Int.ofNat_fdiv m (2 ^ a)).symm
  rw [h1, bits_and1_p (Nat.lt_of_le_of_lt (Nat.div_le_self _ _) hm)]
  unfold ind
  have e := Nat.testBit_eq_decide_div_mod_eq (x := m) (i := a)
  cases c : m.testBit a with
  | true =>
    rw [c] at e
    have := of_decide_eq_true e.symm
    rw [this]; rfl
  | false =>
    rw [c] at e
    have := of_decide_eq_false e.symm
    rw [show m / 2 ^ a % 2 = 0 by omega]; rfl
theorem ind_bd (A : Nat → Bool) (v : Nat) : 0 ≤ ind A v ∧ ind A v ≤ 1 := by unfold ind; cases A v <;> decide
/-- a set fires, vertex by vertex -/
theorem fires_p {g : Gr} (hg : GOk g) {r : List Int} (hr : Sd g r) {m : Nat} (hm : m < 2 ^ 62) {L : List (List Int)} {i : Int} {mp : List (ByteArray × Int)} : ∀ (j k : Nat) (y : List Int), k + j = N g →
    vec (N g) y (fun w => r.getD w 0 - lap (Eg g) (fun u => if u < k then ind m.testBit u else 0) w) →
    ∃ y', impl_effectiveIn_l4 g L i (m : Int) y mp ((N g : Nat) : Int) (k : Int) = impl_effectiveIn_l4 g L i (m : Int) y' mp ((N g : Nat) : Int) ((N g : Nat) : Int) ∧ vec (N g) y' (fun w => r.getD w 0 - lap (Eg g) (ind m.testBit) w) := by
  intro j
  obtain ⟨gE1, gE2, gE3⟩ := gE hg
  have hn := gN hg
  induction j with
  | zero =>
    intro k y hk hy
    have : k = N g := by omega
    subst this
    refine ⟨y, rfl, hy.congr fun w hw => ?_⟩
    congr 1
    exact lap_congr hw (fun u hu => if_pos hu) gE1
  | succ j ih =>
    intro k y hk hy
    have hk' : k < N g := by omega
    have hb := ind_bd m.testBit k
    have hbd : Bd (N g) 33 (fun w => r.getD w 0 - lap (Eg g) (fun u => if u < k then ind m.testBit u else 0) w) := fun w hw => by
      have h1 := (hr.vec).2 w hw
      have h2 := lap_bd (T := 1) (n := N g) (f := fun u => if u < k then ind m.testBit u else 0) (fun u _ => by
        have := ind_bd m.testBit u
        by_cases c : u < k
        · simp only [if_pos c]; omega
        · simp only [if_neg c]; omega) (by decide) hw gE1 gE2
      simp only
      omega
    obtain ⟨y', e1, e2⟩ := impl_fire_p hg hy hk' (t := ind m.testBit k) (B := 33) (T := 1) hbd (by omega) (by decide)
    obtain ⟨y2, e3, e4⟩ := ih (k + 1) y' (by omega) (e2.congr fun w hw => by
      have : lap (Eg g) (fun u => if u < k + 1 then ind m.testBit u else 0) w = lap (Eg g) (fun u => (if u < k then ind m.testBit u else 0) + ind m.testBit k * one k u) w := lap_congr hw (fun u _ => by
        simp only [one]
        by_cases c : u = k
        · subst c; simp
        · by_cases c2 : u < k
          · rw [if_pos c2, if_pos (by omega), if_neg c]; omega
          · rw [if_neg c2, if_neg (by omega), if_neg c]; omega) gE1
      rw [this, lap_add]; omega)
    refine ⟨y2, ?_, e4⟩
    rw [impl_effectiveIn_l4_eq, dec_lt_t hk', cond_true, decide_eq_false (by omega), cond_false, toNat_n, bitv_p hm (by omega), e1, Option.bind_some, w64_succ hk' (by omega)]
    exact e3
theorem isEff_p {d : List Int} (hl : d.length ≤ 1000) : ∃ b, impl_IsEffective d = some b ∧ (b = true ↔ ∀ v, v < d.length → 0 ≤ d.getD v 0) := by
  rw [impl_IsEffective_eq]
  have := upAll (n := d.length) (f := fun i => impl_IsEffective_l0 d (d.length : Int) i) (p := fun k => decide (0 ≤ d.getD k 0)) (fun k hk => by
    rw [impl_IsEffective_l0_eq, dec_lt_t hk, inside_lt hk, toNat_n, w64_succ hk (by omega)]
    simp only [cond_true]
    by_cases c : d.getD k 0 < 0
    · rw [decide_eq_true c, decide_eq_false (by omega)]; rfl
    · rw [decide_eq_false c, decide_eq_true (by omega)]; rfl) (by rw [impl_IsEffective_l0_eq, dec_lt_f]; rfl)
  obtain ⟨b, h1, h2⟩ := this
  refine ⟨b, h1, h2.trans ⟨fun h v hv => of_decide_eq_true (h v hv), fun h v hv => decide_eq_true (h v hv)⟩⟩
/-- what the search keeps -/
structure EI (g : Gr) (D : Nat → Int) (L : List (List Int)) (mp : List (ByteArray × Int)) : Prop where
  nd : L.Nodup
  cl : ∀ r ∈ L, CL g D r
  mp : ∀ r, Sd g r → mget mp (fd r) = if r ∈ L then 1 else 0
/-- what a set's firing makes of a row is there -/
def Fd (g : Gr) (L : List (List Int)) (r : List Int) (m : Nat) : Prop := ∀ y, vec (N g) y (fun w => r.getD w 0 - lap (Eg g) (ind m.testBit) w) → (∀ v, v < N g → 0 ≤ y.getD v 0) → y ∈ L
theorem Fd.mono {g : Gr} {L : List (List Int)} {r : List Int} {m : Nat} (h : Fd g L r m) (t : List (List Int)) : Fd g (L ++ t) r m := fun y h1 h2 => List.mem_append_left _ (h y h1 h2)
theorem EI.len {g : Gr} (hg : GOk g) {D : Nat → Int} {k : Nat} (hk9 : k ≤ 9) (hk : sm (N g) D = (k : Int)) {L : List (List Int)} {mp : List (ByteArray × Int)} (h : EI g D L mp) : L.length ≤ 100000 := by
  have hn := gN hg
  have h1 := nodup_len h.nd fun r hr => (h.cl r hr).in hg hk
  have h2 := eff_len (N g - 1) k hk9
  have h3 : 10 ^ (N g - 1) ≤ 10 ^ 5 := Nat.pow_le_pow_right (by omega) (by omega)
  omega
theorem EI.add {g : Gr} {D : Nat → Int} {L : List (List Int)} {mp : List (ByteArray × Int)} (h : EI g D L mp) {y : List Int} (hy : CL g D y) (hs : Sd g y) (hn : y ∉ L) : EI g D (L ++ [y]) (mput mp (fd y) 1) := by
  refine ⟨?_, fun r hr => ?_, fun r hr => ?_⟩
  · rw [List.nodup_append]
    refine ⟨h.nd, by simp, fun a ha b hb => ?_⟩
    rw [List.mem_singleton] at hb
    subst hb
    exact fun c => hn (c ▸ ha)
  · rcases List.mem_append.1 hr with hr | hr
    · exact h.cl r hr
    · rw [List.mem_singleton.1 hr]; exact hy
  · rw [mget_put]
    by_cases c : r = y
    · subst c; rw [if_pos rfl, if_pos (by simp)]
    · rw [if_neg fun e => c (fd_inj hr.2 hs.2 (by rw [hr.1, hs.1]) e), h.mp r hr]
      by_cases c2 : r ∈ L
      · rw [if_pos c2, if_pos (List.mem_append_left _ c2)]
      · rw [if_neg c2, if_neg]
        intro k
        rcases List.mem_append.1 k with k | k
        · exact c2 k
        · exact c (List.mem_singleton.1 k)
theorem Sd.i64 {g : Gr} {d : List Int} (h : Sd g d) : ∀ x ∈ d, I64 x := fun x hx => by
  have := h.2 x hx
  unfold I64; omega
theorem getD_appL {α : Type} {d : α} {l t : List α} {i : Nat} (h : i < l.length) : (l ++ t).getD i d = l.getD i d := by
  rw [List.getD_eq_getElem?_getD, List.getElem?_append_left h, ← List.getD_eq_getElem?_getD]
theorem search2 {g : Gr} (hg : GOk g) {D : Nat → Int} {k : Nat} (hk9 : k ≤ 9) (hk : sm (N g) D = (k : Int)) {i : Nat} : ∀ (j m : Nat) (L : List (List Int)) (mp : List (ByteArray × Int)), m + j = 2 ^ N g - 1 → 1 ≤ m → EI g D L mp → i < L.length →
    (∀ m', 1 ≤ m' → m' < m → Fd g L (L.getD i []) m') → ∃ L' mp', impl_effectiveIn_l2 g L (i : Int) (m : Int) mp = impl_effectiveIn_l0 g L' ((i + 1 : Nat) : Int) mp' ∧ EI g D L' mp' ∧ (∃ t, L' = L ++ t) ∧ ∀ m', 1 ≤ m' → m' < 2 ^ N g - 1 → Fd g L' (L.getD i []) m' := by
  have hn := gN hg
  have h64 : 2 ^ N g ≤ 2 ^ 6 := Nat.pow_le_pow_right (by omega) (by omega)
  have h1p : 1 ≤ 2 ^ N g := Nat.one_le_two_pow
  intro j
  induction j with
  | zero =>
    intro m L mp hm hm1 hI hi hf
    refine ⟨L, mp, ?_, hI, ⟨[], by simp⟩, fun m' q1 q2 => hf m' q1 (by omega)⟩
    have hlen := hI.len hg hk9 hk
    rw [impl_effectiveIn_l2_eq, decide_eq_false (by omega), cond_false, show g.1.toNat = N g from rfl, pow_p (by omega), w64_id (by omega) (by omega), decide_eq_false (by omega), cond_false, w64_succ hi (by omega)]
  | succ j ih =>
    intro m L mp hm hm1 hI hi hf
    have hlen := hI.len hg hk9 hk
    have hcl := hI.cl _ (getD_mem [] hi)
    have hsd := hcl.sd hg hk9 hk
    obtain ⟨y, e1, e2⟩ := fires_p hg hsd (m := m) (by omega) (L := L) (i := (i : Int)) (mp := mp) (N g) 0 (L.getD i []) (by omega) (hsd.vec.1.congr fun w hw => by
      have : lap (Eg g) (fun u => if u < 0 then ind m.testBit u else 0) w = 0 := lap_const (c := 0) hw (fun u _ => if_neg (Nat.not_lt_zero u)) (gE hg).1
      rw [this]; omega)
    have hyl : y.length = N g := e2.1
    obtain ⟨b, b1, b2⟩ := isEff_p (d := y) (by omega)
    have hw : w64 ((m : Int) + 1) = ((m + 1 : Nat) : Int) := by rw [w64_id (by omega) (by omega)]; rfl
    have start : impl_effectiveIn_l2 g L (i : Int) (m : Int) mp = impl_effectiveIn_l4 g L (i : Int) (m : Int) y mp ((N g : Nat) : Int) ((N g : Nat) : Int) := by
      rw [impl_effectiveIn_l2_eq, decide_eq_false (by omega), cond_false, show g.1.toNat = N g from rfl, pow_p (by omega), w64_id (by omega) (by omega), decide_eq_true (by omega), cond_true, inside_lt hi, cond_true, toNat_n, impl_copyInts_eq, decide_eq_true (by rw [hsd.1, room]; simp only [List.length_nil]; omega), cond_true, Option.bind_some, List.nil_append, hsd.1]
      exact e1
    have fin : impl_effectiveIn_l4 g L (i : Int) (m : Int) y mp ((N g : Nat) : Int) ((N g : Nat) : Int) = cond b ((impl_FormatDivisor y).bind fun r7 => cond (((mget mp r7) : Int) == 0)
              ((impl_FormatDivisor y).bind fun r8 =>
                cond (decide (L.length + ([y] : List (List Int)).length ≤ room))
                  (impl_effectiveIn_l2 g (L ++ ([y] : List (List Int))) (i : Int) (w64 ((m : Int) + 1)) (mput mp r8 1))
                  (none))
              (impl_effectiveIn_l2 g L (i : Int) (w64 ((m : Int) + 1)) mp)) (impl_effectiveIn_l2 g L (i : Int) (w64 ((m : Int) + 1)) mp) := by
      rw [impl_effectiveIn_l4_eq, dec_lt_f, cond_false, b1, Option.bind_some]
    rw [start, fin, hw]
    have same : ∀ (L2 : List (List Int)) t, L2 = L ++ t → (b = true → y ∈ L2) → ∀ m', 1 ≤ m' → m' < m + 1 → Fd g L2 (L2.getD i []) m' := fun L2 t ht hy m' q1 q2 => by
      subst ht
      rw [getD_appL hi]
      rcases Nat.lt_or_ge m' m with q | q
      · exact (hf m' q1 q).mono t
      · have : m' = m := by omega
        subst this
        intro z z1 z2
        have : z = y := z1.eq e2 fun _ _ => rfl
        subst this
        exact hy (b2.2 fun v hv => z2 v (by omega))
    cases b with
    | false =>
      rw [cond_false]
      exact ih (m + 1) L mp (by omega) (by omega) hI hi (same L [] (by simp) fun c => by cases c)
    | true =>
      have hcy : CL g D y := hcl.step e2 fun v hv => (b2.1 rfl) v (by omega)
      have hsy := hcy.sd hg hk9 hk
      have hf := impl_FormatDivisor_p (d := y) (by omega) hsy.i64
      rw [cond_true, hf, Option.bind_some, hI.mp y hsy]
      by_cases c : y ∈ L
      · rw [if_pos c]
        exact ih (m + 1) L mp (by omega) (by omega) hI hi (same L [] (by simp) fun _ => c)
      · rw [if_neg c, show (((0 : Int)) == 0) = true from rfl, cond_true, Option.bind_some, decide_eq_true (by rw [room]; simp only [List.length_singleton]; omega), cond_true]
        obtain ⟨L', mp', r1, r2, ⟨t, r3⟩, r4⟩ := ih (m + 1) (L ++ [y]) _ (by omega) (by omega) (hI.add hcy hsy c) (by rw [List.length_append]; omega) (same _ [y] rfl fun _ => by simp)
        rw [getD_appL hi] at r4
        exact ⟨L', mp', r1, r2, ⟨[y] ++ t, by rw [r3, List.append_assoc]⟩, r4⟩
theorem search0 {g : Gr} (hg : GOk g) {D : Nat → Int} {k : Nat} (hk9 : k ≤ 9) (hk : sm (N g) D = (k : Int)) : ∀ (j i : Nat) (L : List (List Int)) (mp : List (ByteArray × Int)), i + j = 100001 → i ≤ L.length → 0 < L.length → EI g D L mp →
    (∀ i', i' < i → ∀ m', 1 ≤ m' → m' < 2 ^ N g - 1 → Fd g L (L.getD i' []) m') → ∃ L' mp', impl_effectiveIn_l0 g L (i : Int) mp = some (L'.mergeSort rowLe) ∧ EI g D L' mp' ∧ (∃ t, L' = L ++ t) ∧ ∀ r ∈ L', ∀ m', 1 ≤ m' → m' < 2 ^ N g - 1 → Fd g L' r m' := by
  have hn := gN hg
  have h64 : 2 ^ N g ≤ 2 ^ 6 := Nat.pow_le_pow_right (by omega) (by omega)
  have h1p : 2 ≤ 2 ^ N g := Nat.pow_le_pow_right (n := 2) (i := 1) (by omega) (by omega)
  intro j
  induction j with
  | zero =>
    intro i L mp hi hiL hpos hI hf
    have := hI.len hg hk9 hk
    omega
  | succ j ih =>
    intro i L mp hi hiL hpos hI hf
    have hlen := hI.len hg hk9 hk
    rw [impl_effectiveIn_l0_eq]
    by_cases c : i < L.length
    · rw [dec_lt_t c, cond_true]
      obtain ⟨L1, mp1, r1, r2, ⟨t, r3⟩, r4⟩ := search2 hg hk9 hk (i := i) (2 ^ N g - 1 - 1) 1 L mp (by omega) (by omega) hI c (fun m' q1 q2 => by omega)
      rw [show ((1 : Int)) = ((1 : Nat) : Int) from rfl, r1]
      subst r3
      obtain ⟨L2, mp2, s1, s2, ⟨t2, s3⟩, s4⟩ := ih (i + 1) _ mp1 (by omega) (by rw [List.length_append]; omega) (by rw [List.length_append]; omega) r2 (fun i' q m' q1 q2 => by
        rw [getD_appL (by omega)]
        rcases Nat.lt_or_ge i' i with q' | q'
        · exact (hf i' q' m' q1 q2).mono t
        · rw [show i' = i by omega]; exact r4 m' q1 q2)
      exact ⟨L2, mp2, s1, s2, ⟨t ++ t2, by rw [s3, List.append_assoc]⟩, s4⟩
    · have hiL' : i = L.length := by omega
      subst hiL'
      refine ⟨L, mp, ?_, hI, ⟨[], by simp⟩, fun r hr m' q1 q2 => ?_⟩
      · rw [dec_lt_f, cond_false, slices_SortFunc_int_int__Compare_int_int_eq]
        unfold Lb.sortRows
        rw [if_pos ⟨hpos, by omega, fun r hr => by have := (hI.cl r hr).1; omega⟩]
        rfl
      · obtain ⟨i', hi', e⟩ := List.getElem_of_mem hr
        have := hf i' hi' m' q1 q2
        rw [getD_lt hi', e] at this
        exact this
/-- the search's answer: all effective divisors of the class, in order -/
def Sys (g : Gr) (D : Nat → Int) (L : List (List Int)) : Prop := (L.Pairwise fun a b => rowLe a b = true) ∧ L.Nodup ∧ ∀ r, r ∈ L ↔ CL g D r
theorem Sys.uniq {g : Gr} {D : Nat → Int} {L L' : List (List Int)} (h : Sys g D L) (h' : Sys g D L') : L = L' :=
  sorted_uniq ((List.perm_ext_iff_of_nodup h.2.1 h'.2.1).2 fun r => (h.2.2 r).trans (h'.2.2 r).symm) h.1 h'.1
/-- a reduced divisor that is equivalent to an effective one is effective -/
theorem red_eff {g : Gr} (hg : GOk g) {q : Nat} (hq : q < N g) {D O S : Nat → Int} (h : Red (N g) (Eg g) q O) (ho : ∀ v, v < N g → O v = D v - lap (Eg g) S v) (hD : ∀ v, v < N g → 0 ≤ D v) : 0 ≤ O q := by
  obtain ⟨gE1, gE2, gE3⟩ := gE hg
  have h1 := Red.half (s := fun v => - S v) gE1 hq h (fun v hv _ => hD v hv) fun v hv => by
    have := ho v hv
    rw [lap_neg]; omega
  have h2 : lap (Eg g) S q ≤ 0 := by
    have key : ∀ E : Es, GE (N g) E → lap E S q ≤ 0 := fun E => by
      induction E with
      | nil => intro _; exact Int.le_refl _
      | cons e E ih =>
        intro hE
        have he := hE e List.mem_cons_self
        have := ih hE.tail
        have a1 := h1 e.1 (by omega)
        have a2 := h1 e.2 he.2
        rw [lap_cons]
        unfold tm
        split
        · rename_i c; omega
        · split
          · rename_i c; omega
          · omega
    exact key _ gE1
  have := ho q hq
  have := hD q hq
  omega
theorem Rdd.cl {g : Gr} (hg : GOk g) {q : Nat} (hq : q < N g) {D O S : Nat → Int} {x y : List Int} (h : Rdd g q D x y O S) {r : List Int} (hr : CL g D r) : 0 ≤ O q := by
  obtain ⟨h1, h2, T, h3⟩ := hr
  refine red_eff (D := fun v => r.getD v 0) (S := fun v => S v + - T v) hg hq h.red (fun v hv => ?_) h2
  rw [h.out v hv, lap_add, lap_neg, h3 v hv]; omega
theorem Rdd.in {g : Gr} (hg : GOk g) {q : Nat} (hq : q < N g) {D O S : Nat → Int} {x y : List Int} (h : Rdd g q D x y O S) (h0 : 0 ≤ O q) : CL g D x :=
  ⟨h.vx.1, fun v hv => by
    rw [h.vx.2 v hv]
    by_cases c : v = q
    · rw [c]; exact h0
    · exact h.red.pos v hv c, S, fun v hv => by rw [h.vx.2 v hv]; exact h.out v hv⟩
theorem effectiveIn_p {g : Gr} (hg : GOk g) {d : List Int} {D : Nat → Int} (hd : vec (N g) d D) (hD : Bd (N g) 1000 D) (h9 : sm (N g) D ≤ 9) : ∃ L, impl_effectiveIn g d = some L ∧ Sys g D L := by
  have hn := gN hg
  have hq : 0 < N g := by omega
  obtain ⟨x, y, O, S, h1, h3⟩ := reduce_i hg hq hd hD
  have hs := (sum_i (d := d) (by rw [hd.1]; omega) (fun k hk => by
    rw [hd.1] at hk
    rw [hd.2 k hk]
    exact hD k hk))
  have hsD : sm d.length (fun w => d.getD w 0) = sm (N g) D := by
    rw [hd.1]
    exact sm_congr fun v hv => hd.2 v hv
  have i0 : inside 0 x.length = true := inside_lt (k := 0) (by rw [h3.vx.1]; exact hq)
  have x0 := h3.vx.2 0 hq
  have e1 : impl_reduce g d 0 = some (x, y) := h1
  have none : O 0 < 0 → Sys g D [] := fun c => ⟨List.Pairwise.nil, List.Pairwise.nil, fun r => ⟨fun h => (List.not_mem_nil h).elim, fun h => (by have := h3.cl hg hq h; omega)⟩⟩
  rw [impl_effectiveIn_eq, hs, Option.bind_some, hsD, e1, Option.bind_some]
  by_cases c : sm (N g) D < 0
  · rw [decide_eq_true c, cond_true]
    refine ⟨_, rfl, none ?_⟩
    refine Int.not_le.1 fun h0 => ?_
    have := (h3.in hg hq h0).sum hg
    have h5 : 0 ≤ x.sum := by
      rw [← sm_list, h3.vx.1]
      exact sm_nonneg fun v hv => (h3.in hg hq h0).2.1 v hv
    omega
  · rw [decide_eq_false c, cond_false]
    simp only
    rw [i0, cond_true, x0]
    try simp only [List.getD_cons_zero]
    by_cases c2 : O 0 < 0
    · rw [decide_eq_true c2, cond_true]
      exact ⟨_, rfl, none c2⟩
    · rw [decide_eq_false c2, cond_false]
      have hk : sm (N g) D = (((sm (N g) D).toNat : Nat) : Int) := by omega
      have hk9 : (sm (N g) D).toNat ≤ 9 := by omega
      have hx := h3.in hg hq (Int.not_lt.1 c2)
      have hxs := hx.sd hg hk9 hk
      rw [impl_FormatDivisor_p (d := x) (by rw [hxs.1]; omega) hxs.i64, Option.bind_some]
      have hI : EI g D [x] (mput [] (fd x) 1) := by
        refine ⟨by simp, fun r hr => by rw [List.mem_singleton.1 hr]; exact hx, fun r hr => ?_⟩
        rw [mget_put]
        by_cases c : r = x
        · subst c; rw [if_pos rfl, if_pos (by simp)]
        · rw [if_neg fun e => c (fd_inj hr.2 hxs.2 (by rw [hr.1, hxs.1]) e), if_neg (by simpa using c)]; rfl
      obtain ⟨L', mp', r1, r2, ⟨t, r3⟩, r4⟩ := search0 hg hk9 hk 100001 0 [x] _ (by omega) (Nat.zero_le _) (by simp) hI (fun i' q => by omega)
      refine ⟨_, r1, List.pairwise_mergeSort rowLe_trans rowLe_total L', (List.mergeSort_perm L' rowLe).nodup_iff.2 r2.nd, fun r => (List.mergeSort_perm L' rowLe).mem_iff.trans ⟨r2.cl r, fun hr => ?_⟩⟩
      have hxL : x ∈ L' := by rw [r3]; simp
      obtain ⟨q1, q2, T, q3⟩ := hr
      have key := climb_all (gE hg).1 hq (P := fun f => ∀ y, vec (N g) y f → y ∈ L') (fun f f' hff hf y hy => hf y (hy.congr fun w hw => (hff w hw).symm)) (fun f A hf hf0 hA1 hA2 hA3 y hy => by
        obtain ⟨m, m1, m2⟩ := mask_ex A (N g)
        let z : List Int := (List.range (N g)).map f
        have hz : vec (N g) z f := ⟨by simp [z], fun w hw => getD_range_map _ hw⟩
        obtain ⟨a, a1, a2⟩ := hA1
        obtain ⟨b, b1, b2⟩ := hA2
        have mp1 : 1 ≤ m := by
          rcases Nat.eq_zero_or_pos m with k | k
          · have := m2 a a1
            rw [k, Nat.zero_testBit, a2] at this
            cases this
          · exact k
        have mp2 : m < 2 ^ N g - 1 := by
          rcases Nat.lt_or_ge m (2 ^ N g - 1) with k | k
          · exact k
          · have e : m = 2 ^ N g - 1 := by omega
            have := m2 b b1
            rw [e, Nat.testBit_two_pow_sub_one, b2, decide_eq_true b1] at this
            cases this
        refine r4 z (hf z hz) m mp1 mp2 y (hy.congr fun w hw => ?_) (fun v hv => by rw [hy.2 v hv]; exact hA3 v hv)
        rw [hz.2 w hw]
        congr 1
        exact lap_congr hw (fun u hu => by unfold ind; rw [m2 u hu]) (gE hg).1) (s := fun v => T v + - S v) (f := O) (fun y hy => by
          have : y = x := hy.eq h3.vx fun _ _ => rfl
          rw [this]; exact hxL) (fun v hv => by
          have := hx.2.1 v hv
          rw [h3.vx.2 v hv] at this; exact this) (fun v hv => by
          have := q2 v hv
          rw [q3 v hv] at this
          rw [lap_add, lap_neg, h3.out v hv]; omega)
      exact key r ⟨q1, fun w hw => by
        show _ = O w - lap (Eg g) (fun v => T v + - S v) w
        rw [q3 w hw, lap_add, lap_neg, h3.out w hw]; omega⟩
end Go.Proofs.YtgncajnfphlgeaaGreatDoor.D

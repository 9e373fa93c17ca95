/-
  The effective divisors of a class: the search by firing sets finds all of them, once each, in order.
-/
import Derived.Test.YtafgbjhojkgbjaaGreatDoorPureJ
namespace Go.Proofs.YtafgbjhojkgbjaaGreatDoor.D
open Go Go.Den
set_option linter.unusedVariables false
set_option linter.unusedSimpArgs false
/-- the effective divisors of a class, as rows -/
def CL (g : Gr) (D : Nat → Int) (r : List Int) : Prop := r.length = N g ∧ (∀ v, v < N g → 0 ≤ r.getD v 0) ∧ ∃ S : Nat → Int, ∀ v, v < N g → r.getD v 0 = D v - lap (Eg g) S v
theorem CL.sum {g : Gr} (hg : GOk g) {D : Nat → Int} {r : List Int} (h : CL g D r) : r.sum = sm (N g) D := by
  obtain ⟨h1, _, S, h3⟩ := h
  rw [← sm_list, h1]
  have e : sm (N g) (fun w => r.getD w 0) = sm (N g) (fun v => D v + - lap (Eg g) S v) := sm_congr fun v hv => by rw [h3 v hv]; omega
  rw [e, sm_add, sm_neg, lap_sum (gE hg).1]; omega
theorem mem_getD {l : List Int} {x : Int} (h : x ∈ l) : ∃ j, j < l.length ∧ l.getD j 0 = x := by
  obtain ⟨j, hj, e⟩ := List.getElem_of_mem h
  exact ⟨j, hj, by rw [getD_lt hj]; exact e⟩
theorem CL.pos {g : Gr} {D : Nat → Int} {r : List Int} (h : CL g D r) : ∀ x ∈ r, 0 ≤ x := fun x hx => by
  obtain ⟨j, hj, e⟩ := mem_getD hx
  rw [← e]; exact h.2.1 j (by rw [← h.1]; exact hj)
theorem CL.in {g : Gr} (hg : GOk g) {D : Nat → Int} {k : Nat} (hk : sm (N g) D = (k : Int)) {r : List Int} (h : CL g D r) : r ∈ eff (N g - 1) k := by
  have := gN hg
  exact eff_in (by rw [h.1]; omega) h.pos (by rw [h.sum hg, hk])
theorem CL.sd {g : Gr} (hg : GOk g) {D : Nat → Int} {k : Nat} (hk9 : k ≤ 9) (hk : sm (N g) D = (k : Int)) {r : List Int} (h : CL g D r) : Sd g r := eff_Sd hg hk9 (h.in hg hk)
/-- one more firing -/
theorem CL.step {g : Gr} {D : Nat → Int} {r y : List Int} (h : CL g D r) {A : Nat → Int} (hy : vec (N g) y (fun w => r.getD w 0 - lap (Eg g) A w)) (h0 : ∀ v, v < N g → 0 ≤ y.getD v 0) : CL g D y := by
  obtain ⟨_, _, S, h3⟩ := h
  refine ⟨hy.1, h0, fun v => S v + A v, fun v hv => ?_⟩
  rw [hy.2 v hv]
  show r.getD v 0 - lap (Eg g) A v = _
  rw [h3 v hv, lap_add]; omega
theorem mask_ex (A : Nat → Bool) : ∀ n, ∃ m, m < 2 ^ n ∧ ∀ v, v < n → m.testBit v = A v
  | 0 => ⟨0, by decide, fun v h => by omega⟩
  | n + 1 => by
    obtain ⟨m, h1, h2⟩ := mask_ex A n
    have hlt : 2 ^ n < 2 ^ (n + 1) := Nat.pow_lt_pow_right (by omega) (by omega)
    cases c : A n with
    | false =>
      refine ⟨m, Nat.lt_trans h1 hlt, fun v hv => ?_⟩
      rcases Nat.lt_or_ge v n with q | q
      · exact h2 v q
      · rw [show v = n by omega, c]; exact Nat.testBit_lt_two_pow h1
    | true =>
      refine ⟨m ||| 2 ^ n, Nat.or_lt_two_pow (Nat.lt_trans h1 hlt) hlt, fun v hv => ?_⟩
      rw [Nat.testBit_or, Nat.testBit_two_pow]
      rcases Nat.lt_or_ge v n with q | q
      · rw [h2 v q, decide_eq_false (by omega), Bool.or_false]
      · rw [show v = n by omega, c, decide_eq_true rfl, Bool.or_true]
theorem bitv_p {m a : Nat} (hm : m < 2 ^ 62) (ha : a ≤ 64) : bits .and .i64 (Int.fdiv (m : Int) (2 ^ (min a 64))) 1 = ind m.testBit a := by
  have h1 : Int.fdiv (m : Int) (2 ^ (min a 64)) = ((m / 2 ^ a : Nat) : Int) := by
    rw [Nat.min_eq_left ha]
    have : ((2 : Int) ^ a) = ((2 ^ a : Nat) : Int) := by simp
    rw [this]
    exact (Int.ofNat_fdiv m (2 ^ a)).symm
  rw [h1, bits_and1_p (Nat.lt_of_le_of_lt (Nat.div_le_self _ _) hm)]
  unfold ind
  have e := Nat.testBit_eq_decide_div_mod_eq (x := m) (i := a)
  cases c : m.testBit a with
  | true =>
    rw [c] at e
    have := of_decide_eq_true e.symm
    rw [this]; rfl
  | false =>
    rw [c] at e
    have := of_decide_eq_false e.symm
    rw [show m / 2 ^ a % 2 = 0 by omega]; rfl
theorem ind_bd (A : Nat → Bool) (v : Nat) : 0 ≤ ind A v ∧ ind A v ≤ 1 := by unfold ind; cases A v <;> decide
/-- what the search keeps -/
structure EI (g : Gr) (D : Nat → Int) (L : List (List Int)) (mp : List (ByteArray × Int)) : Prop where
  nd : L.Nodup
  cl : ∀ r ∈ L, CL g D r
  mp : ∀ r, Sd g r → mget mp (fd r) = if r ∈ L then 1 else 0
/-- what a set's firing makes of a row is there -/
def Fd (g : Gr) (L : List (List Int)) (r : List Int) (m : Nat) : Prop := ∀ y, vec (N g) y (fun w => r.getD w 0 - lap (Eg g) (ind m.testBit) w) → (∀ v, v < N g → 0 ≤ y.getD v 0) → y ∈ L
theorem Fd.mono {g : Gr} {L : List (List Int)} {r : List Int} {m : Nat} (h : Fd g L r m) (t : List (List Int)) : Fd g (L ++ t) r m := fun y h1 h2 => List.mem_append_left _ (h y h1 h2)
theorem EI.len {g : Gr} (hg : GOk g) {D : Nat → Int} {k : Nat} (hk9 : k ≤ 9) (hk : sm (N g) D = (k : Int)) {L : List (List Int)} {mp : List (ByteArray × Int)} (h : EI g D L mp) : L.length ≤ 100000 := by
  have hn := gN hg
  have h1 := nodup_len h.nd fun r hr => (h.cl r hr).in hg hk
  have h2 := eff_len (N g - 1) k hk9
  have h3 : 10 ^ (N g - 1) ≤ 10 ^ 5 := Nat.pow_le_pow_right (by omega) (by omega)
  omega
theorem EI.add {g : Gr} {D : Nat → Int} {L : List (List Int)} {mp : List (ByteArray × Int)} (h : EI g D L mp) {y : List Int} (hy : CL g D y) (hs : Sd g y) (hn : y ∉ L) : EI g D (L ++ [y]) (mput mp (fd y) 1) := by
  refine ⟨?_, fun r hr => ?_, fun r hr => ?_⟩
  · rw [List.nodup_append]
    refine ⟨h.nd, by simp, fun a ha b hb => ?_⟩
    rw [List.mem_singleton] at hb
    subst hb
    exact fun c => hn (c ▸ ha)
  · rcases List.mem_append.1 hr with hr | hr
    · exact h.cl r hr
    · rw [List.mem_singleton.1 hr]; exact hy
  · rw [mget_put]
    by_cases c : r = y
    · subst c; rw [if_pos rfl, if_pos (by simp)]
    · rw [if_neg fun e => c (fd_inj hr.2 hs.2 (by rw [hr.1, hs.1]) e), h.mp r hr]
      by_cases c2 : r ∈ L
      · rw [if_pos c2, if_pos (List.mem_append_left _ c2)]
      · rw [if_neg c2, if_neg]
        intro k
        rcases List.mem_append.1 k with k | k
        · exact c2 k
        · exact c (List.mem_singleton.1 k)
theorem Sd.i64 {g : Gr} {d : List Int} (h : Sd g d) : ∀ x ∈ d, I64 x := fun x hx => by
  have := h.2 x hx
  unfold I64; omega
theorem getD_appL {α : Type} {d : α} {l t : List α} {i : Nat} (h : i < l.length) : (l ++ t).getD i d = l.getD i d := by
  rw [List.getD_eq_getElem?_getD, List.getElem?_append_left h, ← List.getD_eq_getElem?_getD]
/-- the search's answer: all effective divisors of the class, in order -/
def Sys (g : Gr) (D : Nat → Int) (L : List (List Int)) : Prop := (L.Pairwise fun a b => rowLe a b = true) ∧ L.Nodup ∧ ∀ r, r ∈ L ↔ CL g D r
theorem Sys.uniq {g : Gr} {D : Nat → Int} {L L' : List (List Int)} (h : Sys g D L) (h' : Sys g D L') : L = L' :=
  sorted_uniq ((List.perm_ext_iff_of_nodup h.2.1 h'.2.1).2 fun r => (h.2.2 r).trans (h'.2.2 r).symm) h.1 h'.1
/-- a reduced divisor that is equivalent to an effective one is effective -/
theorem red_eff {g : Gr} (hg : GOk g) {q : Nat} (hq : q < N g) {D O S : Nat → Int} (h : Red (N g) (Eg g) q O) (ho : ∀ v, v < N g → O v = D v - lap (Eg g) S v) (hD : ∀ v, v < N g → 0 ≤ D v) : 0 ≤ O q := by
  obtain ⟨gE1, gE2, gE3⟩ := gE hg
  have h1 := Red.half (s := fun v => - S v) gE1 hq h (fun v hv _ => hD v hv) fun v hv => by
    have := ho v hv
    rw [lap_neg]; omega
  have h2 : lap (Eg g) S q ≤ 0 := by
    have key : ∀ E : Es, GE (N g) E → lap E S q ≤ 0 := fun E => by
      induction E with
      | nil => intro _; exact Int.le_refl _
      | cons e E ih =>
        intro hE
        have he := hE e List.mem_cons_self
        have := ih hE.tail
        have a1 := h1 e.1 (by omega)
        have a2 := h1 e.2 he.2
        rw [lap_cons]
        unfold tm
        split
        · rename_i c; omega
        · split
          · rename_i c; omega
          · omega
    exact key _ gE1
  have := ho q hq
  have := hD q hq
  omega
theorem Rdd.cl {g : Gr} (hg : GOk g) {q : Nat} (hq : q < N g) {D O S : Nat → Int} {x y : List Int} (h : Rdd g q D x y O S) {r : List Int} (hr : CL g D r) : 0 ≤ O q := by
  obtain ⟨h1, h2, T, h3⟩ := hr
  refine red_eff (D := fun v => r.getD v 0) (S := fun v => S v + - T v) hg hq h.red (fun v hv => ?_) h2
  rw [h.out v hv, lap_add, lap_neg, h3 v hv]; omega
theorem Rdd.in {g : Gr} (hg : GOk g) {q : Nat} (hq : q < N g) {D O S : Nat → Int} {x y : List Int} (h : Rdd g q D x y O S) (h0 : 0 ≤ O q) : CL g D x :=
  ⟨h.vx.1, fun v hv => by
    rw [h.vx.2 v hv]
    by_cases c : v = q
    · rw [c]; exact h0
    · exact h.red.pos v hv c, S, fun v hv => by rw [h.vx.2 v hv]; exact h.out v hv⟩
end Go.Proofs.YtafgbjhojkgbjaaGreatDoor.D

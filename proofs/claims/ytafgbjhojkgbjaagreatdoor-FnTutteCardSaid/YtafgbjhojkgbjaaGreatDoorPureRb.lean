/-
  Chips on a graph: both programs reduce a divisor alike: the sets that fire; the reduced divisor is one.
-/
import Derived.Test.YtafgbjhojkgbjaaGreatDoorPureR
namespace Go.Proofs.YtafgbjhojkgbjaaGreatDoor.D
open Go Go.Den
set_option linter.unusedVariables false
set_option linter.unusedSimpArgs false
/-- while sets fire: S1 is the script when all debts were paid -/
structure P2 (g : Gr) (q : Nat) (D S1 : Nat → Int) (x y : List Int) (O S : Nat → Int) : Prop where
  vx : vec (N g) x O
  vy : vec (N g) y S
  out : ∀ w, w < N g → O w = D w - lap (Eg g) S w
  q0 : S q = 0
  ge : ∀ w, w < N g → S1 w ≤ S w
  ok : NoDebt g q O
structure Base (g : Gr) (q : Nat) (D S1 : Nat → Int) : Prop where
  q0 : S1 q = 0
  bd : Bd (N g) 30941000 S1
/-- no more firing than this -/
theorem fire_bd {g : Gr} (hg : GOk g) {q : Nat} (hq : q < N g) {D S1 : Nat → Int} {x y : List Int} {O S : Nat → Int} (hD : Bd (N g) 1000 D) (hB : Base g q D S1) (h : P2 g q D S1 x y O S) : sm (N g) (fun w => S w - S1 w) ≤ 137857934910000 := by
  obtain ⟨gE1, gE2, gE3⟩ := gE hg
  have hn := gN hg
  obtain ⟨t, t1, t2, t3⟩ := pay_one gE1 gE2 (gC hg) hq hn.2.2
  have sym := lap_symm (n := N g) t (fun w => S w - S1 w) gE1
  have hR : sm (N g) (fun w => S w - S1 w) ≤ sm (N g) (fun v => (S v - S1 v) * lap (Eg g) t v) := sm_le fun v hv => by
    by_cases c : v = q
    · subst c
      rw [h.q0, hB.q0]; omega
    · have h1 := h.ge v hv
      have h2 := t3 v hv c
      have : (S v - S1 v) * 1 ≤ (S v - S1 v) * lap (Eg g) t v := Int.mul_le_mul_of_nonneg_left h2 (by omega)
      omega
  have hL : sm (N g) (fun v => t v * lap (Eg g) (fun w => S w - S1 w) v) ≤ (N g : Int) * 22976322485000 := sm_const_le fun v hv => by
    have e : lap (Eg g) (fun w => S w - S1 w) v = lap (Eg g) S v - lap (Eg g) S1 v := by
      have : lap (Eg g) (fun w => S w - S1 w) v = lap (Eg g) (fun w => S w + - S1 w) v := lap_congr hv (fun w _ => by omega) gE1
      rw [this, lap_add, lap_neg]; omega
    have o := h.out v hv
    have b1 := lap_bd hB.bd (by omega) hv gE1 gE2
    have d1 := hD v hv
    have tv := t2 v
    by_cases c : v = q
    · subst c
      rw [t1]; omega
    · have nd := h.ok v hv c
      have h3 : lap (Eg g) (fun w => S w - S1 w) v ≤ 742585000 := by rw [e]; omega
      have h4 : t v * lap (Eg g) (fun w => S w - S1 w) v ≤ t v * 742585000 := Int.mul_le_mul_of_nonneg_left h3 tv.1
      omega
  omega
theorem P2.bdS {g : Gr} (hg : GOk g) {q : Nat} (hq : q < N g) {D S1 : Nat → Int} {x y : List Int} {O S : Nat → Int} (hD : Bd (N g) 1000 D) (hB : Base g q D S1) (h : P2 g q D S1 x y O S) : Bd (N g) 137857965851000 S := fun w hw => by
  have h1 := fire_bd hg hq hD hB h
  have h2 := sm_ge_one (n := N g) (f := fun w => S w - S1 w) (fun v hv => by have := h.ge v hv; omega) hw
  have h3 := h.ge w hw
  have h4 := hB.bd w hw
  omega
theorem inde (L : List Nat) (w : Nat) : ind (cmp L) w = if w ∈ L then 0 else 1 := by
  unfold ind cmp
  by_cases c : w ∈ L <;> simp [c]
/-- a set that has not burnt fires: no debts, and more has fired -/
theorem P2.set {g : Gr} (hg : GOk g) {q : Nat} {D S1 : Nat → Int} {x y x' y' : List Int} {O S : Nat → Int} {L : List Nat} (h : P2 g q D S1 x y O S) (hL : BI (N g) (Eg g) q O L) (hF : Fin' (N g) (Eg g) O L)
    (hx : vec (N g) x' (fun w => D w - lap (Eg g) (fun u => S u + ind (cmp L) u) w)) (hy : vec (N g) y' (fun u => S u + ind (cmp L) u)) : P2 g q D S1 x' y' (fun w => D w - lap (Eg g) (fun u => S u + ind (cmp L) u) w) (fun u => S u + ind (cmp L) u) := by
  refine ⟨hx, hy, fun w _ => rfl, ?_, fun w hw => ?_, fun v hv hne => ?_⟩
  · rw [inde, if_pos hL.hq, h.q0]; rfl
  · have := h.ge w hw
    rw [inde]
    split <;> omega
  · have o := h.out v hv
    have nd := h.ok v hv hne
    rw [lap_add]
    by_cases c : v ∈ L
    · have := lap_ind_out (cmp_f.2 c) (Eg g)
      omega
    · have h1 := hF v hv c
      have := lap_ind_in (cmp_t.2 c) (Eg g)
      omega
theorem sm_more {g : Gr} {q : Nat} {S1 S O : Nat → Int} {L : List Nat} (hL : BI (N g) (Eg g) q O L) (hl : L.length ≠ N g) : sm (N g) (fun w => S w - S1 w) + 1 ≤ sm (N g) (fun w => (S w + ind (cmp L) w) - S1 w) := by
  have hlen := hL.len
  have hex : ∃ v, v < N g ∧ v ∉ L := by
    by_cases c : ∃ v, v < N g ∧ v ∉ L
    · exact c
    · exfalso
      have := nodup_len (l := List.range (N g)) (m := L) List.nodup_range fun x hx => by
        by_cases k : x ∈ L
        · exact k
        · exact absurd ⟨x, List.mem_range.1 hx, k⟩ c
      rw [List.length_range] at this
      omega
  obtain ⟨v, v1, v2⟩ := hex
  have e : sm (N g) (fun w => (S w + ind (cmp L) w) - S1 w) = sm (N g) (fun w => (S w - S1 w) + ind (cmp L) w) := sm_congr fun w _ => by omega
  rw [e, sm_add]
  have := sm_ge_one (n := N g) (f := ind (cmp L)) (fun w _ => by rw [inde]; split <;> omega) v1
  rw [inde, if_neg v2] at this
  omega
/-- what both tell: the reduced divisor and its script -/
structure Rdd (g : Gr) (q : Nat) (D : Nat → Int) (x y : List Int) (O S : Nat → Int) : Prop where
  vx : vec (N g) x O
  vy : vec (N g) y S
  out : ∀ w, w < N g → O w = D w - lap (Eg g) S w
  q0 : S q = 0
  red : Red (N g) (Eg g) q O
  bd : Bd (N g) 137857965851000 S
theorem Rdd.eq {g : Gr} (hg : GOk g) {q : Nat} (hq : q < N g) {D O S O' S' : Nat → Int} {x y x' y' : List Int} (h : Rdd g q D x y O S) (h' : Rdd g q D x' y' O' S') : x = x' ∧ y = y' := by
  obtain ⟨gE1, gE2, gE3⟩ := gE hg
  have key := Red.uniq (s := fun w => S' w - S w) gE1 hq h.red h'.red fun v hv => by
    have e : lap (Eg g) (fun w => S' w - S w) v = lap (Eg g) S' v - lap (Eg g) S v := by
      have : lap (Eg g) (fun w => S' w - S w) v = lap (Eg g) (fun w => S' w + - S w) v := lap_congr hv (fun w _ => by omega) gE1
      rw [this, lap_add, lap_neg]; omega
    have := h.out v hv
    have := h'.out v hv
    omega
  refine ⟨h.vx.eq h'.vx fun w hw => (key w hw).2.symm, h.vy.eq h'.vy fun w hw => ?_⟩
  have := (key w hw).1
  have := h.q0
  have := h'.q0
  omega
theorem P1.two {g : Gr} {q : Nat} {D t : Nat → Int} {x y : List Int} {O S : Nat → Int} (hP : Pay g q D t) (h : P1 g q D t x y O S) (h0 : NoDebt g q O) : Base g q D S ∧ P2 g q D S x y O S :=
  ⟨⟨h.q0, h.bdS hP⟩, ⟨h.vx, h.vy, h.out, h.q0, fun w _ => Int.le_refl _, h0⟩⟩
theorem P1.start {g : Gr} {q : Nat} {D t : Nat → Int} (hP : Pay g q D t) {d : List Int} (hd : vec (N g) d D) : P1 g q D t d (List.replicate (N g) 0) D (fun _ => 0) := by
  refine ⟨hd, vec.zero _, fun w _ => ?_, rfl, fun w hw => by have := hP.bd w; omega⟩
  have : ∀ E : Es, lap E (fun _ => 0) w = 0 := fun E => by
    induction E with
    | nil => rfl
    | cons e E ih =>
      rw [lap_cons, ih]
      unfold tm
      split
      · rfl
      · split <;> rfl
  rw [this]; omega
theorem P2.rdd {g : Gr} (hg : GOk g) {q : Nat} (hq : q < N g) {D S1 : Nat → Int} {x y : List Int} {O S : Nat → Int} (hD : Bd (N g) 1000 D) (hB : Base g q D S1) (h : P2 g q D S1 x y O S) (hr : Red (N g) (Eg g) q O) : Rdd g q D x y O S := ⟨h.vx, h.vy, h.out, h.q0, hr, h.bdS hg hq hD hB⟩
theorem bound_nat (i : Int) (h : 0 ≤ i) : ∃ m : Nat, i < (m : Int) := ⟨i.toNat + 1, by omega⟩
end Go.Proofs.YtafgbjhojkgbjaaGreatDoor.D

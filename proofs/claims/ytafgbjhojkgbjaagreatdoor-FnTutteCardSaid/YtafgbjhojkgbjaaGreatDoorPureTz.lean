/-
  Several texts of the plain law, one behind the other.
-/
import Derived.Test.YtafgbjhojkgbjaaGreatDoorPureA
import Derived.Test.YtafgbjhojkgbjaaGreatDoorLb
import Derived.Test.YtafgbjhojkgbjaaGreatDoorPureE
import Derived.Test.YtafgbjhojkgbjaaGreatDoorPureGl
import Derived.Test.YtafgbjhojkgbjaaGreatDoorPureGf
namespace Go.Proofs.YtafgbjhojkgbjaaGreatDoor.D.Tq
open Go Go.Den
set_option linter.unusedVariables false
abbrev Eds : Type := List (Nat × Nat)
/-- every cut of the vertices is crossed -/
def Cn (X : Nat → Prop) (A : Eds) : Prop := ∀ S : Nat → Prop, (∃ v, X v ∧ S v) → (∃ v, X v ∧ ¬ S v) → ∃ e ∈ A, ¬ (S e.1 ↔ S e.2)
theorem Cn.mono {X : Nat → Prop} {A B : Eds} (h : Cn X A) (hs : ∀ e ∈ A, e ∈ B) : Cn X B := fun S h1 h2 => by
  obtain ⟨e, he, hn⟩ := h S h1 h2
  exact ⟨e, hs e he, hn⟩
theorem Cn.loop {X : Nat → Prop} {A : Eds} {a : Nat} : Cn X ((a, a) :: A) ↔ Cn X A := by
  refine ⟨fun h S h1 h2 => ?_, fun h => h.mono fun e he => List.mem_cons_of_mem _ he⟩
  obtain ⟨e, he, hn⟩ := h S h1 h2
  rcases List.mem_cons.1 he with rfl | he
  · exact absurd Iff.rfl hn
  · exact ⟨e, he, hn⟩
/-- b's name becomes a's -/
def rn (a b v : Nat) : Nat := if v = b then a else v
def rnE (a b : Nat) (A : Eds) : Eds := A.map fun e => (rn a b e.1, rn a b e.2)
theorem Cn.merge {X : Nat → Prop} {A : Eds} {a b : Nat} (ha : X a) (hb : X b) (hab : a ≠ b) : Cn X ((a, b) :: A) ↔ Cn (fun v => X v ∧ v ≠ b) (rnE a b A) := by
  constructor
  · intro h S h1 h2
    obtain ⟨v, ⟨v1, v2⟩, v3⟩ := h1
    obtain ⟨u, ⟨u1, u2⟩, u3⟩ := h2
    have f : ∀ w, w ≠ b → (S (rn a b w) ↔ S w) := fun w hw => by unfold rn; rw [if_neg hw]
    obtain ⟨e, he, hn⟩ := h (fun w => S (rn a b w)) ⟨v, v1, (f v v2).2 v3⟩ ⟨u, u1, fun c => u3 ((f u u2).1 c)⟩
    rcases List.mem_cons.1 he with rfl | he
    · refine absurd ?_ hn
      show S (rn a b a) ↔ S (rn a b b)
      unfold rn
      rw [if_neg hab, if_pos rfl]
    · exact ⟨_, List.mem_map.2 ⟨e, he, rfl⟩, hn⟩
  · intro h S h1 h2
    by_cases c : S a ↔ S b
    · have g : ∀ w, S (rn a b w) ↔ S w := fun w => by
        unfold rn
        split
        · next k => rw [k]; exact c
        · exact Iff.rfl
      have hx : ∀ w, X w → X (rn a b w) ∧ rn a b w ≠ b := fun w hw => by
        unfold rn
        split
        · exact ⟨ha, hab⟩
        · next k => exact ⟨hw, k⟩
      obtain ⟨v, v1, v2⟩ := h1
      obtain ⟨u, u1, u2⟩ := h2
      obtain ⟨e, he, hn⟩ := h S ⟨rn a b v, hx v v1, (g v).2 v2⟩ ⟨rn a b u, hx u u1, fun k => u2 ((g u).1 k)⟩
      obtain ⟨d, hd, rfl⟩ := List.mem_map.1 he
      exact ⟨d, List.mem_cons_of_mem _ hd, fun k => hn (by rw [g, g]; exact k)⟩
    · exact ⟨(a, b), List.mem_cons_self, c⟩
/-- a sum over all sublists -/
def sb : Eds → (Eds → Int) → Int
  | [], P => P []
  | e :: E, P => sb E P + sb E fun A => P (e :: A)
theorem sb_congr : ∀ {E : Eds} {P Q : Eds → Int}, (∀ A, (∀ e ∈ A, e ∈ E) → P A = Q A) → sb E P = sb E Q
  | [], P, Q, h => h [] fun e he => he
  | e :: E, P, Q, h => by
    show sb E P + sb E _ = sb E Q + sb E _
    rw [sb_congr fun A hA => h A fun e he => List.mem_cons_of_mem _ (hA e he), sb_congr (P := fun A => P (e :: A)) (Q := fun A => Q (e :: A)) fun A hA => h (e :: A) fun d hd => (List.mem_cons.1 hd).elim (fun k => by rw [k]; exact List.mem_cons_self) fun k => List.mem_cons_of_mem _ (hA d k)]
theorem sb_zero : ∀ (E : Eds), sb E (fun _ => 0) = 0
  | [] => rfl
  | e :: E => by show sb E _ + sb E _ = 0; rw [sb_zero E]; rfl
theorem sb_mul (c : Int) : ∀ (E : Eds) (P : Eds → Int), sb E (fun A => c * P A) = c * sb E P
  | [], P => rfl
  | e :: E, P => by
    show sb E _ + sb E _ = c * (sb E P + sb E _)
    rw [sb_mul c E, sb_mul c E, Int.mul_add]
theorem sb_map (f : Nat × Nat → Nat × Nat) : ∀ (E : Eds) (P : Eds → Int), sb (E.map f) P = sb E fun A => P (A.map f)
  | [], P => rfl
  | e :: E, P => by
    show sb (E.map f) P + sb (E.map f) _ = sb E _ + sb E _
    rw [sb_map f E, sb_map f E]; rfl
open Classical in
noncomputable def zt (y : Int) (X : Nat → Prop) (n : Nat) (A : Eds) : Int := if Cn X A then (y - 1) ^ (A.length + 1 - n) else 0
theorem zt_t {y : Int} {X : Nat → Prop} {n : Nat} {A : Eds} (h : Cn X A) : zt y X n A = (y - 1) ^ (A.length + 1 - n) := if_pos h
theorem zt_f {y : Int} {X : Nat → Prop} {n : Nat} {A : Eds} (h : ¬ Cn X A) : zt y X n A = 0 := if_neg h
noncomputable def zz (y : Int) (X : Nat → Prop) (n : Nat) (E : Eds) : Int := sb E (zt y X n)
/-- the edges lie on the vertices -/
def On (L : List Nat) (A : Eds) : Prop := ∀ e ∈ A, e.1 ∈ L ∧ e.2 ∈ L
abbrev In (L : List Nat) : Nat → Prop := fun v => v ∈ L
theorem In.erase {L : List Nat} (h : L.Nodup) {b : Nat} : (fun v => In L v ∧ v ≠ b) = In (L.erase b) := by
  funext v
  apply propext
  show (v ∈ L ∧ v ≠ b) ↔ v ∈ L.erase b
  rw [List.Nodup.mem_erase_iff h]
  exact And.comm
theorem On.tail {L : List Nat} {e : Nat × Nat} {A : Eds} (h : On L (e :: A)) : On L A := fun d hd => h d (List.mem_cons_of_mem _ hd)
theorem On.rn {L : List Nat} (hL : L.Nodup) {a b : Nat} (ha : a ∈ L) (hab : a ≠ b) {A : Eds} (h : On L A) : On (L.erase b) (rnE a b A) := by
  intro e he
  obtain ⟨d, hd, rfl⟩ := List.mem_map.1 he
  obtain ⟨h1, h2⟩ := h d hd
  have key : ∀ v, v ∈ L → D.Tq.rn a b v ∈ L.erase b := fun v hv => by
    rw [List.Nodup.mem_erase_iff hL]
    unfold D.Tq.rn
    split
    · exact ⟨hab, ha⟩
    · next k => exact ⟨k, hv⟩
  exact ⟨key _ h1, key _ h2⟩
theorem Cn.merge' {L : List Nat} (hL : L.Nodup) {A : Eds} {a b : Nat} (ha : a ∈ L) (hb : b ∈ L) (hab : a ≠ b) : Cn (In L) ((a, b) :: A) ↔ Cn (In (L.erase b)) (rnE a b A) := by
  rw [← In.erase hL]
  exact Cn.merge ha hb hab
theorem Cn.size : ∀ (n : Nat) {A : Eds} {L : List Nat}, A.length = n → L.Nodup → On L A → Cn (In L) A → L.length ≤ A.length + 1
  | 0, A, L, hn, hL, hO, h => by
    have hA : A = [] := List.eq_nil_of_length_eq_zero hn
    subst hA
    match L, hL, h with
    | [], _, _ => exact Nat.zero_le _
    | [_], _, _ => exact Nat.le_refl _
    | u :: v :: L, hL, h =>
      have huv : u ≠ v := fun c => by
        have := (List.nodup_cons.1 hL).1
        exact this (by rw [c]; exact List.mem_cons_self)
      obtain ⟨e, he, _⟩ := h (fun w => w = u) ⟨u, List.mem_cons_self, rfl⟩ ⟨v, List.mem_cons_of_mem _ List.mem_cons_self, fun c => huv c.symm⟩
      cases he
  | n + 1, A, L, hn, hL, hO, h => by
    match A, hn, hO, h with
    | (a, b) :: A, hn, hO, h =>
      have hn' : A.length = n := Nat.succ.inj hn
      obtain ⟨ha, hb⟩ := hO (a, b) List.mem_cons_self
      by_cases hab : a = b
      · subst hab
        have := Cn.size n hn' hL hO.tail (Cn.loop.1 h)
        show L.length ≤ A.length + 1 + 1
        omega
      · have := Cn.size n (A := rnE a b A) (by unfold rnE; rw [List.length_map]; exact hn') (hL.erase b) (hO.tail.rn hL ha hab) ((Cn.merge' hL ha hb hab).1 h)
        rw [List.length_erase_of_mem hb] at this
        unfold rnE at this
        rw [List.length_map] at this
        show L.length ≤ A.length + 1 + 1
        omega
theorem On.sub {L : List Nat} {E A : Eds} (h : On L E) (hA : ∀ e ∈ A, e ∈ E) : On L A := fun e he => h e (hA e he)
theorem zz_loop {y : Int} {L : List Nat} (hL : L.Nodup) {a : Nat} {E : Eds} (hO : On L E) : zz y (In L) L.length ((a, a) :: E) = y * zz y (In L) L.length E := by
  unfold zz
  show sb E _ + sb E _ = _
  have h2 : sb E (fun A => zt y (In L) L.length ((a, a) :: A)) = sb E fun A => (y - 1) * zt y (In L) L.length A := by
    refine sb_congr fun A hA => ?_
    by_cases c : Cn (In L) A
    · rw [zt_t (Cn.loop.2 c), zt_t c]
      have := Cn.size A.length rfl hL (hO.sub hA) c
      show (y - 1) ^ (A.length + 1 + 1 - L.length) = _
      rw [show A.length + 1 + 1 - L.length = (A.length + 1 - L.length) + 1 by omega, Int.pow_succ, Int.mul_comm]
    · rw [zt_f (fun k => c (Cn.loop.1 k)), zt_f c, Int.mul_zero]
  rw [h2, sb_mul, Int.sub_mul, Int.one_mul]
  show sb E (zt y (In L) L.length) + _ = _
  omega
theorem zz_edge {y : Int} {L : List Nat} (hL : L.Nodup) {a b : Nat} (ha : a ∈ L) (hb : b ∈ L) (hab : a ≠ b) {E : Eds} : zz y (In L) L.length ((a, b) :: E) = zz y (In L) L.length E + zz y (In (L.erase b)) (L.erase b).length (rnE a b E) := by
  unfold zz
  show sb E _ + sb E _ = _
  congr 1
  unfold rnE
  rw [sb_map]
  refine sb_congr fun A hA => ?_
  have := Cn.merge' (A := A) hL ha hb hab
  unfold rnE at this
  by_cases c : Cn (In L) ((a, b) :: A)
  · rw [zt_t c, zt_t (this.1 c), List.length_erase_of_mem hb, List.length_map]
    have : 0 < L.length := List.length_pos_of_mem hb
    show (y - 1) ^ (A.length + 1 + 1 - L.length) = _
    congr 1
    omega
  · rw [zt_f c, zt_f fun k => c (this.2 k)]
/-- what does not join all has no part that does -/
theorem zz_none {y : Int} {L : List Nat} {E : Eds} (h : ¬ Cn (In L) E) : zz y (In L) L.length E = 0 := by
  unfold zz
  refine (sb_congr (Q := fun _ => 0) fun A hA => ?_).trans (sb_zero E)
  exact zt_f fun k => h (k.mono hA)
theorem zz_nil {y : Int} {v : Nat} : zz y (In [v]) 1 [] = 1 := by
  unfold zz
  show zt y (In [v]) 1 [] = 1
  rw [zt_t]
  · exact Int.pow_zero _
  · intro S ⟨u, u1, u2⟩ ⟨w, w1, w2⟩
    rw [List.mem_singleton.1 u1] at u2
    rw [List.mem_singleton.1 w1] at w2
    exact absurd u2 w2
/-- the order of the edges is nothing -/
theorem sb_perm {E E' : Eds} (h : E.Perm E') : ∀ {P : Eds → Int}, (∀ A B : Eds, A.Perm B → P A = P B) → sb E P = sb E' P := by
  induction h with
  | nil => intro P _; rfl
  | cons x _ ih =>
    intro P hP
    show sb _ P + sb _ _ = sb _ P + sb _ _
    rw [ih hP, ih (P := fun A => P (x :: A)) fun A B k => hP _ _ (k.cons x)]
  | swap x y E =>
    intro P hP
    show (sb E P + sb E fun A => P (x :: A)) + ((sb E fun A => P (y :: A)) + sb E fun A => P (y :: x :: A)) = (sb E P + sb E fun A => P (y :: A)) + ((sb E fun A => P (x :: A)) + sb E fun A => P (x :: y :: A))
    rw [sb_congr (P := fun A => P (y :: x :: A)) (Q := fun A => P (x :: y :: A)) fun A _ => hP _ _ (List.Perm.swap x y A)]
    omega
  | trans _ _ h1 h2 => intro P hP; rw [h1 hP, h2 hP]
theorem zz_perm {y : Int} {X : Nat → Prop} {n : Nat} {E E' : Eds} (h : E.Perm E') : zz y X n E = zz y X n E' :=
  sb_perm h fun A B k => by
    have hc : Cn X A ↔ Cn X B := ⟨fun a => a.mono fun e he => k.mem_iff.1 he, fun a => a.mono fun e he => k.mem_iff.2 he⟩
    by_cases c : Cn X A
    · rw [zt_t c, zt_t (hc.1 c), k.length_eq]
    · rw [zt_f c, zt_f fun g => c (hc.2 g)]
theorem Cn.flip {X : Nat → Prop} {A : Eds} {a b : Nat} (h : Cn X ((a, b) :: A)) : Cn X ((b, a) :: A) := fun S h1 h2 => by
  obtain ⟨e, he, hn⟩ := h S h1 h2
  rcases List.mem_cons.1 he with rfl | he
  · exact ⟨(b, a), List.mem_cons_self, fun k => hn k.symm⟩
  · exact ⟨e, List.mem_cons_of_mem _ he, hn⟩
theorem zz_flip {y : Int} {X : Nat → Prop} {n : Nat} {E : Eds} {a b : Nat} : zz y X n ((a, b) :: E) = zz y X n ((b, a) :: E) := by
  show sb E _ + sb E _ = sb E _ + sb E _
  congr 1
  refine sb_congr fun A _ => ?_
  by_cases c : Cn X ((a, b) :: A)
  · rw [zt_t c, zt_t c.flip]; rfl
  · rw [zt_f c, zt_f fun g => c g.flip]
end Go.Proofs.YtafgbjhojkgbjaaGreatDoor.D.Tq
namespace Go.Proofs.YtafgbjhojkgbjaaGreatDoor.D.Tq
open Go Go.Den
set_option linter.unusedVariables false
open Classical in
noncomputable def ot (S : Nat → Prop) (v : Nat) (e : Nat × Nat) : Nat := if (e.1 = v ∧ ¬ S e.2) ∨ (e.2 = v ∧ ¬ S e.1) then 1 else 0
noncomputable def outE (S : Nat → Prop) (v : Nat) : Eds → Nat
  | [] => 0
  | e :: A => ot S v e + outE S v A
theorem ot_t {S : Nat → Prop} {v : Nat} {e : Nat × Nat} (h : (e.1 = v ∧ ¬ S e.2) ∨ (e.2 = v ∧ ¬ S e.1)) : ot S v e = 1 := if_pos h
theorem ot_f {S : Nat → Prop} {v : Nat} {e : Nat × Nat} (h : ¬ ((e.1 = v ∧ ¬ S e.2) ∨ (e.2 = v ∧ ¬ S e.1))) : ot S v e = 0 := if_neg h
def Pk (q : Nat) (L : List Nat) (A : Eds) (c : Nat → Nat) : Prop := ∀ S : Nat → Prop, ¬ S q → (∃ v ∈ L, S v) → ∃ v ∈ L, S v ∧ c v < outE S v A
theorem pk_loop {q : Nat} {L : List Nat} {A : Eds} {c : Nat → Nat} {a : Nat} : Pk q L ((a, a) :: A) c ↔ Pk q L A c := by
  have key : ∀ (S : Nat → Prop) (v : Nat), S v → outE S v ((a, a) :: A) = outE S v A := fun S v hv => by
    show ot S v (a, a) + _ = _
    rw [ot_f, Nat.zero_add]
    have hs : a = v → S a := fun g => by rw [g]; exact hv
    rintro (⟨h1, h2⟩ | ⟨h1, h2⟩)
    · exact h2 (hs h1)
    · exact h2 (hs h1)
  constructor
  · intro h S h1 h2
    obtain ⟨v, v1, v2, v3⟩ := h S h1 h2
    rw [key S v v2] at v3
    exact ⟨v, v1, v2, v3⟩
  · intro h S h1 h2
    obtain ⟨v, v1, v2, v3⟩ := h S h1 h2
    rw [← key S v v2] at v3
    exact ⟨v, v1, v2, v3⟩
def upd (c : Nat → Nat) (b x : Nat) : Nat → Nat := fun v => if v = b then x else c v
theorem out_sink {S : Nat → Prop} {q b v : Nat} {A : Eds} (hq : ¬ S q) (hv : S v) : outE S v ((q, b) :: A) = (if v = b then 1 else 0) + outE S v A := by
  show ot S v (q, b) + _ = _
  by_cases c : v = b
  · rw [if_pos c, ot_t (.inr ⟨c.symm, hq⟩)]
  · rw [if_neg c, ot_f]
    rintro (⟨h1, h2⟩ | ⟨h1, h2⟩)
    · exact hq (by rw [show q = v from h1]; exact hv)
    · exact c (show b = v from h1).symm
theorem pk_succ {q b x : Nat} {L : List Nat} {A : Eds} {c : Nat → Nat} : Pk q L ((q, b) :: A) (upd c b (x + 1)) ↔ Pk q L A (upd c b x) := by
  have key : ∀ (S : Nat → Prop) (v : Nat), ¬ S q → S v → (upd c b (x + 1) v < outE S v ((q, b) :: A) ↔ upd c b x v < outE S v A) := fun S v hq hv => by
    rw [out_sink hq hv]
    unfold upd
    by_cases k : v = b
    · rw [if_pos k, if_pos k, if_pos k]; omega
    · rw [if_neg k, if_neg k, if_neg k]; omega
  constructor
  · intro h S h1 h2
    obtain ⟨v, v1, v2, v3⟩ := h S h1 h2
    exact ⟨v, v1, v2, (key S v h1 v2).1 v3⟩
  · intro h S h1 h2
    obtain ⟨v, v1, v2, v3⟩ := h S h1 h2
    exact ⟨v, v1, v2, (key S v h1 v2).2 v3⟩
theorem out_rn {S T : Nat → Prop} {q b v : Nat} (hvb : v ≠ b) (hvq : v ≠ q) (hS : ∀ w, T w ↔ S (rn q b w)) : ∀ A : Eds, outE T v A = outE S v (rnE q b A)
  | [] => rfl
  | e :: A => by
    show ot T v e + outE T v A = ot S v (rn q b e.1, rn q b e.2) + outE S v (rnE q b A)
    rw [out_rn hvb hvq hS A]
    have hr : ∀ w, rn q b w = v ↔ w = v := fun w => by
      unfold rn
      split
      · next k => exact ⟨fun h => absurd h.symm hvq, fun h => absurd (h.symm.trans k) hvb⟩
      · exact Iff.rfl
    have hi : ((e.1 = v ∧ ¬ T e.2) ∨ (e.2 = v ∧ ¬ T e.1)) ↔ ((rn q b e.1 = v ∧ ¬ S (rn q b e.2)) ∨ (rn q b e.2 = v ∧ ¬ S (rn q b e.1))) := by
      rw [hr, hr, hS, hS]
    by_cases k : (e.1 = v ∧ ¬ T e.2) ∨ (e.2 = v ∧ ¬ T e.1)
    · rw [ot_t k, ot_t (hi.1 k)]
    · rw [ot_f k, ot_f fun h => k (hi.2 h)]
theorem pk_zero {q b : Nat} {L : List Nat} (hL : L.Nodup) (hb : b ∈ L) (hqb : q ≠ b) {A : Eds} {c : Nat → Nat} (hc : c b = 0) : Pk q L ((q, b) :: A) c ↔ Pk q (L.erase b) (rnE q b A) c := by
  constructor
  · intro h S h1 h2
    obtain ⟨u, u1, u2⟩ := h2
    rw [List.Nodup.mem_erase_iff hL] at u1
    have hT : ∀ w, (S w ∧ w ≠ b) ↔ S (rn q b w) := fun w => by
      unfold rn
      split
      · next k => exact ⟨fun g => absurd k g.2, fun g => absurd g h1⟩
      · next k => exact ⟨fun g => g.1, fun g => ⟨g, k⟩⟩
    obtain ⟨v, v1, ⟨v2, v4⟩, v3⟩ := h (fun w => S w ∧ w ≠ b) (fun k => h1 k.1) ⟨u, u1.2, u2, u1.1⟩
    have hvq : v ≠ q := fun k => h1 (by rw [← k]; exact v2)
    rw [out_sink (S := fun w => S w ∧ w ≠ b) (fun k => h1 k.1) ⟨v2, v4⟩, if_neg v4, Nat.zero_add, out_rn (S := S) v4 hvq hT A] at v3
    exact ⟨v, (List.Nodup.mem_erase_iff hL).2 ⟨v4, v1⟩, v2, v3⟩
  · intro h S h1 h2
    by_cases k : S b
    · refine ⟨b, hb, k, ?_⟩
      rw [out_sink h1 k, if_pos rfl, hc]; omega
    · obtain ⟨u, u1, u2⟩ := h2
      have hub : u ≠ b := fun g => k (by rw [← g]; exact u2)
      have hT : ∀ w, S w ↔ S (rn q b w) := fun w => by
        unfold rn
        split
        · next g => rw [g]; exact ⟨fun a => absurd a k, fun a => absurd a h1⟩
        · exact Iff.rfl
      obtain ⟨v, v1, v2, v3⟩ := h S h1 ⟨u, (List.Nodup.mem_erase_iff hL).2 ⟨hub, u1⟩, u2⟩
      rw [List.Nodup.mem_erase_iff hL] at v1
      have hvq : v ≠ q := fun g => h1 (by rw [← g]; exact v2)
      refine ⟨v, v1.2, v2, ?_⟩
      rw [out_sink h1 v2, if_neg v1.1, Nat.zero_add, out_rn (S := S) v1.1 hvq hT A]
      exact v3
theorem out_perm {S : Nat → Prop} {v : Nat} {A B : Eds} (h : A.Perm B) : outE S v A = outE S v B := by
  induction h with
  | nil => rfl
  | cons x _ ih => show ot S v x + _ = ot S v x + _; rw [ih]
  | swap x y E => show ot S v y + (ot S v x + _) = ot S v x + (ot S v y + _); omega
  | trans _ _ h1 h2 => exact h1.trans h2
theorem pk_perm {q : Nat} {L : List Nat} {A B : Eds} {c : Nat → Nat} (h : A.Perm B) : Pk q L A c ↔ Pk q L B c := by
  unfold Pk
  constructor
  · intro k S h1 h2
    obtain ⟨v, v1, v2, v3⟩ := k S h1 h2
    exact ⟨v, v1, v2, by rw [← out_perm h]; exact v3⟩
  · intro k S h1 h2
    obtain ⟨v, v1, v2, v3⟩ := k S h1 h2
    exact ⟨v, v1, v2, by rw [out_perm h]; exact v3⟩
theorem out_flip {S : Nat → Prop} {v a b : Nat} {A : Eds} : outE S v ((a, b) :: A) = outE S v ((b, a) :: A) := by
  show ot S v (a, b) + _ = ot S v (b, a) + _
  congr 1
  by_cases k : (a = v ∧ ¬ S b) ∨ (b = v ∧ ¬ S a)
  · rw [ot_t k, ot_t k.symm]
  · rw [ot_f k, ot_f fun g => k g.symm]
theorem pk_flip {q a b : Nat} {L : List Nat} {A : Eds} {c : Nat → Nat} (k : Pk q L ((a, b) :: A) c) : Pk q L ((b, a) :: A) c := fun S h1 h2 => by
  obtain ⟨v, v1, v2, v3⟩ := k S h1 h2
  exact ⟨v, v1, v2, by rw [out_flip]; exact v3⟩
theorem out_le {S : Nat → Prop} {v : Nat} : ∀ A : Eds, outE S v A ≤ A.length
  | [] => Nat.le_refl _
  | e :: A => by
    have := out_le (S := S) (v := v) A
    have : ot S v e ≤ 1 := by unfold ot; split <;> omega
    show ot S v e + outE S v A ≤ A.length + 1
    omega
/-- a parking function is less than the number of edges everywhere -/
theorem pk_lt {q : Nat} {L : List Nat} {A : Eds} {c : Nat → Nat} (h : Pk q L A c) {v : Nat} (hv : v ∈ L) (hq : v ≠ q) : c v < A.length := by
  obtain ⟨u, _, u2, u3⟩ := h (fun w => w = v) (fun k => hq k.symm) ⟨v, hv, rfl⟩
  rw [u2] at u3
  exact Nat.lt_of_lt_of_le u3 (out_le A)
/-- where no edge leaves the sink and something else is, nothing parks -/
theorem pk_stuck {q : Nat} {L : List Nat} {A : Eds} {c : Nat → Nat} (hA : ∀ e ∈ A, (e.1 = q ↔ e.2 = q)) {v : Nat} (hv : v ∈ L) (hq : v ≠ q) : ¬ Pk q L A c := fun h => by
  obtain ⟨u, _, u2, u3⟩ := h (fun w => w ≠ q) (fun k => k rfl) ⟨v, hv, hq⟩
  have key : ∀ B : Eds, (∀ e ∈ B, (e.1 = q ↔ e.2 = q)) → outE (fun w => w ≠ q) u B = 0 := by
    intro B
    induction B with
    | nil => intro _; rfl
    | cons e B ih =>
      intro hB
      show ot _ u e + outE _ u B = 0
      rw [ih fun d hd => hB d (List.mem_cons_of_mem _ hd), ot_f]
      have he := hB e List.mem_cons_self
      rintro (⟨h1, h2⟩ | ⟨h1, h2⟩)
      · have h3 : e.2 = q := Classical.not_not.1 h2
        exact u2 (h1.symm.trans (he.2 h3))
      · have h3 : e.1 = q := Classical.not_not.1 h2
        exact u2 (h1.symm.trans (he.1 h3))
  rw [key A hA] at u3
  exact Nat.not_lt_zero _ u3
def tot : List Nat → (Nat → Nat) → Nat
  | [], _ => 0
  | v :: L, c => c v + tot L c
theorem tot_congr {c d : Nat → Nat} : ∀ {L : List Nat}, (∀ v ∈ L, c v = d v) → tot L c = tot L d
  | [], _ => rfl
  | v :: L, h => by
    show c v + tot L c = d v + tot L d
    rw [h v List.mem_cons_self, tot_congr fun u hu => h u (List.mem_cons_of_mem _ hu)]
theorem tot_perm {c : Nat → Nat} {L M : List Nat} (h : L.Perm M) : tot L c = tot M c := by
  induction h with
  | nil => rfl
  | cons x _ ih => show c x + _ = c x + _; rw [ih]
  | swap x y E => show c y + (c x + _) = c x + (c y + _); omega
  | trans _ _ h1 h2 => exact h1.trans h2
theorem tot_erase {c : Nat → Nat} {L : List Nat} {b : Nat} (h : b ∈ L) : tot L c = c b + tot (L.erase b) c := tot_perm (List.perm_cons_erase h)
/-- an edge at the sink, if anything parks beside it -/
theorem pk_edge {q : Nat} {L : List Nat} {A : Eds} {c : Nat → Nat} (hO : On L A) (h : Pk q L A c) {v : Nat} (hv : v ∈ L) (hq : v ≠ q) : ∃ b B, b ∈ L ∧ b ≠ q ∧ (A.Perm ((q, b) :: B) ∨ A.Perm ((b, q) :: B)) := by
  apply Classical.byContradiction
  intro k
  refine pk_stuck (fun e he => ?_) hv hq h
  have hp := List.perm_cons_erase he
  obtain ⟨o1, o2⟩ := hO e he
  constructor
  · intro h1
    apply Classical.byContradiction
    intro h2
    exact k ⟨e.2, A.erase e, o2, h2, .inl (by rw [← h1]; exact hp)⟩
  · intro h1
    apply Classical.byContradiction
    intro h2
    exact k ⟨e.1, A.erase e, o1, h2, .inr (by rw [← h1]; exact hp)⟩
theorem pk_tot : ∀ (n : Nat) {q : Nat} {L : List Nat} {A : Eds} {c : Nat → Nat}, A.length = n → L.Nodup → q ∈ L → On L A → Pk q L A c → tot (L.erase q) c + L.length ≤ A.length + 1 := by
  intro n
  induction n with
  | zero =>
    intro q L A c hn hL hq hO h
    have hA : A = [] := List.eq_nil_of_length_eq_zero hn
    subst hA
    by_cases k : ∃ v ∈ L, v ≠ q
    · obtain ⟨v, v1, v2⟩ := k
      exact absurd h (pk_stuck (fun e he => by cases he) v1 v2)
    · have he : L.erase q = [] := by
        apply List.eq_nil_iff_forall_not_mem.2
        intro v hv
        rw [List.Nodup.mem_erase_iff hL] at hv
        exact k ⟨v, hv.2, hv.1⟩
      have := List.length_erase_of_mem hq
      rw [he] at this ⊢
      have hp := List.length_pos_of_mem hq
      show 0 + L.length ≤ 0 + 1
      simp only [List.length_nil] at this
      omega
  | succ n ih =>
    intro q L A c hn hL hq hO h
    by_cases k : ∃ v ∈ L, v ≠ q
    · obtain ⟨v, v1, v2⟩ := k
      obtain ⟨b, B, hb, hbq, hp⟩ := pk_edge hO h v1 v2
      have hlen : B.length = n := by
        rcases hp with hp | hp
        · have := hp.length_eq; rw [hn] at this; exact (Nat.succ.inj this).symm
        · have := hp.length_eq; rw [hn] at this; exact (Nat.succ.inj this).symm
      have h' : Pk q L ((q, b) :: B) c := hp.elim (fun hp => (pk_perm hp).1 h) fun hp => pk_flip ((pk_perm hp).1 h)
      have hOB : On L B := fun e he => by
        rcases hp with hp | hp
        · exact hO e (hp.mem_iff.2 (List.mem_cons_of_mem _ he))
        · exact hO e (hp.mem_iff.2 (List.mem_cons_of_mem _ he))
      have hbe : b ∈ L.erase q := (List.Nodup.mem_erase_iff hL).2 ⟨hbq, hb⟩
      have ht := tot_erase (c := c) hbe
      rw [hn]
      cases hc : c b with
      | zero =>
        have h2 := (pk_zero hL hb (fun g => hbq g.symm) hc).1 h'
        have hq' : q ∈ L.erase b := (List.Nodup.mem_erase_iff hL).2 ⟨fun g => hbq g.symm, hq⟩
        have := ih (by unfold rnE; rw [List.length_map]; exact hlen) (hL.erase b) hq' (hOB.rn hL hq (fun g => hbq g.symm)) h2
        rw [List.erase_comm, List.length_erase_of_mem hb] at this
        unfold rnE at this
        rw [List.length_map, hlen] at this
        have := List.length_pos_of_mem hb
        rw [hc] at ht
        omega
      | succ x =>
        have hcu : c = upd c b (x + 1) := by
          funext w
          unfold upd
          split
          · next g => rw [g, hc]
          · rfl
        rw [hcu] at h'
        have h2 := pk_succ.1 h'
        have := ih hlen hL hq hOB h2
        have ht2 := tot_erase (c := upd c b x) hbe
        have hsame : tot ((L.erase q).erase b) (upd c b x) = tot ((L.erase q).erase b) c := tot_congr fun w hw => by
          rw [List.Nodup.mem_erase_iff (hL.erase q)] at hw
          unfold upd
          rw [if_neg hw.1]
        have hub : upd c b x b = x := by unfold upd; rw [if_pos rfl]
        rw [hsame, hub] at ht2
        rw [hlen] at this
        rw [hc] at ht
        omega
    · have he : L.erase q = [] := by
        apply List.eq_nil_iff_forall_not_mem.2
        intro v hv
        rw [List.Nodup.mem_erase_iff hL] at hv
        exact k ⟨v, hv.2, hv.1⟩
      have := List.length_erase_of_mem hq
      rw [he] at this ⊢
      have hp := List.length_pos_of_mem hq
      show 0 + L.length ≤ A.length + 1
      simp only [List.length_nil] at this
      omega
end Go.Proofs.YtafgbjhojkgbjaaGreatDoor.D.Tq
namespace Go.Proofs.YtafgbjhojkgbjaaGreatDoor.D.Tq
open Go Go.Den
set_option linter.unusedVariables false
def si : Nat → (Nat → Int) → Int
  | 0, _ => 0
  | n + 1, f => si n f + f n
theorem si_congr : ∀ {n : Nat} {f g : Nat → Int}, (∀ i, i < n → f i = g i) → si n f = si n g
  | 0, _, _, _ => rfl
  | n + 1, f, g, h => by
    show si n f + f n = si n g + g n
    rw [si_congr fun i hi => h i (by omega), h n (by omega)]
theorem si_zero : ∀ n : Nat, si n (fun _ => 0) = 0
  | 0 => rfl
  | n + 1 => by show si n _ + 0 = 0; rw [si_zero n]; rfl
theorem si_add : ∀ (n : Nat) (f g : Nat → Int), si n (fun i => f i + g i) = si n f + si n g
  | 0, _, _ => rfl
  | n + 1, f, g => by
    show si n _ + (f n + g n) = si n f + f n + (si n g + g n)
    rw [si_add n f g]; omega
theorem si_comm : ∀ (a b : Nat) (f : Nat → Nat → Int), si a (fun i => si b (f i)) = si b fun j => si a fun i => f i j
  | 0, b, f => (si_zero b).symm
  | a + 1, b, f => by
    show si a _ + si b (f a) = si b fun j => si a (fun i => f i j) + f a j
    rw [si_comm a b f, si_add]
theorem si_first : ∀ (n : Nat) (f : Nat → Int), si (n + 1) f = f 0 + si n fun i => f (i + 1)
  | 0, f => by show 0 + f 0 = f 0 + 0; omega
  | n + 1, f => by
    show si (n + 1) f + f (n + 1) = f 0 + (si n (fun i => f (i + 1)) + f (n + 1))
    rw [si_first n f]; omega
/-- a sum over all that the vertices may bear below B -/
def fs (B : Nat) : List Nat → ((Nat → Nat) → Int) → Int
  | [], F => F fun _ => 0
  | v :: L, F => si B fun i => fs B L fun c => F (upd c v i)
theorem fs_congr {B : Nat} : ∀ {L : List Nat} {F G : (Nat → Nat) → Int}, (∀ c, F c = G c) → fs B L F = fs B L G
  | [], F, G, h => h _
  | v :: L, F, G, h => si_congr fun i _ => fs_congr fun c => h _
theorem fs_zero {B : Nat} : ∀ {L : List Nat}, fs B L (fun _ => 0) = 0
  | [] => rfl
  | v :: L => (si_congr fun i _ => fs_zero).trans (si_zero B)
theorem upd_comm {c : Nat → Nat} {u v i j : Nat} (h : u ≠ v) : upd (upd c v j) u i = upd (upd c u i) v j := by
  funext w
  unfold upd
  by_cases a : w = u
  · subst a; rw [if_pos rfl, if_neg h, if_pos rfl]
  · rw [if_neg a]
    by_cases b : w = v
    · rw [if_pos b, if_pos b]
    · rw [if_neg b, if_neg b, if_neg a]
theorem fs_perm {B : Nat} {L M : List Nat} (h : L.Perm M) : L.Nodup → ∀ {F : (Nat → Nat) → Int}, fs B L F = fs B M F := by
  induction h with
  | nil => intro _ F; rfl
  | cons x _ ih => intro hn F; exact si_congr fun i _ => ih (List.nodup_cons.1 hn).2
  | swap x y E =>
    intro hn F
    have hxy : y ≠ x := fun k => (List.nodup_cons.1 hn).1 (by rw [k]; exact List.mem_cons_self)
    show si B (fun i => si B fun j => fs B E fun c => F (upd (upd c x j) y i)) = si B fun j => si B fun i => fs B E fun c => F (upd (upd c y i) x j)
    rw [si_comm]
    refine si_congr fun j _ => si_congr fun i _ => fs_congr fun c => ?_
    rw [upd_comm hxy]
  | trans h1 _ i1 i2 => intro hn F; rw [i1 hn, i2 (h1.nodup_iff.1 hn)]
theorem pk_congr {q : Nat} {L : List Nat} {A : Eds} {c d : Nat → Nat} (hcd : ∀ v ∈ L, v ≠ q → c v = d v) (h : Pk q L A c) : Pk q L A d := fun S h1 h2 => by
  obtain ⟨v, v1, v2, v3⟩ := h S h1 h2
  refine ⟨v, v1, v2, ?_⟩
  rw [← hcd v v1 fun k => h1 (by rw [← k]; exact v2)]
  exact v3
open Classical in
noncomputable def wt (y : Int) (q : Nat) (L : List Nat) (A : Eds) (c : Nat → Nat) : Int := if Pk q L A c then y ^ (A.length + 1 - L.length - tot (L.erase q) c) else 0
theorem wt_t {y : Int} {q : Nat} {L : List Nat} {A : Eds} {c : Nat → Nat} (h : Pk q L A c) : wt y q L A c = y ^ (A.length + 1 - L.length - tot (L.erase q) c) := if_pos h
theorem wt_f {y : Int} {q : Nat} {L : List Nat} {A : Eds} {c : Nat → Nat} (h : ¬ Pk q L A c) : wt y q L A c = 0 := if_neg h
noncomputable def LL (y : Int) (q : Nat) (L : List Nat) (B : Nat) (A : Eds) : Int := fs B (L.erase q) (wt y q L A)
theorem LL_edge {y : Int} {q b : Nat} {L : List Nat} {B : Nat} {A : Eds} (hL : L.Nodup) (hq : q ∈ L) (hb : b ∈ L) (hbq : b ≠ q) (hO : On L A) (hB : A.length ≤ B) : LL y q L (B + 1) ((q, b) :: A) = LL y q L (B + 1) A + LL y q (L.erase b) (B + 1) (rnE q b A) := by
  have hbe : b ∈ L.erase q := (List.Nodup.mem_erase_iff hL).2 ⟨hbq, hb⟩
  have hp := List.perm_cons_erase hbe
  have hM : (L.erase b).erase q = (L.erase q).erase b := List.erase_comm _ _
  have hbM : ∀ w ∈ (L.erase q).erase b, w ≠ b := fun w hw => ((List.Nodup.mem_erase_iff (hL.erase q)).1 hw).1
  have htot : ∀ (c : Nat → Nat) (i : Nat), tot (L.erase q) (upd c b i) = i + tot ((L.erase q).erase b) c := fun c i => by
    rw [tot_erase hbe, tot_congr (c := upd c b i) (d := c) fun w hw => by unfold upd; rw [if_neg (hbM w hw)]]
    congr 1
    unfold upd; rw [if_pos rfl]
  unfold LL
  rw [fs_perm hp (hL.erase q), fs_perm (F := wt y q L A) hp (hL.erase q), hM]
  show si (B + 1) (fun i => fs (B + 1) ((L.erase q).erase b) fun c => wt y q L ((q, b) :: A) (upd c b i)) = si (B + 1) (fun i => fs (B + 1) ((L.erase q).erase b) fun c => wt y q L A (upd c b i)) + _
  rw [si_first]
  have z : fs (B + 1) ((L.erase q).erase b) (fun c => wt y q L A (upd c b B)) = 0 := by
    refine (fs_congr fun c => ?_).trans fs_zero
    refine wt_f fun k => ?_
    have := pk_lt k hb hbq
    unfold upd at this
    rw [if_pos rfl] at this
    omega
  show _ = si B _ + fs (B + 1) ((L.erase q).erase b) (fun c => wt y q L A (upd c b B)) + _
  rw [z, Int.add_zero, Int.add_comm]
  congr 1
  · refine si_congr fun i _ => fs_congr fun c => ?_
    by_cases k : Pk q L A (upd c b i)
    · have h1 := pk_tot A.length rfl hL hq hO k
      rw [wt_t k, wt_t (pk_succ.2 k), htot, htot]
      rw [htot] at h1
      congr 1
      show A.length + 1 + 1 - L.length - (i + 1 + _) = _
      omega
    · rw [wt_f k, wt_f fun g => k (pk_succ.1 g)]
  · refine fs_congr fun c => ?_
    have hu : upd c b 0 b = 0 := by unfold upd; rw [if_pos rfl]
    have hz := pk_zero (A := A) hL hb (fun g => hbq g.symm) hu
    have hcong : ∀ v ∈ L.erase b, v ≠ q → upd c b 0 v = c v := fun v hv _ => by
      unfold upd; rw [if_neg ((List.Nodup.mem_erase_iff hL).1 hv).1]
    have hlen : 0 < L.length := List.length_pos_of_mem hb
    by_cases k : Pk q L ((q, b) :: A) (upd c b 0)
    · rw [wt_t k, wt_t (pk_congr hcong (hz.1 k)), htot, List.length_erase_of_mem hb, hM]
      unfold rnE
      rw [List.length_map]
      congr 1
      show A.length + 1 + 1 - L.length - (0 + _) = _
      omega
    · rw [wt_f k, wt_f fun g => k (hz.2 (pk_congr (fun v hv hvq => (hcong v hv hvq).symm) g))]
theorem LL_perm {y : Int} {q : Nat} {L : List Nat} {B : Nat} {A A' : Eds} (h : A.Perm A') : LL y q L B A = LL y q L B A' := by
  unfold LL
  refine fs_congr fun c => ?_
  by_cases k : Pk q L A c
  · rw [wt_t k, wt_t ((pk_perm h).1 k), h.length_eq]
  · rw [wt_f k, wt_f fun g => k ((pk_perm h).2 g)]
theorem LL_flip {y : Int} {q : Nat} {L : List Nat} {B : Nat} {A : Eds} {a b : Nat} : LL y q L B ((a, b) :: A) = LL y q L B ((b, a) :: A) := by
  unfold LL
  refine fs_congr fun c => ?_
  by_cases k : Pk q L ((a, b) :: A) c
  · rw [wt_t k, wt_t (pk_flip k)]; rfl
  · rw [wt_f k, wt_f fun g => k (pk_flip g)]
theorem zz_loops {y : Int} {q : Nat} : ∀ A : Eds, On [q] A → zz y (In [q]) 1 A = y ^ A.length
  | [], _ => zz_nil.trans (Int.pow_zero _).symm
  | (a, b) :: A, h => by
    obtain ⟨h1, h2⟩ := h (a, b) List.mem_cons_self
    have h1 : a = q := List.mem_singleton.1 h1
    have h2 : b = q := List.mem_singleton.1 h2
    subst h1
    subst h2
    have := zz_loop (y := y) (L := [b]) (List.nodup_cons.2 ⟨List.not_mem_nil, List.nodup_nil⟩) (a := b) h.tail
    rw [show zz y (In [b]) 1 ((b, b) :: A) = y * zz y (In [b]) 1 A from this, zz_loops A h.tail]
    show _ = y ^ (A.length + 1)
    rw [Int.pow_succ, Int.mul_comm]
/-- Merino's theorem -/
theorem merino {y : Int} : ∀ (n : Nat) {q : Nat} {L : List Nat} {A : Eds} {B : Nat}, A.length = n → n ≤ B → L.Nodup → q ∈ L → On L A → LL y q L (B + 1) A = zz y (In L) L.length A := by
  intro n
  induction n with
  | zero =>
    intro q L A B hn hB hL hq hO
    have hA : A = [] := List.eq_nil_of_length_eq_zero hn
    subst hA
    by_cases k : ∃ v ∈ L, v ≠ q
    · obtain ⟨v, v1, v2⟩ := k
      rw [zz_none fun c => by
        obtain ⟨e, he, _⟩ := c (fun w => w = q) ⟨q, hq, rfl⟩ ⟨v, v1, v2⟩
        cases he]
      unfold LL
      exact (fs_congr fun c => wt_f (pk_stuck (fun e he => by cases he) v1 v2)).trans fs_zero
    · obtain rfl : L = [q] := by
        match L, hL, hq, k with
        | [a], _, hq, _ => rw [List.mem_singleton.1 hq]
        | a :: b :: M, hL, hq, k =>
          have hab : a ≠ b := fun g => (List.nodup_cons.1 hL).1 (by rw [g]; exact List.mem_cons_self)
          refine absurd ?_ k
          by_cases g : a = q
          · exact ⟨b, List.mem_cons_of_mem _ List.mem_cons_self, fun c => hab (g.trans c.symm)⟩
          · exact ⟨a, List.mem_cons_self, g⟩
      show LL y q [q] (B + 1) [] = zz y (In [q]) 1 []
      rw [zz_nil]
      unfold LL
      rw [show [q].erase q = [] by simp]
      show wt y q [q] [] (fun _ => 0) = 1
      rw [wt_t fun S h1 ⟨v, v1, v2⟩ => absurd (by rw [← List.mem_singleton.1 v1]; exact v2) h1]
      show y ^ (0 + 1 - 1 - _) = 1
      rw [show (0 + 1 - 1 - tot ([q].erase q) fun _ => 0) = 0 by omega]
      exact Int.pow_zero _
  | succ n ih =>
    intro q L A B hn hB hL hq hO
    by_cases k : ∃ v ∈ L, v ≠ q
    · obtain ⟨v, v1, v2⟩ := k
      by_cases he : ∃ e ∈ A, ¬ (e.1 = q ↔ e.2 = q)
      · obtain ⟨b, C, hb, hbq, h1, h2, hp⟩ : ∃ b C, b ∈ L ∧ b ≠ q ∧ LL y q L (B + 1) A = LL y q L (B + 1) ((q, b) :: C) ∧ zz y (In L) L.length A = zz y (In L) L.length ((q, b) :: C) ∧ (A.Perm ((q, b) :: C) ∨ A.Perm ((b, q) :: C)) := by
          obtain ⟨e, he, hn⟩ := he
          obtain ⟨o1, o2⟩ := hO e he
          have hp := List.perm_cons_erase he
          by_cases c1 : e.1 = q
          · have c2 : e.2 ≠ q := fun g => hn ⟨fun _ => g, fun _ => c1⟩
            have hp' : A.Perm ((q, e.2) :: A.erase e) := by rw [← c1]; exact hp
            exact ⟨e.2, A.erase e, o2, c2, LL_perm hp', zz_perm hp', .inl hp'⟩
          · have c2 : e.2 = q := Classical.byContradiction fun g => hn ⟨fun a => absurd a c1, fun a => absurd a g⟩
            have hp' : A.Perm ((e.1, q) :: A.erase e) := by rw [← c2]; exact hp
            exact ⟨e.1, A.erase e, o1, c1, (LL_perm hp').trans LL_flip, (zz_perm hp').trans zz_flip, .inr hp'⟩
        have hlen : C.length = n := by
          rcases hp with hp | hp
          · have := hp.length_eq; rw [hn] at this; exact (Nat.succ.inj this).symm
          · have := hp.length_eq; rw [hn] at this; exact (Nat.succ.inj this).symm
        have hOC : On L C := fun e he => by
          rcases hp with hp | hp
          · exact hO e (hp.mem_iff.2 (List.mem_cons_of_mem _ he))
          · exact hO e (hp.mem_iff.2 (List.mem_cons_of_mem _ he))
        have hqb : q ≠ b := fun g => hbq g.symm
        rw [h1, h2, LL_edge hL hq hb hbq hOC (by omega), zz_edge hL hq hb hqb, ih hlen (by omega) hL hq hOC]
        congr 1
        exact ih (by unfold rnE; rw [List.length_map]; exact hlen) (by omega) (hL.erase b) ((List.Nodup.mem_erase_iff hL).2 ⟨hqb, hq⟩) (hOC.rn hL hq hqb)
      · have hall : ∀ e ∈ A, (e.1 = q ↔ e.2 = q) := fun e h => Classical.byContradiction fun g => he ⟨e, h, g⟩
        rw [zz_none fun c => by
          obtain ⟨e, h, g⟩ := c (fun w => w = q) ⟨q, hq, rfl⟩ ⟨v, v1, v2⟩
          exact g (hall e h)]
        unfold LL
        exact (fs_congr fun c => wt_f (pk_stuck hall v1 v2)).trans fs_zero
    · obtain rfl : L = [q] := by
        match L, hL, hq, k with
        | [a], _, hq, _ => rw [List.mem_singleton.1 hq]
        | a :: b :: M, hL, hq, k =>
          have hab : a ≠ b := fun g => (List.nodup_cons.1 hL).1 (by rw [g]; exact List.mem_cons_self)
          refine absurd ?_ k
          by_cases g : a = q
          · exact ⟨b, List.mem_cons_of_mem _ List.mem_cons_self, fun c => hab (g.trans c.symm)⟩
          · exact ⟨a, List.mem_cons_self, g⟩
      show LL y q [q] (B + 1) A = zz y (In [q]) 1 A
      rw [zz_loops A hO]
      unfold LL
      rw [show [q].erase q = [] by simp]
      show wt y q [q] A (fun _ => 0) = _
      rw [wt_t fun S h1 ⟨v, v1, v2⟩ => absurd (by rw [← List.mem_singleton.1 v1]; exact v2) h1]
      show y ^ (A.length + 1 - 1 - _) = _
      rw [show [q].erase q = [] by simp]
      rfl
end Go.Proofs.YtafgbjhojkgbjaaGreatDoor.D.Tq
namespace Go.Proofs.YtafgbjhojkgbjaaGreatDoor.D.Tq
open Go Go.Den
set_option linter.unusedVariables false
/-- all lists below these bounds, in order -/
def cs : List Nat → List (List Nat)
  | [] => [[]]
  | m :: ms => (List.range m).flatMap fun i => (cs ms).map fun d => i :: d
theorem cs_snoc : ∀ (ms : List Nat) (m : Nat), cs (ms ++ [m]) = (cs ms).flatMap fun d => (List.range m).map fun i => d ++ [i]
  | [], m => by
    show (List.range m).flatMap (fun i => [[i]]) = [[]].flatMap _
    simp only [List.flatMap_cons, List.flatMap_nil, List.append_nil, List.nil_append]
    induction List.range m with
    | nil => rfl
    | cons a l ih => simp [ih]
  | k :: ms, m => by
    show (List.range k).flatMap (fun i => (cs (ms ++ [m])).map fun d => i :: d) = ((List.range k).flatMap fun i => (cs ms).map fun d => i :: d).flatMap _
    rw [List.flatMap_assoc]
    congr 1
    funext i
    rw [cs_snoc ms m, List.map_flatMap, List.flatMap_map]
    congr 1
    funext d
    rw [List.map_map]
    rfl
theorem cs_mem : ∀ {ms : List Nat} {d : List Nat}, d ∈ cs ms ↔ d.length = ms.length ∧ ∀ i, i < ms.length → d.getD i 0 < ms.getD i 0
  | [], d => by
    constructor
    · intro h
      rw [List.mem_singleton.1 h]
      exact ⟨rfl, fun i hi => absurd hi (Nat.not_lt_zero _)⟩
    · rintro ⟨h, _⟩
      exact List.mem_singleton.2 (List.eq_nil_of_length_eq_zero h)
  | m :: ms, d => by
    constructor
    · intro h
      obtain ⟨i, hi, h⟩ := List.mem_flatMap.1 h
      obtain ⟨e, he, rfl⟩ := List.mem_map.1 h
      obtain ⟨h1, h2⟩ := cs_mem.1 he
      refine ⟨by simp [h1], fun j hj => ?_⟩
      cases j with
      | zero => exact List.mem_range.1 hi
      | succ j => exact h2 j (by simpa using hj)
    · rintro ⟨h1, h2⟩
      cases d with
      | nil => cases h1
      | cons i e =>
        refine List.mem_flatMap.2 ⟨i, List.mem_range.2 (h2 0 (by simp)), List.mem_map.2 ⟨e, cs_mem.2 ⟨by simpa using h1, fun j hj => h2 (j + 1) (by simpa using hj)⟩, rfl⟩⟩
/-- a sum over a list -/
def sl {α : Type} (l : List α) (F : α → Int) : Int := l.foldr (fun a s => F a + s) 0
theorem sl_cons {α : Type} (a : α) (l : List α) (F : α → Int) : sl (a :: l) F = F a + sl l F := rfl
theorem sl_app {α : Type} {F : α → Int} : ∀ (l m : List α), sl (l ++ m) F = sl l F + sl m F
  | [], m => (Int.zero_add _).symm
  | a :: l, m => by
    show F a + sl (l ++ m) F = F a + sl l F + sl m F
    rw [sl_app l m, Int.add_assoc]
theorem sl_map {α β : Type} {F : β → Int} {f : α → β} : ∀ (l : List α), sl (l.map f) F = sl l fun a => F (f a)
  | [] => rfl
  | a :: l => by
    show F (f a) + sl (l.map f) F = F (f a) + _
    rw [sl_map l]
    rfl
theorem sl_flat {α β : Type} {F : β → Int} {f : α → List β} : ∀ (l : List α), sl (l.flatMap f) F = sl l fun a => sl (f a) F
  | [] => rfl
  | a :: l => by
    rw [List.flatMap_cons, sl_app, sl_flat l]
    rfl
theorem sl_congr {α : Type} {F G : α → Int} : ∀ {l : List α}, (∀ a ∈ l, F a = G a) → sl l F = sl l G
  | [], _ => rfl
  | a :: l, h => by
    show F a + sl l F = G a + sl l G
    rw [h a List.mem_cons_self, sl_congr fun b hb => h b (List.mem_cons_of_mem _ hb)]
theorem sl_filter {α : Type} {F : α → Int} {p : α → Bool} : ∀ (l : List α), sl (l.filter p) F = sl l fun a => if p a = true then F a else 0
  | [] => rfl
  | a :: l => by
    rw [List.filter_cons]
    by_cases c : p a = true
    · rw [if_pos c, sl_cons, sl_cons, if_pos c, sl_filter l]
    · rw [if_neg c, sl_cons, if_neg c, sl_filter l, Int.zero_add]
theorem sl_range {F : Nat → Int} : ∀ n, sl (List.range n) F = si n F
  | 0 => rfl
  | n + 1 => by
    rw [List.range_succ, sl_app, sl_range n]
    show si n F + (F n + 0) = si n F + F n
    rw [Int.add_zero]
theorem sl_perm {α : Type} {F : α → Int} {l m : List α} (h : l.Perm m) : sl l F = sl m F := by
  induction h with
  | nil => rfl
  | cons a _ ih => rw [sl_cons, sl_cons, ih]
  | swap a b l => rw [sl_cons, sl_cons, sl_cons, sl_cons, ← Int.add_assoc, ← Int.add_assoc, Int.add_comm (F b)]
  | trans _ _ h1 h2 => exact h1.trans h2
/-- a list of numbers at these places -/
def ap : List Nat → List Nat → Nat → Nat
  | v :: L, i :: d => upd (ap L d) v i
  | _, _ => fun _ => 0
/-- a sum over all that the vertices may bear below their bounds -/
def fsm (m : Nat → Nat) : List Nat → ((Nat → Nat) → Int) → Int
  | [], F => F fun _ => 0
  | v :: L, F => si (m v) fun i => fsm m L fun c => F (upd c v i)
theorem sl_cs (m : Nat → Nat) : ∀ (L : List Nat) (F : (Nat → Nat) → Int), sl (cs (L.map m)) (fun d => F (ap L d)) = fsm m L F
  | [], F => by
    show F _ + 0 = F _
    rw [Int.add_zero]; rfl
  | v :: L, F => by
    show sl ((List.range (m v)).flatMap fun i => (cs (L.map m)).map fun d => i :: d) _ = si (m v) _
    rw [sl_flat, sl_range]
    refine si_congr fun i _ => ?_
    rw [sl_map]
    exact sl_cs m L fun c => F (upd c v i)
theorem si_cut {f : Nat → Int} {m : Nat} : ∀ {n : Nat}, m ≤ n → (∀ i, m ≤ i → i < n → f i = 0) → si n f = si m f
  | 0, h, _ => by rw [show m = 0 by omega]
  | n + 1, h, hz => by
    by_cases c : m = n + 1
    · rw [c]
    · show si n f + f n = si m f
      rw [hz n (by omega) (by omega), Int.add_zero]
      exact si_cut (by omega) fun i h1 h2 => hz i h1 (by omega)
theorem fsm_congr {m : Nat → Nat} : ∀ {L : List Nat} {F G : (Nat → Nat) → Int}, (∀ c, F c = G c) → fsm m L F = fsm m L G
  | [], F, G, h => h _
  | v :: L, F, G, h => si_congr fun i _ => fsm_congr fun c => h _
theorem fs_cut {m : Nat → Nat} {B : Nat} : ∀ {L : List Nat} {F : (Nat → Nat) → Int}, L.Nodup → (∀ v ∈ L, m v ≤ B) → (∀ c, (∃ v ∈ L, m v ≤ c v) → F c = 0) → fs B L F = fsm m L F
  | [], F, _, _, _ => rfl
  | v :: L, F, hn, hm, hF => by
    obtain ⟨n1, n2⟩ := List.nodup_cons.1 hn
    show si B (fun i => fs B L fun c => F (upd c v i)) = si (m v) fun i => fsm m L fun c => F (upd c v i)
    rw [si_cut (m := m v) (hm v List.mem_cons_self) fun i h1 h2 => (fs_congr fun c => hF _ ⟨v, List.mem_cons_self, by unfold upd; rw [if_pos rfl]; exact h1⟩).trans fs_zero]
    refine si_congr fun i _ => fs_cut n2 (fun w hw => hm w (List.mem_cons_of_mem _ hw)) fun c ⟨w, hw, k⟩ => hF _ ⟨w, List.mem_cons_of_mem _ hw, ?_⟩
    unfold upd
    rw [if_neg (fun q => n1 (by rw [← q]; exact hw))]
    exact k
/-- a place with but one number -/
theorem fsm_one {m : Nat → Nat} {q : Nat} (hq : m q = 1) : ∀ {L : List Nat} {F : (Nat → Nat) → Int}, L.Nodup → (∀ c i, F (upd c q i) = F c) → fsm m L F = fsm m (L.erase q) F
  | [], F, _, _ => rfl
  | v :: L, F, hn, hF => by
    obtain ⟨n1, n2⟩ := List.nodup_cons.1 hn
    by_cases c : v = q
    · subst c
      rw [List.erase_cons_head]
      show si (m v) (fun i => fsm m L fun c => F (upd c v i)) = fsm m L F
      rw [hq]
      show (0 : Int) + fsm m L _ = _
      rw [Int.zero_add]
      exact fsm_congr fun c => hF c 0
    · rw [List.erase_cons_tail (by simpa using c)]
      show si (m v) _ = si (m v) _
      refine si_congr fun i _ => fsm_one hq n2 fun d j => ?_
      rw [upd_comm c]
      exact hF _ j
theorem ap_get : ∀ {L d : List Nat} {v : Nat}, L.Nodup → L.length = d.length → ∀ {i}, L[i]? = some v → ap L d v = d.getD i 0
  | [], [], v, _, _, i, h => by cases h
  | [], _ :: _, v, _, h, i, _ => by cases h
  | _ :: _, [], v, _, h, i, _ => by cases h
  | u :: L, k :: d, v, hn, hl, i, h => by
    obtain ⟨n1, n2⟩ := List.nodup_cons.1 hn
    cases i with
    | zero =>
      simp only [List.getElem?_cons_zero, Option.some.injEq] at h
      subst h
      show upd (ap L d) u k u = _
      unfold upd
      rw [if_pos rfl]
      rfl
    | succ i =>
      simp only [List.getElem?_cons_succ] at h
      have hv : v ≠ u := fun c => n1 (by rw [← c]; exact List.mem_of_getElem? h)
      show upd (ap L d) u k v = _
      unfold upd
      rw [if_neg hv, ap_get n2 (by simpa using hl) h]
      rfl
theorem ap_range {n : Nat} {d : List Nat} (h : d.length = n) {v : Nat} (hv : v < n) : ap (List.range n) d v = d.getD v 0 :=
  ap_get List.nodup_range (by simp [h]) (by simp [hv])
/-- numbers below 1000 are told by their sum -/
theorem digits : ∀ (n : Nat) {a b : Nat → Int}, (∀ i, i < n → 0 ≤ a i ∧ a i < 1000) → (∀ i, i < n → 0 ≤ b i ∧ b i < 1000) → si n (fun i => a i * 1000 ^ i) = si n (fun i => b i * 1000 ^ i) → ∀ i, i < n → a i = b i
  | 0, a, b, _, _, _, i, hi => absurd hi (Nat.not_lt_zero _)
  | n + 1, a, b, ha, hb, h, i, hi => by
    rw [si_first, si_first] at h
    have e : ∀ c : Nat → Int, si n (fun i => c (i + 1) * 1000 ^ (i + 1)) = 1000 * si n fun i => c (i + 1) * 1000 ^ i := fun c => by
      have : ∀ (k : Int) (m : Nat) (f : Nat → Int), si m (fun i => k * f i) = k * si m f := fun k m f => by
        induction m with
        | zero => exact (Int.mul_zero k).symm
        | succ m ih =>
          show si m _ + k * f m = k * (si m f + f m)
          rw [ih, Int.mul_add]
      rw [← this]
      refine si_congr fun i _ => ?_
      rw [Int.pow_succ, Int.mul_comm (1000 ^ i) 1000, Int.mul_left_comm]
    rw [e a, e b, Int.pow_zero, Int.mul_one, Int.mul_one] at h
    obtain ⟨a1, a2⟩ := ha 0 (by omega)
    obtain ⟨b1, b2⟩ := hb 0 (by omega)
    have h0 : a 0 = b 0 := by omega
    cases i with
    | zero => exact h0
    | succ i => exact digits n (a := fun i => a (i + 1)) (b := fun i => b (i + 1)) (fun i hi => ha (i + 1) (by omega)) (fun i hi => hb (i + 1) (by omega)) (by omega) i (by omega)
end Go.Proofs.YtafgbjhojkgbjaaGreatDoor.D.Tq
namespace Go.Proofs.YtafgbjhojkgbjaaGreatDoor.D.Tq
open Go Go.Den
set_option linter.unusedVariables false
def sq (T : List Int) (i j : Nat) : Int := T.getD (16 * i + j) 0
theorem sq_add (S T : List Int) (x y : Nat) {i j : Nat} (hi : i < 16) (hj : j < 16) : sq (Lb.addT S T x y) i j = sq S i j + if x ≤ i ∧ y ≤ j then sq T (i - x) (j - y) else 0 := by
  unfold sq Lb.addT
  rw [List.getD_eq_getElem?_getD, List.getElem?_map, List.getElem?_range (by omega)]
  simp only [Option.map_some, Option.getD_some]
  have h1 : (16 * i + j) / 16 = i := by omega
  have h2 : (16 * i + j) % 16 = j := by omega
  rw [h1, h2]
  have h3 : (i - x) * 16 + (j - y) = 16 * (i - x) + (j - y) := by omega
  rw [h3]
theorem sq_zero (i j : Nat) : sq Lb.sq0 i j = 0 := by
  unfold sq Lb.sq0
  rw [List.getD_eq_getElem?_getD, List.getElem?_replicate]
  split <;> rfl
theorem sq_one {i j : Nat} (hi : i < 16) (hj : j < 16) : sq Lb.sq1 i j = if i = 0 ∧ j = 0 then 1 else 0 := by
  unfold sq Lb.sq1
  rw [List.getD_eq_getElem?_getD, List.getElem?_set]
  by_cases c : i = 0 ∧ j = 0
  · rw [if_pos c, if_pos (by omega), if_pos (by unfold Lb.sq0; rw [List.length_replicate]; omega)]; rfl
  · rw [if_neg c, if_neg (by omega), ← List.getD_eq_getElem?_getD]
    exact sq_zero i j
/-- the value at x and y -/
def ev2 (x y : Int) (T : List Int) : Int := si 16 fun i => si 16 fun j => sq T i j * (x ^ i * y ^ j)
theorem si_mul (c : Int) : ∀ (n : Nat) (f : Nat → Int), si n (fun i => c * f i) = c * si n f
  | 0, f => (Int.mul_zero c).symm
  | n + 1, f => by
    show si n _ + c * f n = c * (si n f + f n)
    rw [si_mul c n f, Int.mul_add]
/-- what stands in it: nothing far out, nothing below 0, nothing large -/
structure SqOk (T : List Int) (n : Nat) : Prop where
  far : ∀ i j, i < 16 → j < 16 → n < i + j → sq T i j = 0
  pos : ∀ i j, i < 16 → j < 16 → 0 ≤ sq T i j
  le : ∀ i j, i < 16 → j < 16 → sq T i j ≤ 2 ^ n
theorem SqOk.one : SqOk Lb.sq1 0 := ⟨fun i j hi hj h => by rw [sq_one hi hj, if_neg (by omega)], fun i j hi hj => by rw [sq_one hi hj]; split <;> omega, fun i j hi hj => by rw [sq_one hi hj]; split <;> simp⟩
theorem two_pos (n : Nat) : (0 : Int) < 2 ^ n := Int.pow_pos (by decide)
theorem SqOk.shift {T : List Int} {n x y : Nat} (h : SqOk T n) (hxy : x + y ≤ 1) : SqOk (Lb.addT Lb.sq0 T x y) (n + 1) := by
  refine ⟨fun i j hi hj hf => ?_, fun i j hi hj => ?_, fun i j hi hj => ?_⟩
  · rw [sq_add _ _ _ _ hi hj, sq_zero]
    split
    · rw [h.far _ _ (by omega) (by omega) (by omega)]; rfl
    · rfl
  · rw [sq_add _ _ _ _ hi hj, sq_zero]
    split
    · have := h.pos (i - x) (j - y) (by omega) (by omega); omega
    · omega
  · rw [sq_add _ _ _ _ hi hj, sq_zero, Int.pow_succ]
    have := two_pos n
    split
    · have := h.le (i - x) (j - y) (by omega) (by omega); omega
    · omega
theorem SqOk.plus {T U : List Int} {n : Nat} (h : SqOk T n) (k : SqOk U n) : SqOk (Lb.addT (Lb.addT Lb.sq0 T 0 0) U 0 0) (n + 1) := by
  have e : ∀ i j, i < 16 → j < 16 → sq (Lb.addT (Lb.addT Lb.sq0 T 0 0) U 0 0) i j = sq T i j + sq U i j := fun i j hi hj => by
    rw [sq_add _ _ _ _ hi hj, sq_add _ _ _ _ hi hj, sq_zero, if_pos ⟨Nat.zero_le _, Nat.zero_le _⟩, if_pos ⟨Nat.zero_le _, Nat.zero_le _⟩, Nat.sub_zero, Nat.sub_zero]; omega
  refine ⟨fun i j hi hj hf => ?_, fun i j hi hj => ?_, fun i j hi hj => ?_⟩
  · rw [e i j hi hj, h.far _ _ hi hj (by omega), k.far _ _ hi hj (by omega)]; rfl
  · rw [e i j hi hj]
    have := h.pos i j hi hj
    have := k.pos i j hi hj
    omega
  · rw [e i j hi hj, Int.pow_succ]
    have := h.le i j hi hj
    have := k.le i j hi hj
    omega
theorem ev_one (x y : Int) : ev2 x y Lb.sq1 = 1 := by
  unfold ev2
  rw [si_first, si_congr (f := fun i => si 16 fun j => sq Lb.sq1 (i + 1) j * (x ^ (i + 1) * y ^ j)) (g := fun _ => 0) (fun i hi => by
    refine (si_congr (g := fun _ => 0) fun j hj => ?_).trans (si_zero 16)
    show sq Lb.sq1 (i + 1) j * _ = 0
    rw [sq_one (by omega) hj, if_neg (by omega), Int.zero_mul]), si_zero, si_first, si_congr (f := fun j => sq Lb.sq1 0 (j + 1) * (x ^ 0 * y ^ (j + 1))) (g := fun _ => 0) (fun j hj => by
    show sq Lb.sq1 0 (j + 1) * _ = 0
    rw [sq_one (by omega) (by omega), if_neg (by omega), Int.zero_mul]), si_zero, sq_one (by omega) (by omega), if_pos ⟨rfl, rfl⟩]
  simp
theorem ev_plus {x y : Int} {T U : List Int} : ev2 x y (Lb.addT (Lb.addT Lb.sq0 T 0 0) U 0 0) = ev2 x y T + ev2 x y U := by
  unfold ev2
  rw [← si_add]
  refine si_congr fun i hi => ?_
  show si 16 _ = si 16 _ + si 16 _
  rw [← si_add]
  refine si_congr fun j hj => ?_
  show sq _ i j * _ = sq T i j * _ + sq U i j * _
  rw [sq_add _ _ _ _ hi hj, sq_add _ _ _ _ hi hj, sq_zero, if_pos ⟨Nat.zero_le _, Nat.zero_le _⟩, if_pos ⟨Nat.zero_le _, Nat.zero_le _⟩, Nat.sub_zero, Nat.sub_zero, Int.zero_add, Int.add_mul]
theorem ev_y {x y : Int} {T : List Int} {n : Nat} (h : SqOk T n) (hn : n ≤ 14) : ev2 x y (Lb.addT Lb.sq0 T 0 1) = y * ev2 x y T := by
  unfold ev2
  rw [← si_mul]
  refine si_congr fun i hi => ?_
  show si 16 _ = y * si 16 _
  have e : ∀ j, j < 15 → sq (Lb.addT Lb.sq0 T 0 1) i (j + 1) * (x ^ i * y ^ (j + 1)) = y * (sq T i j * (x ^ i * y ^ j)) := fun j hj => by
    rw [sq_add _ _ _ _ hi (by omega), sq_zero, if_pos ⟨Nat.zero_le _, by omega⟩, Nat.sub_zero, Nat.add_sub_cancel, Int.zero_add, Int.pow_succ]
    rw [show sq T i j * (x ^ i * (y ^ j * y)) = sq T i j * (x ^ i * y ^ j) * y by rw [Int.mul_assoc, Int.mul_assoc], Int.mul_comm]
  rw [← si_mul, si_first, si_congr e]
  show _ = si 15 _ + y * (sq T i 15 * _)
  rw [h.far i 15 hi (by omega) (by omega), sq_add _ _ _ _ hi (by omega), sq_zero, if_neg (by omega)]
  simp
theorem ev_x {x y : Int} {T : List Int} {n : Nat} (h : SqOk T n) (hn : n ≤ 14) : ev2 x y (Lb.addT Lb.sq0 T 1 0) = x * ev2 x y T := by
  unfold ev2
  have e : ∀ i, i < 15 → (si 16 fun j => sq (Lb.addT Lb.sq0 T 1 0) (i + 1) j * (x ^ (i + 1) * y ^ j)) = x * si 16 fun j => sq T i j * (x ^ i * y ^ j) := fun i hi => by
    rw [← si_mul]
    refine si_congr fun j hj => ?_
    rw [sq_add _ _ _ _ (by omega) hj, sq_zero, if_pos ⟨by omega, Nat.zero_le _⟩, Nat.sub_zero, Nat.add_sub_cancel, Int.zero_add, Int.pow_succ]
    rw [show sq T i j * (x ^ i * x * y ^ j) = x * (sq T i j * (x ^ i * y ^ j)) by
      rw [Int.mul_comm (x ^ i) x, Int.mul_assoc x, Int.mul_left_comm]]
  have h1 : (si 16 fun j => sq T 15 j * (x ^ 15 * y ^ j)) = 0 := (si_congr (g := fun _ => 0) fun j hj => by
    show sq T 15 j * _ = 0
    rw [h.far 15 j (by omega) hj (by omega), Int.zero_mul]).trans (si_zero 16)
  have h2 : (si 16 fun j => sq (Lb.addT Lb.sq0 T 1 0) 0 j * (x ^ 0 * y ^ j)) = 0 := (si_congr (g := fun _ => 0) fun j hj => by
    show sq (Lb.addT Lb.sq0 T 1 0) 0 j * _ = 0
    rw [sq_add _ _ _ _ (by omega) hj, sq_zero, if_neg (by omega)]; simp).trans (si_zero 16)
  rw [← si_mul, si_first, si_congr e]
  show _ = si 15 _ + x * si 16 fun j => sq T 15 j * _
  rw [h1, h2]
  simp
section
variable {jo : List (Int × Int) → Int → Int → Option Bool}
theorem tut_cons {n : Nat} {e : Int × Int} {r : List (Int × Int)} : Lb.tut jo (n + 1) (e :: r) = if e.1 = e.2 then (Lb.tut jo n r).bind fun T => some (Lb.addT Lb.sq0 T 0 1)
      else (jo r e.1 e.2).bind fun b => cond b ((Lb.tut jo n r).bind fun T => (Lb.tut jo n (Lb.mgE e.1 e.2 r)).bind fun U => some (Lb.addT (Lb.addT Lb.sq0 T 0 0) U 0 0))
        ((Lb.tut jo n (Lb.mgE e.1 e.2 r)).bind fun U => some (Lb.addT Lb.sq0 U 1 0)) := rfl
theorem mgE_len (a b : Int) (r : List (Int × Int)) : (Lb.mgE a b r).length = r.length := by unfold Lb.mgE; rw [List.length_map]
/-- the numbers of the polynomial, and its value at (2, 2) -/
theorem tut_ok : ∀ (n : Nat) {E : List (Int × Int)} {T : List Int}, E.length = n → n ≤ 14 → Lb.tut jo n E = some T → SqOk T n ∧ ev2 2 2 T = 2 ^ n
  | 0, [], T, _, _, h => by cases h; exact ⟨SqOk.one, ev_one 2 2⟩
  | n + 1, [], T, hl, _, h => by cases hl
  | 0, _ :: _, T, hl, _, h => by cases hl
  | n + 1, e :: r, T, hl, hn, h => by
    have hr : r.length = n := Nat.succ.inj hl
    have hm : (Lb.mgE e.1 e.2 r).length = n := by rw [mgE_len]; exact hr
    rw [tut_cons] at h
    split at h
    · obtain ⟨U, h1, h2⟩ := Option.bind_eq_some_iff.1 h
      cases h2
      obtain ⟨k1, k2⟩ := tut_ok n hr (by omega) h1
      exact ⟨k1.shift (by omega), by rw [ev_y k1 (by omega), k2, Int.pow_succ]; omega⟩
    · obtain ⟨b, _, h⟩ := Option.bind_eq_some_iff.1 h
      cases b with
      | true =>
        obtain ⟨U, h1, h⟩ := Option.bind_eq_some_iff.1 h
        obtain ⟨V, h2, h3⟩ := Option.bind_eq_some_iff.1 h
        cases h3
        obtain ⟨k1, k2⟩ := tut_ok n hr (by omega) h1
        obtain ⟨k3, k4⟩ := tut_ok n hm (by omega) h2
        exact ⟨k1.plus k3, by rw [ev_plus, k2, k4, Int.pow_succ]; omega⟩
      | false =>
        obtain ⟨U, h1, h2⟩ := Option.bind_eq_some_iff.1 h
        cases h2
        obtain ⟨k1, k2⟩ := tut_ok n hm (by omega) h1
        exact ⟨k1.shift (by omega), by rw [ev_x k1 (by omega), k2, Int.pow_succ]; omega⟩
/-- the edges join two vertices -/
def Jn (E : Eds) (a b : Nat) : Prop := ∀ S : Nat → Prop, (∀ e ∈ E, (S e.1 ↔ S e.2)) → S a → S b
def nE (E : List (Int × Int)) : Eds := E.map fun e => (e.1.toNat, e.2.toNat)
def NN (E : List (Int × Int)) : Prop := ∀ e ∈ E, (0 ≤ e.1 ∧ e.1 ≤ 5) ∧ 0 ≤ e.2 ∧ e.2 ≤ 5
theorem nE_mg {a b : Int} (ha : 0 ≤ a) (hb : 0 ≤ b) : ∀ {r : List (Int × Int)}, NN r → nE (Lb.mgE a b r) = rnE a.toNat b.toNat (nE r) := fun {r} h => by
  unfold nE Lb.mgE rnE
  rw [List.map_map, List.map_map]
  refine List.map_congr_left fun e he => ?_
  obtain ⟨h1, h2⟩ := h e he
  show ((if e.1 = b then a else e.1).toNat, (if e.2 = b then a else e.2).toNat) = (rn a.toNat b.toNat e.1.toNat, rn a.toNat b.toNat e.2.toNat)
  unfold rn
  congr 1
  · by_cases c : e.1 = b
    · rw [if_pos c, if_pos (by omega)]
    · rw [if_neg c, if_neg (by omega)]
  · by_cases c : e.2 = b
    · rw [if_pos c, if_pos (by omega)]
    · rw [if_neg c, if_neg (by omega)]
theorem mg_nn {a b : Int} (ha : 0 ≤ a ∧ a ≤ 5) {r : List (Int × Int)} (h : NN r) : NN (Lb.mgE a b r) := fun e he => by
  obtain ⟨d, hd, rfl⟩ := List.mem_map.1 he
  obtain ⟨h1, h2⟩ := h d hd
  refine ⟨?_, ?_⟩
  · show 0 ≤ (if d.1 = b then a else d.1) ∧ (if d.1 = b then a else d.1) ≤ 5
    split <;> assumption
  · show 0 ≤ (if d.2 = b then a else d.2) ∧ (if d.2 = b then a else d.2) ≤ 5
    split <;> assumption
/-- at x = 1 -/
theorem tut_one {y : Int} (hjo : ∀ r a b v, r.length ≤ 14 → NN r → (0 ≤ a ∧ a ≤ 5) → (0 ≤ b ∧ b ≤ 5) → jo r a b = some v → (v = true ↔ Jn (nE r) a.toNat b.toNat)) : ∀ (n : Nat) {E : List (Int × Int)} {T : List Int} {L : List Nat}, E.length = n → n ≤ 14 → NN E → L.Nodup → 0 < L.length → On L (nE E) → Cn (In L) (nE E) → Lb.tut jo n E = some T → ev2 1 y T = zz y (In L) L.length (nE E)
  | 0, [], T, L, _, _, _, hL, h0, hO, hC, h => by
    cases h
    rw [ev_one]
    have := Cn.size 0 (A := nE []) rfl hL hO hC
    match L, h0, this with
    | [v], _, _ => exact zz_nil.symm
    | _ :: _ :: _, _, k => simp [nE] at k
  | n + 1, [], T, L, hl, _, _, _, _, _, _, h => by cases hl
  | 0, _ :: _, T, L, hl, _, _, _, _, _, _, h => by cases hl
  | n + 1, e :: r, T, L, hl, hn, hN, hL, h0, hO, hC, h => by
    have hr : r.length = n := Nat.succ.inj hl
    have hm : (Lb.mgE e.1 e.2 r).length = n := by rw [mgE_len]; exact hr
    have hNr : NN r := fun d hd => hN d (List.mem_cons_of_mem _ hd)
    obtain ⟨p1, p2⟩ := hN e List.mem_cons_self
    have hcons : nE (e :: r) = (e.1.toNat, e.2.toNat) :: nE r := rfl
    rw [hcons] at hO hC ⊢
    have hOr := hO.tail
    obtain ⟨o1, o2⟩ := hO _ List.mem_cons_self
    rw [tut_cons] at h
    split at h
    · rename_i c
      obtain ⟨U, h1, h2⟩ := Option.bind_eq_some_iff.1 h
      cases h2
      rw [← c] at hC o2 ⊢
      have k1 := (tut_ok n hr (by omega) h1).1
      rw [ev_y k1 (by omega), zz_loop hL hOr, tut_one hjo n hr (by omega) hNr hL h0 hOr (Cn.loop.1 hC) h1]
    · rename_i c
      have hab : e.1.toNat ≠ e.2.toNat := by omega
      have hCm := (Cn.merge' hL o1 o2 hab).1 hC
      have hm0 : 0 < (L.erase e.2.toNat).length := by
        have : e.1.toNat ∈ L.erase e.2.toNat := (List.Nodup.mem_erase_iff hL).2 ⟨hab, o1⟩
        exact List.length_pos_of_mem this
      have IHm : ∀ U, Lb.tut jo n (Lb.mgE e.1 e.2 r) = some U → ev2 1 y U = zz y (In (L.erase e.2.toNat)) (L.erase e.2.toNat).length (rnE e.1.toNat e.2.toNat (nE r)) := fun U h1 => by
        rw [← nE_mg p1.1 p2.1 hNr]
        exact tut_one hjo n hm (by omega) (mg_nn p1 hNr) (hL.erase _) hm0 (by rw [nE_mg p1.1 p2.1 hNr]; exact hOr.rn hL o1 hab) (by rw [nE_mg p1.1 p2.1 hNr]; exact hCm) h1
      obtain ⟨b, hb, h⟩ := Option.bind_eq_some_iff.1 h
      have hj := hjo r e.1 e.2 b (by omega) hNr p1 p2 hb
      rw [zz_edge hL o1 o2 hab]
      cases b with
      | true =>
        obtain ⟨U, h1, h⟩ := Option.bind_eq_some_iff.1 h
        obtain ⟨V, h2, h3⟩ := Option.bind_eq_some_iff.1 h
        cases h3
        have hCr : Cn (In L) (nE r) := fun S s1 s2 => by
          obtain ⟨d, hd, hn'⟩ := hC S s1 s2
          rcases List.mem_cons.1 hd with rfl | hd
          · refine Classical.byContradiction fun k => hn' ?_
            have kk : ∀ d ∈ nE r, (S d.1 ↔ S d.2) := fun d hd => Classical.byContradiction fun q => k ⟨d, hd, q⟩
            refine ⟨fun sa => hj.1 rfl S kk sa, fun sb => Classical.byContradiction fun na => ?_⟩
            exact (hj.1 rfl (fun v => ¬ S v) (fun d hd => not_congr (kk d hd)) na) sb
          · exact ⟨d, hd, hn'⟩
        rw [ev_plus, tut_one hjo n hr (by omega) hNr hL h0 hOr hCr h1, IHm V h2]
      | false =>
        obtain ⟨U, h1, h2⟩ := Option.bind_eq_some_iff.1 h
        cases h2
        have hnC : ¬ Cn (In L) (nE r) := fun k => by
          have : Jn (nE r) e.1.toNat e.2.toNat := fun S s1 s2 => Classical.byContradiction fun s3 => by
            obtain ⟨d, hd, q⟩ := k S ⟨_, o1, s2⟩ ⟨_, o2, s3⟩
            exact q (s1 d hd)
          exact absurd (hj.2 this) (by decide)
        have k1 := (tut_ok n hm (by omega) h1).1
        rw [ev_x k1 (by omega), zz_none hnC, IHm U h1, Int.zero_add, Int.one_mul]
end
end Go.Proofs.YtafgbjhojkgbjaaGreatDoor.D.Tq
namespace Go.Proofs.YtafgbjhojkgbjaaGreatDoor.D.Tq
open Go Go.Den
set_option linter.unusedVariables false
set_option linter.unusedSimpArgs false
theorem jn_self {E : Eds} {a : Nat} : Jn E a a := fun S _ h => h
theorem jn_step {E : Eds} {a u v : Nat} (h : Jn E a u) (he : (u, v) ∈ E ∨ (v, u) ∈ E) : Jn E a v := fun S hS ha => by
  rcases he with he | he
  · exact (hS _ he).1 (h S hS ha)
  · exact (hS _ he).2 (h S hS ha)
theorem jn_size {E : Eds} (hE : ∀ e ∈ E, e.1 < 6 ∧ e.2 < 6) {a : Nat} (ha : a < 6) {B : List Nat} (hB : B.Nodup) (hj : ∀ v ∈ B, v < 6 ∧ Jn E a v) : B.length ≤ E.length + 1 := by
  classical
  let L : List Nat := (List.range 6).filter fun v => decide (Jn E a v)
  have mL : ∀ v, v ∈ L ↔ v < 6 ∧ Jn E a v := fun v => by
    simp only [L, List.mem_filter, List.mem_range, decide_eq_true_eq]
  have nL : L.Nodup := List.Pairwise.filter _ List.nodup_range
  let A : Eds := E.filter fun e => decide (Jn E a e.1)
  have mA : ∀ e, e ∈ A ↔ e ∈ E ∧ Jn E a e.1 := fun e => by
    simp only [A, List.mem_filter, decide_eq_true_eq]
  have iff : ∀ e ∈ E, (Jn E a e.1 ↔ Jn E a e.2) := fun e he => ⟨fun h => jn_step h (.inl he), fun h => jn_step h (.inr he)⟩
  have hO : On L A := fun e he => by
    obtain ⟨h1, h2⟩ := (mA e).1 he
    exact ⟨(mL _).2 ⟨(hE e h1).1, h2⟩, (mL _).2 ⟨(hE e h1).2, (iff e h1).1 h2⟩⟩
  have hC : Cn (In L) A := fun S s1 s2 => by
    refine Classical.byContradiction fun no => ?_
    have ns : ∀ e ∈ A, (S e.1 ↔ S e.2) := fun e he => Classical.byContradiction fun k => no ⟨e, he, k⟩
    have key : ∀ v, Jn E a v → (S v ↔ S a) := fun v hv => by
      have := hv (fun v => Jn E a v → (S v ↔ S a)) (fun e he => by
        constructor
        · exact fun k q => (ns e ((mA e).2 ⟨he, (iff e he).2 q⟩)).symm.trans (k ((iff e he).2 q))
        · exact fun k q => (ns e ((mA e).2 ⟨he, q⟩)).trans (k ((iff e he).1 q))) fun _ => Iff.rfl
      exact this hv
    obtain ⟨v, hv, h1⟩ := s1
    obtain ⟨w, hw, h2⟩ := s2
    exact h2 ((key w ((mL w).1 hw).2).2 ((key v ((mL v).1 hv).2).1 h1))
  have h1 := Cn.size A.length rfl nL hO hC
  have h2 : A.length ≤ E.length := List.length_filter_le _ _
  have h3 := nodup_len hB fun v hv => (mL v).2 (hj v hv)
  omega
section
variable {E : List (Int × Int)} {a : Nat}
structure JG (E : List (Int × Int)) (a m : Nat) : Prop where
  lt : m < 2 ^ 62
  start : m.testBit a = true
  ok : ∀ i, m.testBit i = true → i < 6 ∧ Jn (nE E) a i
theorem mem_nE {j : Nat} (hj : j < E.length) : ((E.getD j (0, 0)).1.toNat, (E.getD j (0, 0)).2.toNat) ∈ nE E := List.mem_map.2 ⟨_, getD_mem (0, 0) hj, rfl⟩
theorem jst_ok (hE : NN E) {m : Nat} (G : JG E a m) {j : Nat} (hj : j < E.length) : JG E a (bst m (E.getD j (0, 0))) ∧ ((bst m (E.getD j (0, 0)) = m) → (m.testBit (E.getD j (0, 0)).1.toNat = true ↔ m.testBit (E.getD j (0, 0)).2.toNat = true)) := by
  obtain ⟨⟨h1, h2⟩, h3, h4⟩ := hE _ (getD_mem (0, 0) hj)
  have hm := mem_nE hj
  generalize E.getD j (0, 0) = e at h1 h2 h3 h4 hm
  obtain ⟨x, y⟩ := e
  simp only at h1 h2 h3 h4 hm
  unfold bst
  simp only
  split
  · rename_i c
    have hc : Jn (nE E) a x.toNat ∧ Jn (nE E) a y.toNat := by
      rcases c with c | c
      · have := (G.ok _ c).2
        exact ⟨this, jn_step this (.inl hm)⟩
      · have := (G.ok _ c).2
        exact ⟨jn_step this (.inr hm), this⟩
    refine ⟨⟨?_, ?_, fun i hi => ?_⟩, fun q => ?_⟩
    · refine Nat.or_lt_two_pow G.lt (Nat.or_lt_two_pow ?_ ?_)
      · exact Nat.pow_lt_pow_right (by omega) (by omega)
      · exact Nat.pow_lt_pow_right (by omega) (by omega)
    · rw [Nat.testBit_or, G.start]; rfl
    · rw [Nat.testBit_or, Nat.testBit_or, Nat.testBit_two_pow, Nat.testBit_two_pow] at hi
      simp only [Bool.or_eq_true, decide_eq_true_eq] at hi
      rcases hi with hi | hi | hi
      · exact G.ok i hi
      · subst hi; exact ⟨by omega, hc.1⟩
      · subst hi; exact ⟨by omega, hc.2⟩
    · have t1 : (m ||| (2 ^ x.toNat ||| 2 ^ y.toNat)).testBit x.toNat = true := by
        rw [Nat.testBit_or, Nat.testBit_or, Nat.testBit_two_pow]; simp
      have t2 : (m ||| (2 ^ x.toNat ||| 2 ^ y.toNat)).testBit y.toNat = true := by
        rw [Nat.testBit_or, Nat.testBit_or, Nat.testBit_two_pow, Nat.testBit_two_pow]; simp
      rw [q] at t1 t2
      rw [t1, t2]
  · rename_i c
    refine ⟨G, fun _ => ?_⟩
    constructor
    · exact fun k => absurd (.inl k) c
    · exact fun k => absurd (.inr k) c
theorem jl2_p (hE : NN E) (hl : E.length ≤ 14) {m : Nat} (G : JG E a m) {b n i : Int} {j : Nat} (hj : j < E.length) :
    impl_joins_l2 E b (m : Int) n i E (E.length : Int) (j : Nat) = impl_joins_l2 E b ((bst m (E.getD j (0, 0)) : Nat) : Int) n i E (E.length : Int) ((j + 1 : Nat) : Int) := by
  obtain ⟨⟨h1, h2⟩, h3, h4⟩ := hE _ (getD_mem (0, 0) hj)
  rw [impl_joins_l2_eq, dec_lt_t hj, inside_lt hj, w64_succ hj (by omega)]
  simp only [cond_true, Int.toNat_natCast]
  obtain ⟨⟨x, y⟩, hab⟩ : ∃ e, E.getD j (0, 0) = e := ⟨_, rfl⟩
  rw [hab] at h1 h2 h3 h4
  simp only at h1 h2 h3 h4
  simp only [hab]
  have d1 : ¬ (x < 0) := by omega
  have d2 : ¬ (y < 0) := by omega
  have p1 : 2 ^ x.toNat < 2 ^ 62 := Nat.pow_lt_pow_right (by omega) (by omega)
  have p2 : 2 ^ y.toNat < 2 ^ 62 := Nat.pow_lt_pow_right (by omega) (by omega)
  rw [decide_eq_false d1, decide_eq_false d2, bit_p G.lt (by omega), bit_p G.lt (by omega)]
  rw [pow_p (a := x.toNat) (by omega), pow_p (a := y.toNat) (by omega), bits_or_p p1 p2, bits_or_p G.lt (Nat.or_lt_two_pow p1 p2)]
  simp only [cond_false]
  unfold bst
  simp only
  cases t1 : m.testBit x.toNat with
  | true => simp
  | false =>
    cases t2 : m.testBit y.toNat with
    | true => simp
    | false => simp
def jpass (E : List (Int × Int)) (m : Nat) : Nat := itr (fun j s => bst s (E.getD j (0, 0))) E.length m
theorem jpass_p (hE : NN E) {m : Nat} (G : JG E a m) : JG E a (jpass E m) ∧ Sub' m (jpass E m) := by
  have : ∀ k, k ≤ E.length → JG E a (itr (fun j s => bst s (E.getD j (0, 0))) k m) ∧ Sub' m (itr (fun j s => bst s (E.getD j (0, 0))) k m) := by
    intro k
    induction k with
    | zero => exact fun _ => ⟨G, fun _ h => h⟩
    | succ k ih =>
      intro hk
      obtain ⟨q1, q2⟩ := ih (by omega)
      exact ⟨(jst_ok hE q1 (by omega)).1, fun i hi => bst_sub _ _ i (q2 i hi)⟩
  exact this _ (Nat.le_refl _)
theorem jpass_fix (hE : NN E) {m : Nat} (G : JG E a m) (hf : jpass E m = m) {j : Nat} (hj : j < E.length) : m.testBit (E.getD j (0, 0)).1.toNat = true ↔ m.testBit (E.getD j (0, 0)).2.toNat = true := by
  have mono : ∀ k d, Sub' (itr (fun j s => bst s (E.getD j (0, 0))) k m) (itr (fun j s => bst s (E.getD j (0, 0))) (k + d) m) := by
    intro k d
    induction d with
    | zero => exact fun _ h => h
    | succ d ih => exact fun i hi => bst_sub _ _ i (ih i hi)
  have up : ∀ k, Sub' m (itr (fun j s => bst s (E.getD j (0, 0))) k m) := fun k => by
    have := mono 0 k
    rw [Nat.zero_add] at this
    exact this
  have fix : ∀ k, k ≤ E.length → itr (fun j s => bst s (E.getD j (0, 0))) k m = m := fun k hk => by
    refine (sub_anti (up k) fun i hi => ?_).symm
    have := mono k (E.length - k) i hi
    rw [show k + (E.length - k) = E.length by omega] at this
    have h2 : (jpass E m).testBit i = true := this
    rwa [hf] at h2
  have h1 := fix j (by omega)
  have h2 := fix (j + 1) (by omega)
  rw [itr, h1] at h2
  exact (jst_ok hE G hj).2 h2
theorem jmem {m : Nat} (G : JG E a m) {i : Nat} : i ∈ bitsOf m ↔ m.testBit i = true := by
  unfold bitsOf
  rw [List.mem_filter, List.mem_range]
  exact ⟨fun k => k.2, fun k => ⟨(G.ok i k).1, k⟩⟩
theorem jrounds (hE : NN E) {m : Nat} (G : JG E a m) : ∀ k, JG E a (itr (fun _ s => jpass E s) k m) ∧ (jpass E (itr (fun _ s => jpass E s) k m) = itr (fun _ s => jpass E s) k m ∨ k + 2 ≤ (bitsOf (jpass E (itr (fun _ s => jpass E s) k m))).length) := by
  have more : ∀ x, JG E a x → jpass E x ≠ x → (bitsOf x).length + 1 ≤ (bitsOf (jpass E x)).length := fun x q1 c => by
    obtain ⟨r1, r2⟩ := jpass_p hE q1
    have : ∃ i, (jpass E x).testBit i = true ∧ ¬ x.testBit i = true := by
      apply Classical.byContradiction
      intro hno
      refine c (sub_anti r2 fun i hi => ?_).symm
      apply Classical.byContradiction
      exact fun h => hno ⟨i, hi, h⟩
    obtain ⟨i, hi1, hi2⟩ := this
    have := nodup_len (l := i :: bitsOf x) (m := bitsOf (jpass E x)) (List.nodup_cons.2 ⟨fun h => hi2 ((jmem q1).1 h), bitsOf_nodup x⟩) fun y hy => by
      rw [jmem r1]
      rcases List.mem_cons.1 hy with hy | hy
      · rw [hy]; exact hi1
      · exact r2 y ((jmem q1).1 hy)
    simpa using this
  intro k
  induction k with
  | zero =>
    refine ⟨G, ?_⟩
    by_cases c : jpass E m = m
    · exact .inl c
    · have h0 : 0 < (bitsOf m).length := List.length_pos_of_mem ((jmem G).2 G.start)
      have := more m G c
      exact .inr (by show 0 + 2 ≤ (bitsOf (jpass E m)).length; omega)
  | succ k ih =>
    obtain ⟨q1, q2⟩ := ih
    rw [itr]
    generalize itr (fun _ s => jpass E s) k m = x at q1 q2
    obtain ⟨r1, r2⟩ := jpass_p hE q1
    refine ⟨r1, ?_⟩
    rcases q2 with q2 | q2
    · left; rw [q2, q2]
    · by_cases c : jpass E (jpass E x) = jpass E x
      · exact .inl c
      · have := more _ r1 c
        exact .inr (by omega)
theorem joins_p (hE : NN E) (hl : E.length ≤ 14) {x y : Int} (hx : 0 ≤ x ∧ x ≤ 5) (hy : 0 ≤ y ∧ y ≤ 5) : ∃ v, impl_joins E x y = some v ∧ (v = true ↔ Jn (nE E) x.toNat y.toNat) := by
  have p0 : 2 ^ x.toNat < 2 ^ 62 := Nat.pow_lt_pow_right (by omega) (by omega)
  have G0 : JG E x.toNat (2 ^ x.toNat) := ⟨p0, by rw [Nat.testBit_two_pow]; simp, fun i hi => by
    rw [Nat.testBit_two_pow] at hi
    have : x.toNat = i := by simpa using hi
    subst this
    exact ⟨by omega, jn_self⟩⟩
  rw [impl_joins_eq, decide_eq_false (show ¬ x < 0 by omega), pow_p (a := x.toNat) (by omega)]
  simp only [cond_false]
  obtain ⟨k1, k2⟩ := upFold (n := E.length) (f := fun (s : Nat) i => impl_joins_l0 E y (s : Int) (E.length : Int) i) (g := fun _ s => jpass E s) (fun _ s => JG E x.toNat s) (fun k s hk Gs => by
    refine ⟨?_, (jpass_p hE Gs).1⟩
    rw [impl_joins_l0_eq, dec_lt_t hk]
    simp only [cond_true]
    obtain ⟨j1, j2⟩ := upFold (n := E.length) (f := fun (s : Nat) j => impl_joins_l2 E y (s : Int) (E.length : Int) (k : Int) E (E.length : Int) j) (g := fun j s => bst s (E.getD j (0, 0))) (fun _ s => JG E x.toNat s) (fun j s hj Gs => ⟨jl2_p hE hl Gs hj, (jst_ok hE Gs hj).1⟩) (s := s) Gs
    rw [show ((0 : Nat) : Int) = 0 from rfl] at j1
    rw [j1, impl_joins_l2_eq, dec_lt_f, w64_succ hk (by omega)]
    rfl) (s := 2 ^ x.toNat) G0
  rw [show ((0 : Nat) : Int) = 0 from rfl] at k1
  rw [k1]
  obtain ⟨-, q2⟩ := jrounds hE G0 E.length
  generalize itr (fun _ s => jpass E s) E.length (2 ^ x.toNat) = m at k2 q2
  rw [impl_joins_l0_eq, dec_lt_f, decide_eq_false (show ¬ y < 0 by omega)]
  simp only [cond_false]
  rw [bit_p k2.lt (by omega)]
  have nl : (nE E).length = E.length := by unfold nE; rw [List.length_map]
  have hE6 : ∀ e ∈ nE E, e.1 < 6 ∧ e.2 < 6 := fun e he => by
    obtain ⟨d, hd, rfl⟩ := List.mem_map.1 he
    obtain ⟨⟨h1, h2⟩, h3, h4⟩ := hE d hd
    exact ⟨by show d.1.toNat < 6; omega, by show d.2.toNat < 6; omega⟩
  have hfix : jpass E m = m := by
    rcases q2 with q2 | q2
    · exact q2
    · exfalso
      have G' := (jpass_p hE k2).1
      have := jn_size hE6 (a := x.toNat) (by omega) (bitsOf_nodup (jpass E m)) fun i hi => G'.ok i ((jmem G').1 hi)
      omega
  refine ⟨_, rfl, fun h => (k2.ok _ h).2, fun h => ?_⟩
  refine h (fun v => m.testBit v = true) (fun e he => ?_) k2.start
  obtain ⟨d, hd, rfl⟩ := List.mem_map.1 he
  obtain ⟨j, hj, rfl⟩ := List.getElem_of_mem hd
  have := jpass_fix hE k2 hfix hj
  rwa [getD_lt hj] at this
end
end Go.Proofs.YtafgbjhojkgbjaaGreatDoor.D.Tq
namespace Go.Proofs.YtafgbjhojkgbjaaGreatDoor.D.Tq
open Go Go.Den
set_option linter.unusedVariables false
set_option linter.unusedSimpArgs false
theorem numsA : Ty.nums A46 = true := by kernel_rfl
theorem sizeA : A46.size = 256 := by kernel_rfl
theorem addT_len (S T : List Int) (x y : Nat) : (Lb.addT S T x y).length = 256 := by unfold Lb.addT; rw [List.length_map, List.length_range]
theorem to_of {T : List Int} (h : T.length = 256) : Lb.toI A46 (Lb.ofI A46 T) = T := by
  rw [Lb.toI_of numsA (by rw [sizeA]; omega), sizeA, List.take_of_length_le (by omega)]
theorem to_zero : Lb.toI A46 (Ty.dflt A46) = Lb.sq0 := by kernel_rfl
theorem to_one : Lb.toI A46 ((1, ((Ty.dflt A46).1).2), (Ty.dflt A46).2) = Lb.sq1 := by kernel_rfl
theorem sqB_ok {T : List Int} {n : Nat} (hl : T.length = 256) (h : SqOk T n) (hn : n ≤ 12) : Lb.sqB T = true := by
  unfold Lb.sqB
  rw [List.all_eq_true]
  intro x hx
  obtain ⟨k, hk, rfl⟩ := List.getElem_of_mem hx
  have e : sq T (k / 16) (k % 16) = T[k] := by
    unfold sq
    rw [show 16 * (k / 16) + k % 16 = k by omega, getD_lt hk]
  have h1 := h.pos (k / 16) (k % 16) (by omega) (by omega)
  have h2 := h.le (k / 16) (k % 16) (by omega) (by omega)
  have h3 : (2 : Int) ^ n ≤ 2 ^ 12 := by
    have := Nat.pow_le_pow_right (n := 2) (by decide) hn
    have e : ∀ m : Nat, (2 : Int) ^ m = ((2 ^ m : Nat) : Int) := fun m => by simp
    rw [e, e]
    exact Int.ofNat_le.2 this
  rw [e] at h1 h2
  rw [Bool.and_eq_true, decide_eq_true_iff, decide_eq_true_iff]
  omega
theorem SqOk.zero (n : Nat) : SqOk Lb.sq0 n := ⟨fun i j _ _ _ => sq_zero i j, fun i j _ _ => by rw [sq_zero]; omega, fun i j _ _ => by rw [sq_zero]; have := two_pos n; omega⟩
theorem sq0_len : Lb.sq0.length = 256 := by unfold Lb.sq0; rw [List.length_replicate]
theorem add_p {S X : Ty.den A46} {n : Nat} (hS : SqOk (Lb.toI A46 S) n) (hX : SqOk (Lb.toI A46 X) n) (hn : n ≤ 12) {x y : Int} (h : (x = 0 ∨ x = 1) ∧ (y = 0 ∨ y = 1)) :
    impl_addTerms S X x y = some (Lb.ofI A46 (Lb.addT (Lb.toI A46 S) (Lb.toI A46 X) x.toNat y.toNat)) := by
  have l1 : (Lb.toI A46 S).length = 256 := by rw [Lb.toI_len numsA, sizeA]
  have l2 : (Lb.toI A46 X).length = 256 := by rw [Lb.toI_len numsA, sizeA]
  rw [impl_addTerms_eq]
  unfold Lb.addTm
  rw [sqB_ok l1 hS hn, sqB_ok l2 hX hn, decide_eq_true (show 0 ≤ x by omega), decide_eq_true (show x ≤ 1 by omega), decide_eq_true (show 0 ≤ y by omega), decide_eq_true (show y ≤ 1 by omega)]
  rfl
theorem merge_p {S X : Ty.den A46} {e : Int × Int} {r r' : List (Int × Int)} (hl : r.length ≤ 14) : impl_tutte_l0 S X e r' [] r (r.length : Int) 0 = impl_tutte_l0 S X e r' (Lb.mgE e.1 e.2 r) r (r.length : Int) (r.length : Int) := by
  have key : ∀ k, k ≤ r.length → impl_tutte_l0 S X e r' [] r (r.length : Int) 0 = impl_tutte_l0 S X e r' (Lb.mgE e.1 e.2 (r.take k)) r (r.length : Int) (k : Int) := by
    intro k
    induction k with
    | zero => exact fun _ => rfl
    | succ k ih =>
      intro hk
      have hk' : k < r.length := by omega
      have ml : (Lb.mgE e.1 e.2 (r.take k)).length = k := by rw [mgE_len, List.length_take]; omega
      have ms : Lb.mgE e.1 e.2 (r.take (k + 1)) = Lb.mgE e.1 e.2 (r.take k) ++ [(if (r.getD k (0, 0)).1 = e.2 then e.1 else (r.getD k (0, 0)).1, if (r.getD k (0, 0)).2 = e.2 then e.1 else (r.getD k (0, 0)).2)] := by
        rw [List.take_add_one, List.getElem?_eq_getElem hk', getD_lt hk']
        unfold Lb.mgE
        rw [List.map_append]
        rfl
      rw [ih (by omega), impl_tutte_l0_eq, dec_lt_t hk', inside_lt hk', w64_succ hk' (by omega), ms]
      simp only [cond_true, Int.toNat_natCast, List.length_singleton, ml]
      rw [decide_eq_true (show k + 1 ≤ room by unfold room; omega)]
      simp only [cond_true]
      by_cases c1 : (r.getD k (0, 0)).1 = e.2
      · rw [if_pos c1, beq_t c1]
        by_cases c2 : (r.getD k (0, 0)).2 = e.2
        · rw [if_pos c2, beq_t c2]; rfl
        · rw [if_neg c2, beq_f c2]; rfl
      · rw [if_neg c1, beq_f c1]
        by_cases c2 : (r.getD k (0, 0)).2 = e.2
        · rw [if_pos c2, beq_t c2]; rfl
        · rw [if_neg c2, beq_f c2]; rfl
  have := key r.length (Nat.le_refl _)
  rwa [List.take_of_length_le (Nat.le_refl _)] at this
theorem tutte_p : ∀ (n : Nat) {E : List (Int × Int)}, E.length = n → n ≤ 9 → NN E → ∃ X, impl_tutte E = some X ∧ Lb.tut impl_joins n E = some (Lb.toI A46 X)
  | 0, [], _, _, _ => by
    refine ⟨((1, ((Ty.dflt A46).1).2), (Ty.dflt A46).2), ?_, ?_⟩
    · rw [impl_tutte_eq]; rfl
    · rw [to_one]; rfl
  | n + 1, [], hl, _, _ => by cases hl
  | 0, _ :: _, hl, _, _ => by cases hl
  | n + 1, e :: r, hl, hn, hE => by
    have hr : r.length = n := Nat.succ.inj hl
    have hm : (Lb.mgE e.1 e.2 r).length = n := by rw [mgE_len]; exact hr
    have hEr : NN r := fun d hd => hE d (List.mem_cons_of_mem _ hd)
    obtain ⟨p1, p2⟩ := hE e List.mem_cons_self
    have hEm : NN (Lb.mgE e.1 e.2 r) := mg_nn p1 hEr
    obtain ⟨U, u1, u2⟩ := tutte_p n hr (by omega) hEr
    obtain ⟨V, v1, v2⟩ := tutte_p n hm (by omega) hEm
    have hU := (tut_ok n hr (by omega) u2).1
    have hV := (tut_ok n hm (by omega) v2).1
    have z : ∀ m, SqOk (Lb.toI A46 (Ty.dflt A46)) m := fun m => by rw [to_zero]; exact SqOk.zero m
    rw [tut_cons, impl_tutte_eq]
    have e1 : (((e :: r).length : Int) == 0) = false := beq_f (by rw [List.length_cons]; omega)
    have e2 : inside 0 (e :: r).length = true := inside_lt (k := 0) (by simp)
    have e3 : ((e :: r).take (((e :: r).length : Int).toNat)).drop 1 = r := by simp
    rw [e1, e2, e3]
    have e4 : (decide ((0 : Nat) ≤ 1) && decide (1 ≤ ((e :: r).length : Int)) && decide (((e :: r).length : Int) ≤ ((e :: r).length : Int))) = true := by simp; omega
    rw [e4]
    simp only [cond_true, cond_false, List.getD_cons_zero]
    by_cases c : e.1 = e.2
    · rw [if_pos c, beq_t c, u1, u2]
      simp only [cond_true, Option.bind_some]
      rw [add_p (z n) hU (by omega) ⟨.inl rfl, .inr rfl⟩]
      refine ⟨_, rfl, ?_⟩
      rw [to_of (addT_len _ _ _ _), to_zero]
      rfl
    · rw [if_neg c, beq_f c]
      simp only [cond_false]
      rw [merge_p (by omega), impl_tutte_l0_eq, dec_lt_f, cond_false]
      obtain ⟨b, b1, b2⟩ := joins_p hEr (by omega) p1 p2
      rw [b1]
      simp only [Option.bind_some]
      cases b with
      | true =>
        simp only [Bool.not_true, cond_false, cond_true]
        rw [u1, v1, u2, v2]
        simp only [Option.bind_some]
        rw [add_p (z n) hU (by omega) ⟨.inl rfl, .inl rfl⟩]
        simp only [Option.bind_some]
        have h7 : SqOk (Lb.toI A46 (Lb.ofI A46 (Lb.addT (Lb.toI A46 (Ty.dflt A46)) (Lb.toI A46 U) (0 : Int).toNat (0 : Int).toNat))) (n + 1) := by
          rw [to_of (addT_len _ _ _ _), to_zero]
          exact hU.shift (by decide)
        have hV' : SqOk (Lb.toI A46 V) (n + 1) := ⟨fun i j hi hj h => hV.far i j hi hj (by omega), hV.pos, fun i j hi hj => by
          have h1 := hV.le i j hi hj
          have h2 := two_pos n
          rw [Int.pow_succ]
          omega⟩
        rw [add_p h7 hV' (by omega) ⟨.inl rfl, .inl rfl⟩]
        refine ⟨_, rfl, ?_⟩
        rw [to_of (addT_len _ _ _ _), to_of (addT_len _ _ _ _), to_zero]
        rfl
      | false =>
        simp only [Bool.not_false, cond_true, cond_false]
        rw [v1, v2]
        simp only [Option.bind_some]
        rw [add_p (z n) hV (by omega) ⟨.inr rfl, .inl rfl⟩]
        refine ⟨_, rfl, ?_⟩
        rw [to_of (addT_len _ _ _ _), to_zero]
        rfl
end Go.Proofs.YtafgbjhojkgbjaaGreatDoor.D.Tq
namespace Go.Proofs.YtafgbjhojkgbjaaGreatDoor.D.Tq
open Go Go.Den
set_option linter.unusedVariables false
set_option linter.unusedSimpArgs false
theorem trim_snoc (s : List Int) (x : Int) : Lb.trim (s ++ [x]) = if x = 0 then Lb.trim s else s ++ [x] := by
  unfold Lb.trim
  rw [List.reverse_append, List.reverse_singleton, List.singleton_append, List.dropWhile_cons]
  by_cases c : x = 0
  · rw [if_pos (decide_eq_true c), if_pos c]
  · rw [if_neg (by simpa using c), if_neg c, List.reverse_cons, List.reverse_reverse]
theorem snoc_ex {α : Type} {r : List α} {n : Nat} (h : r.length = n + 1) : ∃ s x, r = s ++ [x] ∧ s.length = n := by
  have hne : r ≠ [] := fun c => by rw [c] at h; cases h
  exact ⟨r.dropLast, r.getLast hne, (List.dropLast_concat_getLast hne).symm, by rw [List.length_dropLast]; omega⟩
theorem trimmed_p : ∀ (n : Nat) {r : List Int}, r.length = n → n ≤ 1000 → impl_trimmed_l0 r = some (Lb.trim r)
  | 0, r, h, _ => by
    rw [List.eq_nil_of_length_eq_zero h, impl_trimmed_l0_eq]; rfl
  | n + 1, r, h, hn => by
    obtain ⟨s, x, rfl, hs⟩ := snoc_ex h
    rw [impl_trimmed_l0_eq, h, decide_eq_true (by omega), w64_id (n := ((n + 1 : Nat) : Int) - 1) (by omega) (by omega), show ((n + 1 : Nat) : Int) - 1 = (n : Int) by omega, inside_lt (by omega)]
    simp only [cond_true, Int.toNat_natCast]
    have g : (s ++ [x]).getD n 0 = x := by rw [List.getD_eq_getElem?_getD, List.getElem?_append_right (by omega), hs]; simp
    rw [g, trim_snoc]
    by_cases c : x = 0
    · rw [beq_t c, if_pos c, decide_eq_true (show (n : Int) ≤ ((n + 1 : Nat) : Int) by omega), decide_eq_true (show 0 ≤ (n : Int) by omega)]
      have e : ((s ++ [x]).take n).drop 0 = s := by rw [List.drop_zero, ← hs, List.take_left']; rfl
      rw [e]
      exact trimmed_p n hs (by omega)
    · rw [beq_f c, if_neg c]; rfl
theorem trim_get : ∀ (n : Nat) {r : List Int}, r.length = n → ∀ j, (Lb.trim r).getD j 0 = r.getD j 0
  | 0, r, h, j => by rw [List.eq_nil_of_length_eq_zero h]; rfl
  | n + 1, r, h, j => by
    obtain ⟨s, x, rfl, hs⟩ := snoc_ex h
    rw [trim_snoc]
    by_cases c : x = 0
    · rw [if_pos c, trim_get n hs j, List.getD_eq_getElem?_getD, List.getD_eq_getElem?_getD]
      rcases Nat.lt_trichotomy j n with k | k | k
      · rw [List.getElem?_append_left (by omega)]
      · rw [List.getElem?_append_right (by omega), List.getElem?_eq_none (by omega), k, hs, c]; simp
      · rw [List.getElem?_eq_none (by omega), List.getElem?_eq_none (by rw [List.length_append]; simp; omega)]
    · rw [if_neg c]
theorem trim_len : ∀ (n : Nat) {r : List Int}, r.length = n → (Lb.trim r).length ≤ n ∧ ((Lb.trim r).length = 0 ∨ (Lb.trim r).getD ((Lb.trim r).length - 1) 0 ≠ 0)
  | 0, r, h => by rw [List.eq_nil_of_length_eq_zero h]; exact ⟨Nat.le_refl _, .inl rfl⟩
  | n + 1, r, h => by
    obtain ⟨s, x, rfl, hs⟩ := snoc_ex h
    rw [trim_snoc]
    by_cases c : x = 0
    · rw [if_pos c]
      obtain ⟨h1, h2⟩ := trim_len n hs
      exact ⟨by omega, h2⟩
    · rw [if_neg c]
      refine ⟨by omega, .inr ?_⟩
      rw [h, Nat.add_sub_cancel, List.getD_eq_getElem?_getD, List.getElem?_append_right (by omega), hs]
      simpa using c
theorem trimL_snoc (l : List (List Int)) (x : List Int) : Lb.trimL (l ++ [x]) = if x.isEmpty = true then Lb.trimL l else l ++ [x] := by
  unfold Lb.trimL
  rw [List.reverse_append, List.reverse_singleton, List.singleton_append, List.dropWhile_cons]
  split
  · rfl
  · rw [List.reverse_cons, List.reverse_reverse]
theorem trimL_get : ∀ (n : Nat) {l : List (List Int)}, l.length = n → (Lb.trimL l).length ≤ n ∧ ∀ j, (Lb.trimL l).getD j [] = l.getD j []
  | 0, l, h => by rw [List.eq_nil_of_length_eq_zero h]; exact ⟨Nat.le_refl _, fun j => rfl⟩
  | n + 1, l, h => by
    obtain ⟨s, x, rfl, hs⟩ := snoc_ex h
    obtain ⟨h1, h2⟩ := trimL_get n hs
    rw [trimL_snoc]
    by_cases c : x.isEmpty = true
    · rw [if_pos c]
      refine ⟨by omega, fun j => ?_⟩
      rw [h2 j, List.getD_eq_getElem?_getD, List.getD_eq_getElem?_getD]
      rcases Nat.lt_trichotomy j n with k | k | k
      · rw [List.getElem?_append_left (by omega)]
      · rw [List.getElem?_append_right (by omega), List.getElem?_eq_none (by omega), k, hs, List.isEmpty_iff.1 c]; simp
      · rw [List.getElem?_eq_none (by omega), List.getElem?_eq_none (by rw [List.length_append]; simp; omega)]
    · rw [if_neg c]
      exact ⟨by omega, fun j => rfl⟩
theorem copy_p {r : List Int} (h : r.length ≤ 1000) : impl_copyInts r = some r := by
  rw [impl_copyInts_eq, decide_eq_true (by unfold room; simp only [List.length_nil]; omega)]; rfl
theorem rowsM_p {f : List Int → Option (List Int)} {h : List Int → List Int} {T : List Int} (hf : ∀ r, r.length ≤ 16 → f r = some (h r)) : ∀ m i, ∃ l, Lb.rowsM f T m i = some l ∧ l.length = m ∧ ∀ k, k < m → l.getD k [] = h ((T.drop ((i + k) * 16)).take 16)
  | 0, i => ⟨[], rfl, rfl, fun k hk => absurd hk (Nat.not_lt_zero _)⟩
  | m + 1, i => by
    obtain ⟨l, h1, h2, h3⟩ := rowsM_p hf m (i + 1)
    refine ⟨h ((T.drop (i * 16)).take 16) :: l, ?_, by simp [h2], fun k hk => ?_⟩
    · show (f ((T.drop (i * 16)).take 16)).bind _ = _
      rw [hf _ (by rw [List.length_take]; omega), Option.bind_some, h1]; rfl
    · cases k with
      | zero => rfl
      | succ k =>
        rw [show i + (k + 1) = i + 1 + k by omega]
        exact h3 k (by omega)
theorem okT {g : Gr} (hg : GOk g) : impl_GraphOk g = some true := by
  have h12 := hg.1.2.1
  obtain ⟨b, p1, p2, p3⟩ := graphOk_p (g := g) (by omega)
  rw [p2, p3.2 hg]
theorem genusT {g : Gr} (hg : GOk g) : impl_GenusOf g = some ((g.2.length : Int) - (N g : Int) + 1) := by
  have hn := gN hg
  have h12 := hg.1.2.1
  rw [impl_GenusOf_eq, okT hg]
  simp only [Option.bind_some, Bool.not_true, cond_false]
  rw [w64_id (n := (g.2.length : Int) - g.1) (by omega) (by omega), w64_id (by omega) (by omega)]
  rw [hn.1]
/-- the rows as returned tell the same numbers as the square -/
structure RowsOk (t : List (List Int)) (T : List Int) : Prop where
  len : t.length ≤ 16
  row : ∀ i, (t.getD i []).length ≤ 16
  get : ∀ i j, i < 16 → j < 16 → (t.getD i []).getD j 0 = sq T i j
theorem tutteOf_p {g : Gr} (hg : GOk g) (hl : g.2.length ≤ 9) : ∃ t T, impl_TutteOf g = some (t, true) ∧ RowsOk t T ∧ Lb.tut impl_joins g.2.length g.2 = some T := by
  have hE : NN g.2 := fun e he => by
    obtain ⟨j, hj, rfl⟩ := List.getElem_of_mem he
    have h1 := hg.1.1
    have h2 := hg.1.2.2 j hj
    rw [getD_lt hj] at h2
    unfold EdOk at h2
    omega
  obtain ⟨X, x1, x2⟩ := tutte_p g.2.length rfl hl hE
  obtain ⟨l, l1, l2, l3⟩ := rowsM_p (f := fun r => (impl_trimmed r).bind impl_copyInts) (h := Lb.trim) (T := Lb.toI A46 X) (fun r hr => by
    rw [impl_trimmed_eq, trimmed_p r.length rfl (by omega), Option.bind_some]
    exact copy_p (by have := (trim_len r.length (r := r) rfl).1; omega)) 16 0
  obtain ⟨k1, k2⟩ := trimL_get 16 l2
  have lX : (Lb.toI A46 X).length = 256 := by rw [Lb.toI_len numsA, sizeA]
  refine ⟨Lb.trimL l, Lb.toI A46 X, ?_, ⟨k1, fun i => ?_, fun i j hi hj => ?_⟩, x2⟩
  · rw [impl_TutteOf_eq]
    unfold Lb.tutOf
    rw [okT hg, Option.bind_some, cond_true, decide_eq_true hl, cond_true, x1, Option.bind_some, l1]
    rfl
  · rw [k2]
    by_cases c : i < 16
    · rw [l3 i c]
      have := (trim_len _ (r := ((Lb.toI A46 X).drop ((0 + i) * 16)).take 16) rfl).1
      rw [List.length_take] at this
      omega
    · rw [List.getD_eq_getElem?_getD, List.getElem?_eq_none (by omega)]
      exact Nat.zero_le _
  · rw [k2, l3 i hi, trim_get _ rfl, Nat.zero_add]
    unfold sq
    rw [List.getD_eq_getElem?_getD, List.getElem?_take_of_lt hj, List.getElem?_drop, ← List.getD_eq_getElem?_getD, Nat.mul_comm 16 i]
end Go.Proofs.YtafgbjhojkgbjaaGreatDoor.D.Tq
namespace Go.Proofs.YtafgbjhojkgbjaaGreatDoor.D.Tq
open Go Go.Den
set_option linter.unusedVariables false
set_option linter.unusedSimpArgs false
theorem outd_outE {n : Nat} {S : Nat → Prop} {A : Nat → Bool} (hA : ∀ w, A w = true ↔ S w) (v : Nat) : ∀ {E : Es}, GE n E → outd E A v = (outE S v E : Nat)
  | [], _ => rfl
  | e :: E, h => by
    have h1 := (h e List.mem_cons_self).1
    have af : ∀ w, A w = false ↔ ¬ S w := fun w => by rw [← hA w]; simp
    rw [outd_cons, outd_outE hA v (E := E) h.tail]
    show _ = ((ot S v e + outE S v E : Nat) : Int)
    rw [Int.natCast_add]
    congr 1
    by_cases c1 : v = e.1
    · subst c1
      rw [if_pos rfl]
      cases hh : A e.2 with
      | true => rw [ot_f (by have := (hA e.2).1 hh; rintro (⟨_, k⟩ | ⟨k, _⟩); exact k this; omega)]; rfl
      | false => rw [ot_t (.inl ⟨rfl, (af _).1 hh⟩)]; rfl
    · rw [if_neg c1]
      by_cases c2 : v = e.2
      · subst c2
        rw [if_pos rfl]
        cases hh : A e.1 with
        | true => rw [ot_f (by have := (hA e.1).1 hh; rintro (⟨k, _⟩ | ⟨_, k⟩); omega; exact k this)]; rfl
        | false => rw [ot_t (.inr ⟨rfl, (af _).1 hh⟩)]; rfl
      · rw [if_neg c2, ot_f (by rintro (⟨k, _⟩ | ⟨k, _⟩); exact c1 k.symm; exact c2 k.symm)]; rfl
theorem ints_vec {n : Nat} {d : List Nat} (h : d.length = n) : vec n (ints d) fun v => ((d.getD v 0 : Nat) : Int) :=
  ⟨by rw [ints_len]; exact h, fun w hw => ints_getD (by omega)⟩
theorem burn_pk {g : Gr} (hg : GOk g) {d : List Nat} (hd : d.length = N g) {q : Nat} (hq : q < N g) : ∃ b, impl_reducedAt_1 (ints d) g (q : Int) = some b ∧ (b = false ↔ Pk q (List.range (N g)) (Eg g) fun v => d.getD v 0) := by
  classical
  have hn := gN hg
  obtain ⟨gE1, gE2, gE3⟩ := gE hg
  obtain ⟨L, l1, l2, l3⟩ := impl_burn_p hg (ints_vec hd) hq
  refine ⟨_, by rw [impl_reducedAt_1_eq, l1, Option.bind_some], ?_⟩
  rw [decide_eq_false_iff_not, ints_len]
  constructor
  · intro hL S s1 s2
    have all : ∀ v, v < N g → v ∈ L := fun v hv => Classical.byContradiction fun k => by
      have := nodup_len (l := v :: L) (m := List.range (N g)) (List.nodup_cons.2 ⟨k, l2.nd⟩) fun x hx => by
        rcases List.mem_cons.1 hx with rfl | hx
        · exact List.mem_range.2 hv
        · exact List.mem_range.2 (l2.lt x hx)
      rw [List.length_cons, List.length_range] at this
      omega
    obtain ⟨v, hv, hS⟩ := s2
    obtain ⟨w, w1, w2, w3⟩ := l2.ok (fun u => decide (S u)) ⟨v, all v (List.mem_range.1 hv), decide_eq_true hS⟩ (decide_eq_false s1)
    refine ⟨w, List.mem_range.2 w1, of_decide_eq_true w2, ?_⟩
    rw [outd_outE (S := S) (fun u => decide_eq_true_iff) w gE1] at w3
    exact Int.ofNat_lt.1 w3
  · intro hP hlt
    have : ∃ v, v < N g ∧ v ∉ L := Classical.byContradiction fun k => by
      have := nodup_len (l := List.range (N g)) (m := L) List.nodup_range fun x hx => Classical.byContradiction fun c => k ⟨x, List.mem_range.1 hx, c⟩
      rw [List.length_range] at this
      omega
    obtain ⟨v, v1, v2⟩ := this
    obtain ⟨w, w1, w2, w3⟩ := hP (fun u => u ∉ L) (fun k => k l2.hq) ⟨v, List.mem_range.2 v1, v2⟩
    have := l3 w (List.mem_range.1 w1) w2
    rw [outd_outE (S := fun u => u ∉ L) (fun u => cmp_t) w gE1] at this
    exact absurd w3 (Nat.not_lt.2 (Int.ofNat_le.1 this))
theorem cs_len : ∀ {ms : List Nat}, (∀ m ∈ ms, m ≤ 12) → (cs ms).length ≤ 12 ^ ms.length
  | [], _ => Nat.le_refl _
  | m :: ms, h => by
    have h1 := cs_len (ms := ms) fun x hx => h x (List.mem_cons_of_mem _ hx)
    have h2 := h m List.mem_cons_self
    have e : ∀ (l : List Nat), (l.flatMap fun i => (cs ms).map fun d => i :: d).length = l.length * (cs ms).length := fun l => by
      induction l with
      | nil => simp
      | cons a l ih => rw [List.flatMap_cons, List.length_append, ih, List.length_map, List.length_cons, Nat.add_mul, Nat.one_mul, Nat.add_comm]
    show ((List.range m).flatMap _).length ≤ 12 ^ (ms.length + 1)
    rw [e, List.length_range, Nat.pow_succ, Nat.mul_comm]
    exact Nat.mul_le_mul h1 h2
/-- how many numbers may stand at a place -/
def mq (g : Gr) (q v : Nat) : Nat := if v = q then 1 else (val (Eg g) v).toNat
def mqs (g : Gr) (q k : Nat) : List Nat := (List.range k).map (mq g q)
theorem mqs_succ (g : Gr) (q k : Nat) : mqs g q (k + 1) = mqs g q k ++ [mq g q k] := by unfold mqs; rw [List.range_succ, List.map_append]; rfl
theorem val_12 {g : Gr} (hg : GOk g) (v : Nat) : 0 ≤ val (Eg g) v ∧ val (Eg g) v ≤ 12 := by
  have := val_bd v (Eg g)
  have h12 := hg.1.2.1
  have : (Eg g).length = g.2.length := by unfold Eg; rw [List.length_map]
  omega
theorem mq_le {g : Gr} (hg : GOk g) (q v : Nat) : mq g q v ≤ 12 := by
  unfold mq
  have := val_12 hg v
  split <;> omega
/-- one row: each number behind it -/
def rowx (m : Nat) (r : List Int) : List (List Int) := (List.range m).map fun (x : Nat) => r ++ [(x : Int)]
theorem rowx_len (m : Nat) (r : List Int) : (rowx m r).length = m := by unfold rowx; rw [List.length_map, List.length_range]
theorem red4 {g : Gr} {q : Int} {X : List (List Int)} {v : Int} {m i : Nat} {acc : List (List Int)} {x27 x28 : Int} (hm : m ≤ 12) (hr : (X.getD i []).length ≤ 1000) (ha : acc.length ≤ 12 ^ 7) : ∀ k j, j + k = m → impl_reducedAt_l4 g q X v ((m : Int) - 1) (acc ++ (List.range j).map fun (x : Nat) => X.getD i [] ++ [(x : Int)]) (j : Int) x27 x28 i = impl_reducedAt_l2 g q X v ((m : Int) - 1) (acc ++ rowx m (X.getD i [])) x27 (w64 (x28 + 1)) := by
  intro k
  induction k with
  | zero =>
    intro j hj
    have : j = m := by omega
    subst this
    rw [impl_reducedAt_l4_eq, decide_eq_false (by omega), cond_false]
    rfl
  | succ k ih =>
    intro j hj
    have p : (12 : Nat) ^ 7 = 35831808 := by decide
    rw [impl_reducedAt_l4_eq, decide_eq_true (show (j : Int) ≤ (m : Int) - 1 by omega), cond_true, copy_p hr, Option.bind_some]
    simp only [List.length_append, List.length_singleton, List.length_map, List.length_range]
    rw [decide_eq_true (by unfold room; omega), decide_eq_true (by unfold room; omega), cond_true, cond_true, w64_id (n := (j : Int) + 1) (by omega) (by omega), ← ih (j + 1) (by omega), List.range_succ, List.map_append, List.append_assoc]
    rfl
theorem red2 {g : Gr} {q : Int} {X : List (List Int)} {v : Int} {m : Nat} (hm1 : 1 ≤ m) (hm : m ≤ 12) (hX : ∀ i, i < X.length → (X.getD i []).length ≤ 1000) (hl : X.length ≤ 12 ^ 6) : ∀ k i, i + k = X.length → impl_reducedAt_l2 g q X v ((m : Int) - 1) ((X.take i).flatMap (rowx m)) (X.length : Int) (i : Int) = impl_reducedAt_l0 g q (X.flatMap (rowx m)) (w64 (v + 1)) := by
  have p6 : (12 : Nat) ^ 6 = 2985984 := by decide
  have p7 : (12 : Nat) ^ 7 = 35831808 := by decide
  intro k
  induction k with
  | zero =>
    intro i hi
    have : i = X.length := by omega
    subst this
    rw [impl_reducedAt_l2_eq, dec_lt_f, cond_false, List.take_of_length_le (Nat.le_refl _)]
  | succ k ih =>
    intro i hi
    have hi' : i < X.length := by omega
    have hf : ∀ l : List (List Int), (l.flatMap (rowx m)).length = l.length * m := fun l => by
      induction l with
      | nil => simp
      | cons a l ih => rw [List.flatMap_cons, List.length_append, ih, rowx_len, List.length_cons, Nat.add_mul, Nat.one_mul, Nat.add_comm]
    have ha : ((X.take i).flatMap (rowx m)).length ≤ 12 ^ 7 := by
      rw [hf, List.length_take]
      have : min i X.length * m ≤ 12 ^ 6 * 12 := Nat.mul_le_mul (by omega) hm
      omega
    rw [impl_reducedAt_l2_eq, dec_lt_t hi', inside_lt hi', cond_true, cond_true, Int.toNat_natCast]
    have := red4 (g := g) (q := q) (X := X) (v := v) (i := i) (x27 := (X.length : Int)) (x28 := (i : Int)) hm (hX i hi') ha m 0 (by omega)
    rw [List.range_zero, List.map_nil, List.append_nil] at this
    rw [show ((0 : Nat) : Int) = 0 from rfl] at this
    rw [this, w64_succ hi' (by omega), ← ih (i + 1) (by omega), List.take_add_one, List.getElem?_eq_getElem hi', getD_lt hi', List.flatMap_append]
    simp
theorem rowx_ints (m : Nat) (l : List (List Nat)) : (l.map ints).flatMap (rowx m) = (l.flatMap fun d => (List.range m).map fun i => d ++ [i]).map ints := by
  rw [List.map_flatMap, List.flatMap_map]
  congr 1
  funext d
  unfold rowx
  rw [List.map_map]
  refine List.map_congr_left fun x _ => ?_
  show _ = ints (d ++ [x])
  unfold ints
  rw [List.map_append]
  rfl
theorem red0 {g : Gr} (hg : GOk g) {q : Nat} (hq : q < N g) : ∀ k v, v + k = N g → impl_reducedAt_l0 g (q : Int) ((cs (mqs g q v)).map ints) (v : Int) = (slices_DeleteFunc_int_int__reducedAt_1 ((cs (mqs g q (N g))).map ints) g (q : Int)).bind fun r => some r := by
  have hn := gN hg
  intro k
  induction k with
  | zero =>
    intro v hv
    have : v = N g := by omega
    subst this
    rw [impl_reducedAt_l0_eq, hn.1, decide_eq_false (Int.lt_irrefl _), cond_false]
  | succ k ih =>
    intro v hv
    have hv' : v < N g := by omega
    have vb := val_12 hg v
    have h12 : ∀ x ∈ mqs g q v, x ≤ 12 := fun x hx => by
      obtain ⟨u, _, rfl⟩ := List.mem_map.1 hx
      exact mq_le hg q u
    have hl : ((cs (mqs g q v)).map ints).length ≤ 12 ^ 6 := by
      rw [List.length_map]
      refine Nat.le_trans (cs_len h12) (Nat.pow_le_pow_right (by decide) ?_)
      unfold mqs
      rw [List.length_map, List.length_range]
      omega
    have hX : ∀ i, i < ((cs (mqs g q v)).map ints).length → (((cs (mqs g q v)).map ints).getD i []).length ≤ 1000 := fun i hi => by
      have := getD_mem ([] : List Int) hi
      obtain ⟨d, hd, e⟩ := List.mem_map.1 this
      rw [← e, ints_len, (cs_mem.1 hd).1]
      unfold mqs
      rw [List.length_map, List.length_range]
      omega
    have hm1 : 1 ≤ mq g q v := by
      unfold mq
      by_cases c : v = q
      · rw [if_pos c]; exact Nat.le_refl _
      · rw [if_neg c]
        have := val_pos hg hv' hq c
        omega
    have R := red2 (g := g) (q := (q : Int)) (v := (v : Int)) hm1 (mq_le hg q v) hX hl _ 0 (Nat.zero_add _)
    rw [List.take_zero, List.flatMap_nil, rowx_ints, ← cs_snoc, ← mqs_succ, w64_succ hv' (by omega), ih (v + 1) (by omega), show ((0 : Nat) : Int) = 0 from rfl] at R
    rw [impl_reducedAt_l0_eq, decide_eq_true (show (v : Int) < g.1 by omega), cond_true, impl_val_p hg hv', Option.bind_some, ← R]
    unfold mq
    by_cases c : v = q
    · rw [beq_t (show (v : Int) = (q : Int) by omega), cond_true, if_pos c]; rfl
    · rw [beq_f (show ¬ (v : Int) = (q : Int) by omega), cond_false, if_neg c, w64_id (by omega) (by omega), show (((val (Eg g) v).toNat : Nat) : Int) - 1 = val (Eg g) v - 1 by omega]
theorem delR_p {c : List Int → Option Bool} {p : List Int → Bool} : ∀ {l : List (List Int)}, (∀ d ∈ l, c d = some (p d)) → Lb.delR c l = some (l.filter fun d => !p d)
  | [], _ => rfl
  | d :: l, h => by
    show (c d).bind _ = _
    rw [h d List.mem_cons_self, Option.bind_some, delR_p fun e he => h e (List.mem_cons_of_mem _ he), Option.bind_some, List.filter_cons]
    cases p d <;> rfl
/-- the parking functions, in the order in which they are made -/
noncomputable def pks (g : Gr) (q : Nat) : List (List Nat) := by
  classical
  exact (cs (mqs g q (N g))).filter fun d => decide (Pk q (List.range (N g)) (Eg g) fun v => d.getD v 0)
theorem reducedAt_p {g : Gr} (hg : GOk g) {q : Nat} (hq : q < N g) : impl_reducedAt g (q : Int) = some ((pks g q).map ints) := by
  classical
  have hn := gN hg
  have e0 : ([([] : List Int)] : List (List Int)) = (cs (mqs g q 0)).map ints := rfl
  rw [impl_reducedAt_eq, e0]
  have := red0 hg hq (N g) 0 (by omega)
  rw [show ((0 : Nat) : Int) = 0 from rfl] at this
  rw [this, slices_DeleteFunc_int_int__reducedAt_1_eq]
  have hm : ∀ d ∈ cs (mqs g q (N g)), d.length = N g := fun d hd => by
    rw [(cs_mem.1 hd).1]
    unfold mqs
    rw [List.length_map, List.length_range]
  have h12 : ∀ x ∈ mqs g q (N g), x ≤ 12 := fun x hx => by
    obtain ⟨u, _, rfl⟩ := List.mem_map.1 hx
    exact mq_le hg q u
  unfold Lb.delRows
  rw [if_pos (by
    rw [List.length_map]
    have h1 := cs_len h12
    have h2 : (12 : Nat) ^ (mqs g q (N g)).length ≤ 12 ^ 6 := Nat.pow_le_pow_right (by decide) (by unfold mqs; rw [List.length_map, List.length_range]; omega)
    have p6 : (12 : Nat) ^ 6 = 2985984 := by decide
    omega)]
  let p : List Int → Bool := fun d => (impl_reducedAt_1 d g (q : Int)).getD false
  rw [delR_p (p := p) fun d hd => by
    obtain ⟨c, hc, rfl⟩ := List.mem_map.1 hd
    obtain ⟨b, b1, _⟩ := burn_pk hg (hm c hc) hq
    show _ = some ((impl_reducedAt_1 (ints c) g (q : Int)).getD false)
    rw [b1]; rfl]
  rw [Option.bind_some]
  congr 1
  rw [List.filter_map]
  congr 1
  unfold pks
  refine List.filter_congr fun d hd => ?_
  obtain ⟨b, b1, b2⟩ := burn_pk hg (hm d hd) hq
  show (!(impl_reducedAt_1 (ints d) g (q : Int)).getD false) = _
  rw [b1, Option.getD_some, Bool.eq_iff_iff, decide_eq_true_iff, ← b2]
  cases b <;> simp
end Go.Proofs.YtafgbjhojkgbjaaGreatDoor.D.Tq
namespace Go.Proofs.YtafgbjhojkgbjaaGreatDoor.D.Tq
open Go Go.Den
set_option linter.unusedVariables false
set_option linter.unusedSimpArgs false
theorem val_sum {n : Nat} : ∀ {E : Es}, GE n E → sm n (val E) = 2 * (E.length : Int)
  | [], _ => by
    show sm n (fun _ => 0) = _
    rw [sm_zero]; rfl
  | e :: E, h => by
    obtain ⟨h1, h2⟩ := h e List.mem_cons_self
    have : sm n (val (e :: E)) = sm n (fun v => ends e v + val E v) := sm_congr fun v _ => val_cons e E v
    rw [this, sm_add, val_sum h.tail]
    have h3 : sm n (fun v => ends e v) = 2 := by
      have := sm_pair (a := e.1) (b := e.2) (n := n) (x := 1) (y := 1) (by omega) (by omega) h2
      exact this
    rw [h3, List.length_cons]
    omega
theorem ent_p {g : Gr} {a b : Nat} (ha : a < N g - 1) (hb : b < N g - 1) : ent (RLM g) a b = le (Eg g) (a + 1) (b + 1) := by
  unfold ent RLM
  rw [getD_range_map _ ha, getD_range_map _ hb]
theorem det2 (x y a b : Int) (h : 0 ≤ a * b) : x * y - a * b ≤ x * y := by grind
theorem det3 (x y z a b c d e f : Int) (h1 : 0 ≤ x * (a * b)) (h2 : 0 ≤ y * (c * d)) (h3 : 0 ≤ z * (e * f)) (h4 : 0 ≤ e * (a * d)) (h5 : 0 ≤ c * (f * b)) :
    x * (y * z - a * b) - e * (f * z + a * d) - c * (f * b + y * d) ≤ x * y * z := by grind
theorem small3 : ∀ x, x < 13 → ∀ y, y < 13 → ∀ z, z < 13 → x + y + z ≤ 17 → x * y * z ≤ 400 := by decide +kernel
theorem small3' {x y z : Int} (hx : 0 ≤ x ∧ x ≤ 12) (hy : 0 ≤ y ∧ y ≤ 12) (hz : 0 ≤ z ∧ z ≤ 12) (h : x + y + z ≤ 17) : x * y * z ≤ 400 := by
  obtain ⟨a, rfl⟩ := Int.eq_ofNat_of_zero_le hx.1
  obtain ⟨b, rfl⟩ := Int.eq_ofNat_of_zero_le hy.1
  obtain ⟨c, rfl⟩ := Int.eq_ofNat_of_zero_le hz.1
  have := small3 a (by omega) b (by omega) c (by omega) (by omega)
  have h2 := Int.ofNat_le.2 this
  simpa using h2
theorem trs_400 {g : Gr} (hg : GOk g) (hn : N g ≤ 4) (hl : g.2.length ≤ 9) (h2 : 2 ≤ N g) : trs g ≤ 400 := by
  obtain ⟨gE1, gE2, gE3⟩ := gE hg
  have hs := val_sum gE1
  have hE : (Eg g).length = g.2.length := by unfold Eg; rw [List.length_map]
  have v0 := val_12 hg
  have m0 : ∀ a b, 0 ≤ mul (Eg g) a b := fun a b => (mul_bd a b (Eg g)).1
  have hp := val_pos hg (v := 0) (q := 1) (by omega) (by omega) (by decide)
  have ee : ∀ a b, a < N g - 1 → b < N g - 1 → ent (RLM g) a b = le (Eg g) (a + 1) (b + 1) := fun a b ha hb => ent_p ha hb
  have l1 : ∀ a, le (Eg g) a a = val (Eg g) a := fun a => if_pos rfl
  have l2 : ∀ a b, a ≠ b → le (Eg g) a b = - mul (Eg g) a b := fun a b h => if_neg (Ne.symm h)
  unfold trs
  have cases3 : N g = 2 ∨ N g = 3 ∨ N g = 4 := by omega
  rcases cases3 with c | c | c
  · rw [c] at ee ⊢
    have e : List.range (2 - 1) = [0] := rfl
    rw [e]
    simp only [dts, exs, List.nil_append]
    rw [ee 0 0 (by decide) (by decide), l1]
    have := v0 1
    simp
    omega
  · rw [c] at ee ⊢
    have e : List.range (3 - 1) = [0, 1] := rfl
    rw [e]
    simp only [dts, exs, List.nil_append, List.append_nil, List.singleton_append]
    rw [ee 0 0 (by decide) (by decide), ee 0 1 (by decide) (by decide), ee 1 0 (by decide) (by decide), ee 1 1 (by decide) (by decide), l1, l1, l2 _ _ (by decide), l2 _ _ (by decide)]
    have p1 := Int.mul_nonneg (m0 (0 + 1) (1 + 1)) (m0 (1 + 1) (0 + 1))
    have q1 := v0 (0 + 1)
    have q2 := v0 (1 + 1)
    have q3 : val (Eg g) (0 + 1) * val (Eg g) (1 + 1) ≤ 12 * 12 := Int.mul_le_mul q1.2 q2.2 q2.1 (by decide)
    generalize val (Eg g) (0 + 1) = x at *
    generalize val (Eg g) (1 + 1) = y at *
    generalize mul (Eg g) (0 + 1) (1 + 1) = a at *
    generalize mul (Eg g) (1 + 1) (0 + 1) = b at *
    have := det2 x y a b p1
    have e2 : 1 * x * (1 * y * 1 + 0) + (-1 * -a * (1 * -b * 1 + 0) + 0) = x * y - a * b := by grind
    rw [e2]
    omega
  · rw [c] at ee ⊢
    have e : List.range (4 - 1) = [0, 1, 2] := rfl
    rw [e]
    simp only [dts, exs, List.nil_append, List.append_nil, List.singleton_append, List.cons_append]
    rw [ee 0 0 (by decide) (by decide), ee 0 1 (by decide) (by decide), ee 0 2 (by decide) (by decide), ee 1 0 (by decide) (by decide), ee 1 1 (by decide) (by decide), ee 1 2 (by decide) (by decide), ee 2 0 (by decide) (by decide), ee 2 1 (by decide) (by decide), ee 2 2 (by decide) (by decide), l1, l1, l1, l2 (0 + 1) (1 + 1) (by decide), l2 (0 + 1) (2 + 1) (by decide), l2 (1 + 1) (0 + 1) (by decide), l2 (1 + 1) (2 + 1) (by decide), l2 (2 + 1) (0 + 1) (by decide), l2 (2 + 1) (1 + 1) (by decide)]
    have s4 : sm 4 (val (Eg g)) = 0 + val (Eg g) 0 + val (Eg g) 1 + val (Eg g) 2 + val (Eg g) 3 := rfl
    rw [c, s4, hE] at hs
    have q1 := v0 1
    have q2 := v0 2
    have q3 := v0 3
    have hb := small3' q1 q2 q3 (by omega)
    have k1 := Int.mul_nonneg q1.1 (Int.mul_nonneg (m0 2 3) (m0 3 2))
    have k2 := Int.mul_nonneg q2.1 (Int.mul_nonneg (m0 1 3) (m0 3 1))
    have k3 := Int.mul_nonneg q3.1 (Int.mul_nonneg (m0 1 2) (m0 2 1))
    have k4 := Int.mul_nonneg (m0 1 2) (Int.mul_nonneg (m0 2 3) (m0 3 1))
    have k5 := Int.mul_nonneg (m0 1 3) (Int.mul_nonneg (m0 2 1) (m0 3 2))
    have := det3 _ _ _ _ _ _ _ _ _ k1 k2 k3 k4 k5
    simp only [Nat.zero_add, Nat.reduceAdd]
    generalize val (Eg g) 1 = x at *
    generalize val (Eg g) 2 = y at *
    generalize val (Eg g) 3 = z at *
    generalize mul (Eg g) 1 2 = m12 at *
    generalize mul (Eg g) 2 1 = m21 at *
    generalize mul (Eg g) 1 3 = m13 at *
    generalize mul (Eg g) 3 1 = m31 at *
    generalize mul (Eg g) 2 3 = m23 at *
    generalize mul (Eg g) 3 2 = m32 at *
    grind
theorem tot_app (c : Nat → Nat) : ∀ (l m : List Nat), tot (l ++ m) c = tot l c + tot m c
  | [], m => (Nat.zero_add _).symm
  | v :: l, m => by
    show c v + tot (l ++ m) c = c v + tot l c + tot m c
    rw [tot_app c l m, Nat.add_assoc]
theorem tot_range (c : Nat → Nat) : ∀ n, sm n (fun v => (c v : Int)) = (tot (List.range n) c : Int)
  | 0 => rfl
  | n + 1 => by
    rw [List.range_succ, tot_app]
    show sm n _ + (c n : Int) = ((tot (List.range n) c + (c n + 0) : Nat) : Int)
    rw [tot_range c n]
    omega
end Go.Proofs.YtafgbjhojkgbjaaGreatDoor.D.Tq
namespace Go.Proofs.YtafgbjhojkgbjaaGreatDoor.D.Tq
open Go Go.Den
set_option linter.unusedVariables false
set_option linter.unusedSimpArgs false
theorem vtxT {g : Gr} (hg : GOk g) {q : Nat} (hq : q < N g) : impl_isVertex g (q : Int) = some true := by
  have hn := gN hg
  rw [impl_isVertex_eq, okT hg, Option.bind_some, cond_true, within_p, w64_id (n := g.1 - 1) (by omega) (by omega), decide_eq_true (by omega)]; rfl
theorem fullT {g : Gr} (hg : GOk g) {q : Nat} (hq : q < N g) : ∃ x, impl_FullPile g (q : Int) = some x ∧ vec (N g) x (fun w => if w = q then 0 else val (Eg g) w - 1) := by
  have hn := gN hg
  obtain ⟨gE1, gE2, gE3⟩ := gE hg
  have hr1 : (decide (0 ≤ g.1) && decide (g.1 ≤ (room : Int))) = true := by rw [room]; simp; omega
  rw [impl_FullPile_eq, vtxT hg hq, Option.bind_some]
  simp only [Bool.not_true, cond_false]
  rw [hr1, cond_true, List.length_replicate, show g.1.toNat = N g from rfl]
  have := upFold (n := N g) (f := fun s i => impl_FullPile_l0 (q : Int) g s ((N g : Nat) : Int) i) (g := fun k s => if k = q then s else s.set k (val (Eg g) k - 1)) (fun k s => vec (N g) s (fun w => if w < k then (if w = q then 0 else val (Eg g) w - 1) else 0)) (fun k s hk hs => by
    have hb := val_12 hg k
    by_cases c : k = q
    · rw [if_pos c]
      refine ⟨?_, hs.congr fun w hw => ?_⟩
      · show impl_FullPile_l0 (q : Int) g s ((N g : Nat) : Int) (k : Int) = _
        rw [impl_FullPile_l0_eq, dec_lt_t hk, cond_true, eq_f (show (k : Int) = (q : Int) by omega), cond_false, w64_succ hk (by omega)]
      · by_cases c2 : w = k
        · subst c2; rw [if_neg (by omega), if_pos (by omega), if_pos c]
        · by_cases c3 : w < k
          · rw [if_pos c3, if_pos (show w < k + 1 by omega)]
          · rw [if_neg c3, if_neg (show ¬ w < k + 1 by omega)]
    · rw [if_neg c]
      refine ⟨?_, (hs.set hk _).congr fun w hw => ?_⟩
      · show impl_FullPile_l0 (q : Int) g s ((N g : Nat) : Int) (k : Int) = _
        rw [impl_FullPile_l0_eq, dec_lt_t hk, cond_true, ne_t (show ¬ (k : Int) = (q : Int) by omega), cond_true, impl_val_p hg hk, Option.bind_some, inside_lt (by rw [hs.1]; exact hk), cond_true, w64_succ hk (by omega), Int.toNat_natCast, w64_id (by omega) (by omega)]
      · by_cases c2 : w = k
        · subst c2; rw [if_pos rfl, if_pos (by omega), if_neg c]
        · rw [if_neg c2]
          by_cases c3 : w < k
          · rw [if_pos c3, if_pos (show w < k + 1 by omega)]
          · rw [if_neg c3, if_neg (show ¬ w < k + 1 by omega)]) (s := List.replicate (N g) 0) ((vec.zero (N g)).congr fun w hw => by rw [if_neg (by omega)])
  refine ⟨_, this.1.trans ?_, this.2.congr fun w hw => if_pos hw⟩
  rw [impl_FullPile_l0_eq, dec_lt_f]; rfl
theorem onG {g : Gr} (hg : GOk g) : On (List.range (N g)) (Eg g) := fun e he => by
  obtain ⟨gE1, gE2, gE3⟩ := gE hg
  have := gE1 e he
  exact ⟨List.mem_range.2 (by omega), List.mem_range.2 this.2⟩
theorem cnG {g : Gr} (hg : GOk g) : Cn (In (List.range (N g))) (Eg g) := fun S s1 s2 => by
  have hn := gN hg
  refine Classical.byContradiction fun no => ?_
  have ns : ∀ e ∈ Eg g, (S e.1 ↔ S e.2) := fun e he => Classical.byContradiction fun k => no ⟨e, he, k⟩
  have mE : ∀ {j : Nat}, j < g.2.length → (S (g.2.getD j (0, 0)).1.toNat ↔ S (g.2.getD j (0, 0)).2.toNat) := fun {j} hj => ns _ (List.mem_map.2 ⟨_, getD_mem (0, 0) hj, rfl⟩)
  have key : ∀ v : Int, Conn g.2 v → (S v.toNat ↔ S 0) := fun v hv => by
    induction hv with
    | zero => exact Iff.rfl
    | fwd hj _ ih => exact (mE hj).symm.trans ih
    | bwd hj _ ih => exact (mE hj).trans ih
  have all : ∀ v, v < N g → (S v ↔ S 0) := fun v hv => by
    have := key (v : Int) (hg.2.2 (v : Int) (by omega) (by omega))
    rwa [Int.toNat_natCast] at this
  obtain ⟨v, hv, h1⟩ := s1
  obtain ⟨w, hw, h2⟩ := s2
  exact h2 ((all w (List.mem_range.1 hw)).2 ((all v (List.mem_range.1 hv)).1 h1))
theorem out_pos {S : Nat → Prop} {v : Nat} : ∀ {A : Eds} {e : Nat × Nat}, e ∈ A → ((e.1 = v ∧ ¬ S e.2) ∨ (e.2 = v ∧ ¬ S e.1)) → 0 < outE S v A
  | d :: A, e, he, h => by
    show 0 < ot S v d + outE S v A
    rcases List.mem_cons.1 he with rfl | he
    · rw [ot_t h]; omega
    · have := out_pos he h; omega
theorem pk_none {g : Gr} (hg : GOk g) {q : Nat} (hq : q < N g) {c : Nat → Nat} (hc : ∀ v, v < N g → c v = 0) : Pk q (List.range (N g)) (Eg g) c := fun S s1 s2 => by
  obtain ⟨v, hv, h1⟩ := s2
  obtain ⟨e, he, hx⟩ := cnG hg S ⟨v, hv, h1⟩ ⟨q, List.mem_range.2 hq, s1⟩
  obtain ⟨o1, o2⟩ := onG hg e he
  by_cases c1 : S e.1
  · have c2 : ¬ S e.2 := fun k => hx ⟨fun _ => k, fun _ => c1⟩
    exact ⟨e.1, o1, c1, by rw [hc _ (List.mem_range.1 o1)]; exact out_pos he (.inl ⟨rfl, c2⟩)⟩
  · have c2 : S e.2 := Classical.byContradiction fun k => hx ⟨fun h => absurd h c1, fun h => absurd h k⟩
    exact ⟨e.2, o2, c2, by rw [hc _ (List.mem_range.1 o2)]; exact out_pos he (.inr ⟨rfl, c1⟩)⟩
theorem mq_pos {g : Gr} (hg : GOk g) {q : Nat} (hq : q < N g) {v : Nat} (hv : v < N g) : 1 ≤ mq g q v := by
  unfold mq
  by_cases c : v = q
  · rw [if_pos c]; exact Nat.le_refl _
  · rw [if_neg c]
    have := val_pos hg hv hq c
    omega
theorem mqs_get {g : Gr} {q k i : Nat} (h : i < k) : (mqs g q k).getD i 0 = mq g q i := getD_range_map _ h
theorem mqs_len (g : Gr) (q k : Nat) : (mqs g q k).length = k := by unfold mqs; rw [List.length_map, List.length_range]
theorem pks_mem {g : Gr} {q : Nat} {d : List Nat} : d ∈ pks g q ↔ d ∈ cs (mqs g q (N g)) ∧ Pk q (List.range (N g)) (Eg g) fun v => d.getD v 0 := by
  classical
  unfold pks
  rw [List.mem_filter, decide_eq_true_iff]
theorem zero_mem {g : Gr} (hg : GOk g) {q : Nat} (hq : q < N g) : List.replicate (N g) 0 ∈ pks g q := by
  have z : ∀ v, (List.replicate (N g) 0).getD v 0 = 0 := fun v => by
    rw [List.getD_eq_getElem?_getD, List.getElem?_replicate]; split <;> rfl
  refine pks_mem.2 ⟨cs_mem.2 ⟨by rw [List.length_replicate, mqs_len], fun i hi => ?_⟩, pk_none hg hq fun v hv => z v⟩
  rw [mqs_len] at hi
  rw [z, mqs_get hi]
  exact mq_pos hg hq hi
theorem pks_len {g : Gr} (hg : GOk g) (q : Nat) : (pks g q).length ≤ 2985984 := by
  have h12 : ∀ x ∈ mqs g q (N g), x ≤ 12 := fun x hx => by
    obtain ⟨u, _, rfl⟩ := List.mem_map.1 hx
    exact mq_le hg q u
  have h1 := cs_len h12
  have hn := gN hg
  have h2 : (12 : Nat) ^ (mqs g q (N g)).length ≤ 12 ^ 6 := Nat.pow_le_pow_right (by decide) (by rw [mqs_len]; omega)
  have p6 : (12 : Nat) ^ 6 = 2985984 := by decide
  have h3 : (pks g q).length ≤ (cs (mqs g q (N g))).length := List.length_filter_le _ _
  omega
/-- the pile of a parking function -/
def pile (g : Gr) (q : Nat) (d : List Nat) : List Int := (List.range (N g)).map fun w => (if w = q then 0 else val (Eg g) w - 1) + - ((d.getD w 0 : Nat) : Int)
theorem pile_vec (g : Gr) (q : Nat) (d : List Nat) : vec (N g) (pile g q d) fun w => (if w = q then 0 else val (Eg g) w - 1) + - ((d.getD w 0 : Nat) : Int) :=
  ⟨by unfold pile; rw [List.length_map, List.length_range], fun w hw => getD_range_map _ hw⟩
theorem pk_bd {g : Gr} (hg : GOk g) {q : Nat} {d : List Nat} (h : d ∈ pks g q) : d.length = N g ∧ ∀ w, d.getD w 0 ≤ 12 := by
  obtain ⟨h1, h2⟩ := cs_mem.1 (pks_mem.1 h).1
  rw [mqs_len] at h1 h2
  refine ⟨h1, fun w => ?_⟩
  by_cases c : w < N g
  · have := h2 w c
    rw [mqs_get c] at this
    have := mq_le hg q w
    omega
  · rw [List.getD_eq_getElem?_getD, List.getElem?_eq_none (by omega)]; exact Nat.zero_le _
theorem recP_p {g : Gr} (hg : GOk g) (hn4 : N g ≤ 4) (h2 : 2 ≤ N g) (hl : g.2.length ≤ 9) {q : Nat} (hq : q < N g) : ∃ R, impl_RecurrentPiles g (q : Int) = some (R, true) ∧ R.Perm ((pks g q).map (pile g q)) := by
  have hn := gN hg
  obtain ⟨f, f1, f2⟩ := fullT hg hq
  have pl := pks_len hg q
  rw [impl_RecurrentPiles_eq, vtxT hg hq, Option.bind_some, impl_GroupOrder_eq, iTrees_p hg, Option.bind_some, Option.bind_some, decide_eq_false (by have := trs_400 hg hn4 hl h2; omega), f1, Option.bind_some, reducedAt_p hg hq, Option.bind_some]
  simp only [Bool.not_true, cond_false, List.length_map]
  have key : ∀ k, k ≤ (pks g q).length → impl_RecurrentPiles_l0 f [] ((pks g q).map ints) ((pks g q).length : Int) 0 = impl_RecurrentPiles_l0 f (((pks g q).take k).map (pile g q)) ((pks g q).map ints) ((pks g q).length : Int) (k : Int) := by
    intro k
    induction k with
    | zero => exact fun _ => rfl
    | succ k ih =>
      intro hk
      have hk' : k < (pks g q).length := by omega
      have hm := List.getElem_mem hk'
      obtain ⟨b1, b2⟩ := pk_bd hg hm
      have eg : ((pks g q).map ints).getD k [] = ints (pks g q)[k] := by
        rw [List.getD_eq_getElem?_getD, List.getElem?_map, List.getElem?_eq_getElem hk']; rfl
      obtain ⟨m, m1, m2⟩ := neg_p hn.2.2 (ints_vec b1) fun w hw => by
        have := b2 w
        show -100000 ≤ (((pks g q)[k].getD w 0 : Nat) : Int) ∧ (((pks g q)[k].getD w 0 : Nat) : Int) ≤ 100000
        omega
      obtain ⟨p, p1, p2⟩ := plus_p hn.2.2 f2 m2 (fun w hw => by
        have := val_12 hg w
        show -100000 ≤ (if w = q then (0 : Int) else val (Eg g) w - 1) ∧ (if w = q then (0 : Int) else val (Eg g) w - 1) ≤ 100000
        split <;> omega) fun w hw => by
        have := b2 w
        show -100000 ≤ -(((pks g q)[k].getD w 0 : Nat) : Int) ∧ -(((pks g q)[k].getD w 0 : Nat) : Int) ≤ 100000
        omega
      have ep : p = pile g q (pks g q)[k] := p2.eq (pile_vec g q _) fun w _ => rfl
      rw [ih (by omega), impl_RecurrentPiles_l0_eq, dec_lt_t hk', inside_lt (by rw [List.length_map]; exact hk'), cond_true, cond_true, Int.toNat_natCast, eg, m1, Option.bind_some, p1, Option.bind_some, decide_eq_true (by rw [List.length_map, List.length_take, room]; simp only [List.length_singleton]; omega), cond_true, w64_succ hk' (by omega), ep, List.take_add_one, List.getElem?_eq_getElem hk', List.map_append]
      rfl
  rw [key _ (Nat.le_refl _), List.take_of_length_le (Nat.le_refl _), impl_RecurrentPiles_l0_eq, dec_lt_f, cond_false, slices_SortFunc_int_int__Compare_int_int_eq]
  unfold Lb.sortRows
  rw [if_pos ⟨by rw [List.length_map]; exact List.length_pos_of_mem (zero_mem hg hq), by rw [List.length_map]; omega, fun r hr => by
    obtain ⟨d, _, rfl⟩ := List.mem_map.1 hr
    rw [(pile_vec g q d).1]
    omega⟩, Option.bind_some]
  exact ⟨_, rfl, List.mergeSort_perm _ _⟩
end Go.Proofs.YtafgbjhojkgbjaaGreatDoor.D.Tq
namespace Go.Proofs.YtafgbjhojkgbjaaGreatDoor.D.Tq
open Go Go.Den
set_option linter.unusedVariables false
set_option linter.unusedSimpArgs false
theorem sm_less0 {n q : Nat} (hq : q < n) (f : Nat → Int) : sm n (fun v => if v = q then 0 else f v) = sm n f - f q := by
  have : sm n f = sm n (fun v => (if v = q then 0 else f v) + if v = q then f q else 0) := sm_congr fun v _ => by
    by_cases c : v = q
    · rw [if_pos c, if_pos c, c]; omega
    · rw [if_neg c, if_neg c]; omega
  rw [this, sm_add, sm_one, if_pos hq]
  omega
theorem sm_neg' (f : Nat → Int) : ∀ n, sm n (fun v => - f v) = - sm n f
  | 0 => rfl
  | n + 1 => by rw [sm, sm, sm_neg' f n]; omega
theorem sm_one' : ∀ n : Nat, sm n (fun _ => (1 : Int)) = n
  | 0 => rfl
  | n + 1 => by rw [sm, sm_one' n]; omega
/-- the level of a parking function -/
def lev (g : Gr) (d : List Nat) : Nat := g.2.length + 1 - N g - tot (List.range (N g)) fun v => d.getD v 0
theorem tot_q {g : Gr} {q : Nat} (hq : q < N g) {c : Nat → Nat} (hc : c q = 0) : tot (List.range (N g)) c = tot ((List.range (N g)).erase q) c := by
  rw [tot_erase (List.mem_range.2 hq), hc, Nat.zero_add]
theorem pk_q {g : Gr} {q : Nat} (hq : q < N g) {d : List Nat} (h : d ∈ pks g q) : d.getD q 0 = 0 := by
  obtain ⟨h1, h2⟩ := cs_mem.1 (pks_mem.1 h).1
  rw [mqs_len] at h2
  have := h2 q hq
  rw [mqs_get hq] at this
  unfold mq at this
  rw [if_pos rfl] at this
  omega
theorem lev_p {g : Gr} (hg : GOk g) {q : Nat} (hq : q < N g) {d : List Nat} (h : d ∈ pks g q) : tot (List.range (N g)) (fun v => d.getD v 0) + N g ≤ g.2.length + 1 := by
  obtain ⟨gE1, gE2, gE3⟩ := gE hg
  have := pk_tot (Eg g).length rfl List.nodup_range (List.mem_range.2 hq) (onG hg) (pks_mem.1 h).2
  rw [List.length_range, gE3, ← tot_q hq (pk_q hq h)] at this
  exact this
/-- the level of a pile, from its sum -/
def lvp (g : Gr) (q : Nat) (p : List Int) : Nat := (sm p.length (fun w => p.getD w 0) + val (Eg g) q - (g.2.length : Int)).toNat
theorem pile_lev {g : Gr} (hg : GOk g) {q : Nat} (hq : q < N g) {d : List Nat} (h : d ∈ pks g q) : sm (pile g q d).length (fun w => (pile g q d).getD w 0) + val (Eg g) q - (g.2.length : Int) = (lev g d : Int) := by
  obtain ⟨gE1, gE2, gE3⟩ := gE hg
  have hv := pile_vec g q d
  have ht := lev_p hg hq h
  rw [hv.1, sm_congr hv.2, sm_add, sm_less0 hq (fun w => val (Eg g) w - 1), sm_congr (f := fun w => val (Eg g) w - 1) (g := fun w => val (Eg g) w + - 1) (fun w _ => by omega), sm_add, sm_neg', sm_one', sm_neg', val_sum gE1, gE3, tot_range]
  unfold lev
  omega
theorem lvp_pile {g : Gr} (hg : GOk g) {q : Nat} (hq : q < N g) {d : List Nat} (h : d ∈ pks g q) : lvp g q (pile g q d) = lev g d := by
  unfold lvp
  rw [pile_lev hg hq h, Int.toNat_natCast]
theorem level_p {g : Gr} (hg : GOk g) (hn4 : N g ≤ 4) (h2 : 2 ≤ N g) (hl : g.2.length ≤ 9) {q : Nat} (hq : q < N g) : ∃ l, impl_LevelCounts g (q : Int) = some (l, true) ∧ l.length = g.2.length + 2 - N g ∧ ∀ i, i < g.2.length + 2 - N g → l.getD i 0 = (((pks g q).filter fun d => lev g d == i).length : Int) := by
  have hn := gN hg
  obtain ⟨R, r1, r2⟩ := recP_p hg hn4 h2 hl hq
  have pl := pks_len hg q
  have rl : R.length ≤ 2985984 := by rw [r2.length_eq, List.length_map]; exact pl
  have hG : N g ≤ g.2.length + 1 := by
    have := lev_p hg hq (zero_mem hg hq)
    omega
  rw [impl_LevelCounts_eq, r1, Option.bind_some]
  simp only [Bool.not_true, cond_false]
  rw [genusT hg, Option.bind_some]
  have e1 : w64 ((g.2.length : Int) - (N g : Int) + 1 + 1) = ((g.2.length + 2 - N g : Nat) : Int) := by
    rw [w64_id (by omega) (by omega)]; omega
  rw [e1, decide_eq_true (show (0 : Int) ≤ ((g.2.length + 2 - N g : Nat) : Int) by omega), decide_eq_true (show ((g.2.length + 2 - N g : Nat) : Int) ≤ (room : Int) by rw [room]; omega), Int.toNat_natCast]
  simp only [Bool.and_true, cond_true]
  generalize hGG : g.2.length + 2 - N g = G
  have row : ∀ p ∈ R, ∃ s, impl_sumOf p = some s ∧ w64 (w64 (s + val (Eg g) q) - (g.2.length : Int)) = (lvp g q p : Int) ∧ lvp g q p < G := fun p hp => by
    obtain ⟨d, hd, rfl⟩ := List.mem_map.1 (r2.mem_iff.1 hp)
    have hv := pile_vec g q d
    obtain ⟨b1, b2⟩ := pk_bd hg hd
    have hlv := pile_lev hg hq hd
    have hvq := val_12 hg q
    refine ⟨_, sum_i (by rw [hv.1]; omega) fun k hk => ?_, ?_, ?_⟩
    · rw [hv.1] at hk
      rw [hv.2 k hk]
      have h1 := val_12 hg k
      have h2 := b2 k
      show -1000 ≤ (if k = q then (0 : Int) else val (Eg g) k - 1) + -((d.getD k 0 : Nat) : Int) ∧ (if k = q then (0 : Int) else val (Eg g) k - 1) + -((d.getD k 0 : Nat) : Int) ≤ 1000
      split <;> omega
    · have hle : lev g d ≤ 1000 := by unfold lev; omega
      rw [w64_id (n := sm (pile g q d).length (fun w => (pile g q d).getD w 0) + val (Eg g) q) (by omega) (by omega), w64_id (by omega) (by omega), hlv, lvp_pile hg hq hd]
    · rw [lvp_pile hg hq hd, ← hGG]
      unfold lev
      omega
  obtain ⟨j1, j2⟩ := upFold (n := R.length) (f := fun s i => impl_LevelCounts_l0 (q : Int) g R s (R.length : Int) i) (g := fun k s => s.set (lvp g q (R.getD k [])) (s.getD (lvp g q (R.getD k [])) 0 + 1)) (fun k s => s.length = G ∧ ∀ i, i < G → s.getD i 0 = (((R.take k).filter fun p => lvp g q p == i).length : Int)) (fun k s hk hs => by
    obtain ⟨s1, s2⟩ := hs
    obtain ⟨x, x1, x2, x3⟩ := row _ (getD_mem ([] : List Int) hk)
    have cl : ∀ i, ((R.take k).filter fun p => lvp g q p == i).length ≤ k := fun i => by
      have := List.length_filter_le (fun p => lvp g q p == i) (R.take k)
      rw [List.length_take] at this
      omega
    have sv := s2 _ x3
    have cb := cl (lvp g q (R.getD k []))
    refine ⟨?_, by rw [List.length_set]; exact s1, fun i hi => ?_⟩
    · show impl_LevelCounts_l0 (q : Int) g R s (R.length : Int) (k : Int) = _
      rw [impl_LevelCounts_l0_eq, dec_lt_t hk, inside_lt hk, cond_true, cond_true, Int.toNat_natCast, x1, Option.bind_some, impl_val_p hg hq, Option.bind_some, x2, inside_lt (by omega), cond_true, cond_true, Int.toNat_natCast, w64_succ hk (by omega), w64_id (n := s.getD (lvp g q (R.getD k [])) 0 + 1) (by omega) (by omega)]
    · rw [List.take_add_one, List.getElem?_eq_getElem hk, getD_lt hk, List.filter_append]
      rw [getD_lt hk] at x3 sv
      by_cases c : lvp g q R[k] = i
      · subst c
        rw [List.getD_eq_getElem?_getD, List.getElem?_set_self (by omega), Option.getD_some, sv]
        simp
      · rw [List.getD_eq_getElem?_getD, List.getElem?_set_ne c, ← List.getD_eq_getElem?_getD, s2 i hi]
        simp [c]) (s := List.replicate G 0) ⟨by rw [List.length_replicate], fun i hi => by
      rw [List.getD_eq_getElem?_getD, List.getElem?_replicate, if_pos hi]; rfl⟩
  rw [show ((0 : Nat) : Int) = 0 from rfl] at j1
  refine ⟨_, j1.trans ?_, j2.1, fun i hi => ?_⟩
  · rw [impl_LevelCounts_l0_eq, dec_lt_f]; rfl
  · rw [j2.2 i hi, List.take_of_length_le (Nat.le_refl _), (r2.filter _).length_eq, List.filter_map, List.length_map]
    congr 2
    refine List.filter_congr fun d hd => ?_
    show (lvp g q (pile g q d) == i) = _
    rw [lvp_pile hg hq hd]
end Go.Proofs.YtafgbjhojkgbjaaGreatDoor.D.Tq
namespace Go.Proofs.YtafgbjhojkgbjaaGreatDoor.D.Tq
open Go Go.Den
set_option linter.unusedVariables false
set_option linter.unusedSimpArgs false
theorem si_one {k : Nat} {x : Nat → Int} : ∀ {n : Nat}, si n (fun i => if k = i then x i else 0) = if k < n then x k else 0
  | 0 => by rw [if_neg (by omega)]; rfl
  | n + 1 => by
    show si n _ + (if k = n then x n else 0) = _
    rw [si_one (n := n)]
    by_cases c : k = n
    · subst c
      rw [if_neg (by omega), if_pos rfl, if_pos (by omega), Int.zero_add]
    · rw [if_neg c, Int.add_zero]
      by_cases h : k < n
      · rw [if_pos h, if_pos (by omega)]
      · rw [if_neg h, if_neg (by omega)]
theorem si_le {f h : Nat → Int} : ∀ {n : Nat}, (∀ i, i < n → f i ≤ h i) → si n f ≤ si n h
  | 0, _ => Int.le_refl _
  | n + 1, k => by
    have h1 := si_le (n := n) fun i hi => k i (by omega)
    have h2 := k n (by omega)
    show si n f + f n ≤ si n h + h n
    omega
theorem si_nonneg {f : Nat → Int} {n : Nat} (h : ∀ i, i < n → 0 ≤ f i) : 0 ≤ si n f := by
  have := si_le (f := fun _ => 0) (h := f) h
  rwa [si_zero] at this
theorem si_ge {f : Nat → Int} : ∀ {n : Nat}, (∀ i, i < n → 0 ≤ f i) → ∀ {k : Nat}, k < n → f k ≤ si n f
  | n + 1, h, k, hk => by
    have h0 := si_nonneg (f := f) (n := n) fun i hi => h i (by omega)
    show f k ≤ si n f + f n
    by_cases c : k = n
    · subst c; omega
    · have := si_ge (n := n) (fun i hi => h i (by omega)) (k := k) (by omega)
      have := h n (by omega)
      omega
/-- how many there are of each level, weighed -/
theorem sum_lev {α : Type} {f : α → Nat} {G : Nat} {y : Int} : ∀ {ds : List α}, (∀ d ∈ ds, f d < G) → si G (fun i => ((ds.filter fun d => f d == i).length : Int) * y ^ i) = sl ds fun d => y ^ f d
  | [], _ => by
    refine (si_congr (g := fun _ => 0) fun i _ => ?_).trans (si_zero G)
    show (0 : Int) * _ = 0
    rw [Int.zero_mul]
  | d :: ds, h => by
    rw [sl_cons, ← sum_lev fun e he => h e (List.mem_cons_of_mem _ he)]
    have h1 : y ^ f d = si G (fun i => if f d = i then y ^ i else 0) := by rw [si_one, if_pos (h d List.mem_cons_self)]
    rw [h1, ← si_add]
    refine si_congr fun i _ => ?_
    rw [List.filter_cons]
    by_cases c : f d = i
    · subst c
      rw [if_pos (by simp), if_pos rfl, List.length_cons]
      grind
    · rw [if_neg (by simpa using c), if_neg c, Int.zero_add]
theorem out_val {v : Nat} {n : Nat} : ∀ {E : Es}, GE n E → (outE (fun w => w = v) v E : Int) = val E v
  | [], _ => rfl
  | e :: E, h => by
    have h1 := (h e List.mem_cons_self).1
    rw [val_cons, ← out_val h.tail]
    show ((ot _ v e + outE _ v E : Nat) : Int) = _
    rw [Int.natCast_add]
    congr 1
    unfold ends
    by_cases c1 : v = e.1
    · rw [if_pos c1, ot_t (.inl ⟨c1.symm, fun k => by omega⟩)]; rfl
    · rw [if_neg c1]
      by_cases c2 : v = e.2
      · rw [if_pos c2, ot_t (.inr ⟨c2.symm, fun k => by omega⟩)]; rfl
      · rw [if_neg c2, ot_f (by omega)]; rfl
theorem levels_zz {g : Gr} (hg : GOk g) {q : Nat} (hq : q < N g) (y : Int) : sl (pks g q) (fun d => y ^ lev g d) = zz y (In (List.range (N g))) (N g) (Eg g) := by
  classical
  obtain ⟨gE1, gE2, gE3⟩ := gE hg
  have hqL := List.mem_range.2 hq
  let L := List.range (N g)
  let F := wt y q L (Eg g)
  have nL : L.Nodup := List.nodup_range
  have nE' : (L.erase q).Nodup := nL.erase q
  have m1 := merino (y := y) (Eg g).length (B := 12) rfl gE2 nL hqL (onG hg)
  rw [List.length_range] at m1
  rw [← m1]
  show _ = fs 13 (L.erase q) F
  have mq1 : mq g q q = 1 := by unfold mq; rw [if_pos rfl]
  have hF : ∀ c i, F (upd c q i) = F c := fun c i => by
    have e : ∀ v, v ≠ q → upd c q i v = c v := fun v hv => by unfold upd; rw [if_neg hv]
    have iff : Pk q L (Eg g) (upd c q i) ↔ Pk q L (Eg g) c := ⟨pk_congr fun v _ hv => e v hv, pk_congr fun v _ hv => (e v hv).symm⟩
    show wt y q L (Eg g) (upd c q i) = wt y q L (Eg g) c
    by_cases k : Pk q L (Eg g) c
    · rw [wt_t k, wt_t (iff.2 k), tot_congr (c := upd c q i) (d := c) fun v hv => e v ((List.Nodup.mem_erase_iff nL).1 hv).1]
    · rw [wt_f k, wt_f fun h => k (iff.1 h)]
  have cut := fs_cut (m := mq g q) (B := 13) (L := L.erase q) (F := F) nE' (fun v _ => by have := mq_le hg q v; omega) fun c ⟨v, hv, hc⟩ => by
    obtain ⟨hne, hvL⟩ := (List.Nodup.mem_erase_iff nL).1 hv
    refine wt_f fun k => ?_
    obtain ⟨w, _, hw, hlt⟩ := k (fun w => w = v) (fun h => hne h.symm) ⟨v, hvL, rfl⟩
    subst hw
    have := out_val (v := w) gE1
    unfold mq at hc
    rw [if_neg hne] at hc
    omega
  rw [cut, ← fsm_one (m := mq g q) mq1 nL hF, ← sl_cs]
  unfold pks
  rw [sl_filter]
  refine sl_congr fun d hd => ?_
  obtain ⟨h1, h2⟩ := cs_mem.1 hd
  rw [mqs_len] at h1 h2
  have hap : ∀ v, v < N g → ap L d v = d.getD v 0 := fun v hv => ap_range h1 hv
  have d0 : d.getD q 0 = 0 := by
    have := h2 q hq
    rw [mqs_get hq, mq1] at this
    omega
  by_cases k : Pk q L (Eg g) fun v => d.getD v 0
  · rw [if_pos (decide_eq_true k)]
    have k2 : Pk q L (Eg g) (ap L d) := pk_congr (fun v hv _ => (hap v (List.mem_range.1 hv)).symm) k
    show _ = wt y q L (Eg g) (ap L d)
    rw [wt_t k2, gE3, tot_congr (c := ap L d) (d := fun v => d.getD v 0) fun v hv => hap v (List.mem_range.1 (List.mem_of_mem_erase hv))]
    unfold lev
    rw [tot_q hq d0]
    show _ = y ^ (g.2.length + 1 - (List.range (N g)).length - _)
    rw [List.length_range]
  · rw [if_neg (by simpa using k)]
    exact (wt_f fun h => k (pk_congr (fun v hv _ => hap v (List.mem_range.1 hv)) h)).symm
theorem nnG {g : Gr} (hg : GOk g) : NN g.2 := fun e he => by
  obtain ⟨j, hj, rfl⟩ := List.getElem_of_mem he
  have h1 := hg.1.1
  have h2 := hg.1.2.2 j hj
  rw [getD_lt hj] at h2
  unfold EdOk at h2
  omega
/-- the polynomial at x = 1: the sums of its columns -/
def col (T : List Int) (j : Nat) : Int := si 16 fun i => sq T i j
theorem ev_col (y : Int) (T : List Int) : ev2 1 y T = si 16 fun j => col T j * y ^ j := by
  unfold ev2
  rw [si_comm]
  refine si_congr fun j _ => ?_
  show _ = si 16 _ * y ^ j
  rw [Int.mul_comm, ← si_mul]
  refine si_congr fun i _ => ?_
  rw [Int.one_pow, Int.one_mul, Int.mul_comm]
theorem col_nonneg {T : List Int} {n : Nat} (h : SqOk T n) {j : Nat} (hj : j < 16) : 0 ≤ col T j := si_nonneg fun i hi => h.pos i j hi hj
theorem pow_one_le (i : Nat) : (1 : Int) ≤ 2 ^ i := by have := two_pos i; omega
theorem ev_le {T : List Int} {n : Nat} (h : SqOk T n) : ev2 1 1 T ≤ ev2 2 2 T := by
  unfold ev2
  refine si_le fun i hi => si_le fun j hj => ?_
  rw [Int.one_pow, Int.one_pow]
  refine Int.mul_le_mul_of_nonneg_left ?_ (h.pos i j hi hj)
  have h1 := pow_one_le i
  have h2 := pow_one_le j
  have := Int.mul_le_mul h1 h2 (by decide) (by omega)
  exact this
theorem two_512 {n : Nat} (h : n ≤ 9) : (2 : Int) ^ n ≤ 512 := by
  have := Nat.pow_le_pow_right (n := 2) (by decide) h
  have e : ∀ m : Nat, (2 : Int) ^ m = ((2 ^ m : Nat) : Int) := fun m => by simp
  rw [e]
  exact Int.ofNat_le.2 this
theorem sl_count {α : Type} : ∀ l : List α, sl l (fun _ => (1 : Int)) = l.length
  | [] => rfl
  | a :: l => by rw [sl_cons, sl_count l, List.length_cons]; omega
theorem levels_col {g : Gr} (hg : GOk g) (hl : g.2.length ≤ 9) {q : Nat} (hq : q < N g) {T : List Int} (hT : Lb.tut impl_joins g.2.length g.2 = some T) {l : List Int} (h1 : l.length = g.2.length + 2 - N g)
    (h2 : ∀ i, i < g.2.length + 2 - N g → l.getD i 0 = (((pks g q).filter fun d => lev g d == i).length : Int)) : (∀ j, j < 16 → l.getD j 0 = col T j) ∧ SqOk T g.2.length ∧ ev2 2 2 T = 2 ^ g.2.length := by
  have hn := gN hg
  obtain ⟨hS, h22⟩ := tut_ok g.2.length rfl (by omega) hT
  have h512 := two_512 hl
  have one : ∀ y, ev2 1 y T = sl (pks g q) fun d => y ^ lev g d := fun y => by
    rw [levels_zz hg hq y]
    have := tut_one (y := y) (jo := impl_joins) (fun r a b v k1 k2 k3 k4 k5 => by
      obtain ⟨v', e1, e2⟩ := joins_p k2 k1 k3 k4
      rw [e1] at k5
      cases k5
      exact e2) g.2.length (L := List.range (N g)) rfl (by omega) (nnG hg) List.nodup_range (by rw [List.length_range]; omega) (onG hg) (cnG hg) hT
    rw [List.length_range] at this
    exact this
  have hG : N g ≤ g.2.length + 1 := by
    have := lev_p hg hq (zero_mem hg hq)
    omega
  have hlev : ∀ d ∈ pks g q, lev g d < g.2.length + 2 - N g := fun d hd => by
    unfold lev
    omega
  have hle : ev2 1 1 T ≤ 512 := Int.le_trans (ev_le hS) (by rw [h22]; exact h512)
  have hcnt : ((pks g q).length : Int) ≤ 512 := by
    rw [one 1] at hle
    have : sl (pks g q) (fun d => (1 : Int) ^ lev g d) = (pks g q).length := by
      rw [← sl_count]
      exact sl_congr fun d _ => Int.one_pow
    omega
  have hc : ∀ j, j < 16 → 0 ≤ col T j ∧ col T j < 1000 := fun j hj => by
    refine ⟨col_nonneg hS hj, ?_⟩
    rw [ev_col, si_congr (f := fun j => col T j * 1 ^ j) (g := col T) fun j _ => by rw [Int.one_pow, Int.mul_one]] at hle
    have := si_ge (f := col T) (fun i hi => col_nonneg hS hi) hj
    omega
  have hlb : ∀ j, 0 ≤ l.getD j 0 ∧ l.getD j 0 < 1000 := fun j => by
    by_cases c : j < g.2.length + 2 - N g
    · rw [h2 j c]
      have := List.length_filter_le (fun d => lev g d == j) (pks g q)
      omega
    · rw [List.getD_eq_getElem?_getD, List.getElem?_eq_none (by omega)]
      simp
  refine ⟨digits 16 (a := fun j => l.getD j 0) (b := col T) (fun j _ => hlb j) hc ?_, hS, h22⟩
  rw [← ev_col, one, ← sum_lev hlev, si_cut (m := g.2.length + 2 - N g) (n := 16) (by omega) fun i c _ => by
    show l.getD i 0 * 1000 ^ i = 0
    rw [List.getD_eq_getElem?_getD, List.getElem?_eq_none (by omega)]
    simp]
  exact si_congr fun i hi => by
    show l.getD i 0 * 1000 ^ i = _
    rw [h2 i hi]
end Go.Proofs.YtafgbjhojkgbjaaGreatDoor.D.Tq
namespace Go.Proofs.YtafgbjhojkgbjaaGreatDoor.D.Tq
open Go Go.Den
set_option linter.unusedVariables false
set_option linter.unusedSimpArgs false
theorem sameT {l : List Int} (h : l.length ≤ 1000) : laws_same l l = some true := by
  rw [laws_same_eq, eq_f rfl, cond_false]
  have key : ∀ m k, k + m = l.length → laws_same_l0 l l (l.length : Int) (k : Int) = some true := by
    intro m
    induction m with
    | zero =>
      intro k hk
      have : k = l.length := by omega
      subst this
      rw [laws_same_l0_eq, dec_lt_f]; rfl
    | succ m ih =>
      intro k hk
      have hk' : k < l.length := by omega
      rw [laws_same_l0_eq, dec_lt_t hk', inside_lt hk', eq_f rfl, w64_succ hk' (by omega)]
      exact ih (k + 1) (by omega)
  exact key l.length 0 (by omega)
theorem si_bd {f : Nat → Int} {B : Int} (hB : 0 ≤ B) : ∀ {n : Nat}, (∀ i, i < n → 0 ≤ f i ∧ f i ≤ B) → n ≤ 16 → 0 ≤ si n f ∧ si n f ≤ 16 * B
  | n, h, hn => by
    refine ⟨si_nonneg fun i hi => (h i hi).1, ?_⟩
    have : ∀ n, (∀ i, i < n → 0 ≤ f i ∧ f i ≤ B) → si n f ≤ (n : Int) * B := fun n => by
      induction n with
      | zero => intro _; show (0 : Int) ≤ _; omega
      | succ n ih =>
        intro h
        have h1 := ih fun i hi => h i (by omega)
        have h2 := h n (by omega)
        show si n f + f n ≤ _
        rw [show ((n + 1 : Nat) : Int) = (n : Int) + 1 by omega, Int.add_mul, Int.one_mul]
        omega
    refine Int.le_trans (this n h) (Int.mul_le_mul_of_nonneg_right (by omega) hB)
structure Sm (T : List Int) : Prop where
  bd : ∀ i j, i < 16 → j < 16 → 0 ≤ sq T i j ∧ sq T i j ≤ 512
theorem SqOk.sm {T : List Int} {n : Nat} (h : SqOk T n) (hn : n ≤ 9) : Sm T := ⟨fun i j hi hj => ⟨h.pos i j hi hj, Int.le_trans (h.le i j hi hj) (two_512 hn)⟩⟩
theorem RowsOk.z1 {t : List (List Int)} {T : List Int} (h : RowsOk t T) {i : Nat} (hi : t.length ≤ i) (hi2 : i < 16) {j : Nat} (hj : j < 16) : sq T i j = 0 := by
  rw [← h.get i j hi2 hj, List.getD_eq_getElem?_getD (l := t), List.getElem?_eq_none hi]; rfl
theorem RowsOk.z2 {t : List (List Int)} {T : List Int} (h : RowsOk t T) {i : Nat} (hi2 : i < 16) {j : Nat} (hj : (t.getD i []).length ≤ j) (hj2 : j < 16) : sq T i j = 0 := by
  rw [← h.get i j hi2 hj2, List.getD_eq_getElem?_getD, List.getElem?_eq_none hj]; rfl
theorem getD_zeros (l : List Int) (k m : Nat) : (l ++ List.replicate k 0).getD m 0 = l.getD m 0 := by
  rw [List.getD_eq_getElem?_getD, List.getD_eq_getElem?_getD]
  by_cases c : m < l.length
  · rw [List.getElem?_append_left c]
  · rw [List.getElem?_append_right (by omega), List.getElem?_eq_none (l := l) (by omega), List.getElem?_replicate]
    split <;> rfl
theorem row2 {r : List Int} {t : List (List Int)} {n i : Int} (hr : r.length ≤ 16) : ∀ (k : Nat) (x : List Int), x.length + k = max x.length r.length → impl_RowOfOne_l2 x r t n i = impl_RowOfOne_l4 (x ++ List.replicate k 0) t n i r (r.length : Int) 0
  | 0, x, h => by
    rw [impl_RowOfOne_l2_eq, decide_eq_false (by omega), cond_false]
    simp
  | k + 1, x, h => by
    rw [impl_RowOfOne_l2_eq, decide_eq_true (by omega), cond_true, decide_eq_true (by unfold room; simp only [List.length_singleton]; omega), cond_true, row2 hr k (x ++ [0]) (by simp only [List.length_append, List.length_singleton]; omega), List.append_assoc]
    rfl
theorem row4 {r x : List Int} {t : List (List Int)} {n i : Int} (hx : x.length ≤ 16) (hr : r.length ≤ x.length) (hb : ∀ m, 0 ≤ x.getD m 0 ∧ x.getD m 0 ≤ 10000) (hb2 : ∀ m, 0 ≤ r.getD m 0 ∧ r.getD m 0 ≤ 10000) :
    ∃ y, impl_RowOfOne_l4 x t n i r (r.length : Int) 0 = impl_RowOfOne_l0 y t n (w64 (i + 1)) ∧ y.length = x.length ∧ ∀ m, y.getD m 0 = x.getD m 0 + r.getD m 0 := by
  obtain ⟨j1, j2⟩ := upFold (n := r.length) (f := fun s j => impl_RowOfOne_l4 s t n i r (r.length : Int) j) (g := fun k s => s.set k (s.getD k 0 + r.getD k 0)) (fun k s => s.length = x.length ∧ ∀ m, s.getD m 0 = x.getD m 0 + if m < k then r.getD m 0 else 0) (fun k s hk hs => by
    obtain ⟨s1, s2⟩ := hs
    have h1 := hb k
    have h2 := hb2 k
    have h3 := s2 k
    rw [if_neg (Nat.lt_irrefl k)] at h3
    refine ⟨?_, by rw [List.length_set]; exact s1, fun m => ?_⟩
    · show impl_RowOfOne_l4 s t n i r (r.length : Int) (k : Int) = _
      rw [impl_RowOfOne_l4_eq, dec_lt_t hk, inside_lt hk, inside_lt (show k < s.length by omega), cond_true, cond_true, cond_true, cond_true, Int.toNat_natCast, w64_succ hk (by omega), w64_id (n := s.getD k 0 + r.getD k 0) (by omega) (by omega)]
    · by_cases c : m = k
      · subst c
        rw [List.getD_eq_getElem?_getD, List.getElem?_set_self (by omega), Option.getD_some, h3, if_pos (by omega)]
        omega
      · rw [List.getD_eq_getElem?_getD, List.getElem?_set_ne (fun h => c h.symm), ← List.getD_eq_getElem?_getD, s2 m]
        by_cases c2 : m < k
        · rw [if_pos c2, if_pos (by omega)]
        · rw [if_neg c2, if_neg (by omega)]) (s := x) ⟨rfl, fun m => by rw [if_neg (Nat.not_lt_zero m), Int.add_zero]⟩
  rw [show ((0 : Nat) : Int) = 0 from rfl] at j1
  refine ⟨_, j1.trans ?_, j2.1, fun m => ?_⟩
  · rw [impl_RowOfOne_l4_eq, dec_lt_f]; rfl
  · rw [j2.2 m]
    by_cases c : m < r.length
    · rw [if_pos c]
    · rw [if_neg c, List.getD_eq_getElem?_getD (l := r), List.getElem?_eq_none (by omega)]; rfl
theorem row_out {x : List Int} {j : Nat} (h : x.length ≤ j) : x.getD j 0 = 0 := by rw [List.getD_eq_getElem?_getD, List.getElem?_eq_none h]; rfl
theorem rowOfOne_p {t : List (List Int)} {T : List Int} (h : RowsOk t T) (hS : Sm T) : ∃ r, impl_RowOfOne t = some r ∧ (∀ j, j < 16 → r.getD j 0 = col T j) ∧ r.length ≤ 16 ∧ (r.length = 0 ∨ r.getD (r.length - 1) 0 ≠ 0) := by
  have htl := h.len
  have key : ∀ m k, k + m = t.length → ∀ x : List Int, x.length ≤ 16 → (∀ j, j < 16 → x.getD j 0 = si k fun i => sq T i j) → ∃ y : List Int, impl_RowOfOne_l0 x t (t.length : Int) (k : Int) = some (Lb.trim y) ∧ y.length ≤ 16 ∧ ∀ j, j < 16 → y.getD j 0 = si t.length fun i => sq T i j := by
    intro m
    induction m with
    | zero =>
      intro k hk x hx hj
      have : k = t.length := by omega
      subst this
      refine ⟨x, ?_, hx, hj⟩
      rw [impl_RowOfOne_l0_eq, dec_lt_f, cond_false, impl_trimmed_eq, trimmed_p x.length rfl (by omega)]; rfl
    | succ m ih =>
      intro k hk x hx hj
      have hk' : k < t.length := by omega
      have hr := h.row k
      have hsi : ∀ j, j < 16 → 0 ≤ x.getD j 0 ∧ x.getD j 0 ≤ 10000 := fun j hj16 => by
        rw [hj j hj16]
        have := si_bd (f := fun i => sq T i j) (B := 512) (by decide) (n := k) (fun i hi => hS.bd i j (by omega) hj16) (by omega)
        omega
      have hrb : ∀ j, 0 ≤ (t.getD k []).getD j 0 ∧ (t.getD k []).getD j 0 ≤ 10000 := fun j => by
        by_cases c : j < 16
        · rw [h.get k j (by omega) c]
          have := hS.bd k j (by omega) c
          omega
        · rw [row_out (by omega)]; omega
      obtain ⟨y, y1, y2, y3⟩ := row4 (r := t.getD k []) (x := x ++ List.replicate (max x.length (t.getD k []).length - x.length) 0) (t := t) (n := (t.length : Int)) (i := (k : Int)) (by rw [List.length_append, List.length_replicate]; omega) (by rw [List.length_append, List.length_replicate]; omega) (fun j => by
        rw [getD_zeros]
        by_cases c : j < 16
        · exact hsi j c
        · rw [row_out (by omega)]; omega) hrb
      rw [List.length_append, List.length_replicate] at y2
      rw [impl_RowOfOne_l0_eq, dec_lt_t hk', inside_lt hk', cond_true, cond_true, Int.toNat_natCast, row2 hr (max x.length (t.getD k []).length - x.length) x (by omega), y1, w64_succ hk' (by omega)]
      exact ih (k + 1) (by omega) y (by omega) fun j hj16 => by
        rw [y3 j, getD_zeros, hj j hj16, h.get k j (by omega) hj16]
        rfl
  obtain ⟨y, y1, y2, y3⟩ := key t.length 0 (by omega) [] (Nat.zero_le _) fun j _ => rfl
  rw [show ((0 : Nat) : Int) = 0 from rfl] at y1
  obtain ⟨l1, l2⟩ := trim_len y.length (r := y) rfl
  refine ⟨Lb.trim y, by rw [impl_RowOfOne_eq]; exact y1, fun j hj => ?_, by omega, l2⟩
  rw [trim_get y.length rfl, y3 j hj]
  exact (si_cut (f := fun i => sq T i j) htl fun i h1 h2 => h.z1 h1 h2 hj).symm
theorem list_eq {a b : List Int} (ha : a.length = 0 ∨ a.getD (a.length - 1) 0 ≠ 0) (hb : b.length = 0 ∨ b.getD (b.length - 1) 0 ≠ 0) (h : ∀ j, a.getD j 0 = b.getD j 0) : a = b := by
  have hl : a.length = b.length := by
    rcases Nat.lt_trichotomy a.length b.length with c | c | c
    · rcases hb with k | k
      · omega
      · exact absurd ((h _).symm.trans (row_out (by omega))) k
    · exact c
    · rcases ha with k | k
      · omega
      · exact absurd ((h _).trans (row_out (by omega))) k
  exact ext_getD hl fun j _ => h j
theorem pw {i : Nat} (h : i ≤ 16) : (1 : Int) ≤ 2 ^ i ∧ (2 : Int) ^ i ≤ 65536 := by
  refine ⟨pow_one_le i, ?_⟩
  have := Nat.pow_le_pow_right (n := 2) (by decide) h
  have e : ∀ m : Nat, (2 : Int) ^ m = ((2 ^ m : Nat) : Int) := fun m => by simp
  rw [e]
  exact Int.ofNat_le.2 this
theorem mul_bd' {a b A B : Int} (ha : 0 ≤ a ∧ a ≤ A) (hb : 0 ≤ b ∧ b ≤ B) (hA : 0 ≤ A) : 0 ≤ a * b ∧ a * b ≤ A * B :=
  ⟨Int.mul_nonneg ha.1 hb.1, Int.mul_le_mul ha.2 hb.2 hb.1 hA⟩
theorem valueAt_p {t : List (List Int)} {T : List Int} (h : RowsOk t T) (hS : Sm T) : impl_ValueAt t 2 2 = some (ev2 2 2 T) := by
  have htl := h.len
  let W : Nat → Nat → Int := fun i j => sq T i j * (2 ^ i * 2 ^ j)
  have Wb : ∀ i j, i < 16 → j < 16 → 0 ≤ W i j ∧ W i j ≤ 2199023255552 := fun i j hi hj => by
    have p1 := pw (i := i) (by omega)
    have p2 := pw (i := j) (by omega)
    have p3 := mul_bd' (a := (2 : Int) ^ i) (b := 2 ^ j) (A := 65536) (B := 65536) ⟨by omega, p1.2⟩ ⟨by omega, p2.2⟩ (by decide)
    exact mul_bd' (hS.bd i j hi hj) p3 (by decide)
  have Rb : ∀ i n, i < 16 → n ≤ 16 → 0 ≤ si n (W i) ∧ si n (W i) ≤ 35184372088832 := fun i n hi hn => si_bd (f := W i) (by decide) (fun j hj => Wb i j hi (by omega)) hn
  have Vb : ∀ n, n ≤ 16 → 0 ≤ si n (fun i => si 16 (W i)) ∧ si n (fun i => si 16 (W i)) ≤ 562949953421312 := fun n hn => si_bd (by decide) (fun i hi => Rb i 16 (by omega) (Nat.le_refl _)) hn
  have inner : ∀ k, k < t.length → ∀ m j, j + m = (t.getD k []).length → impl_ValueAt_l2 2 2 (si k (fun i => si 16 (W i)) + si j (W k)) (2 ^ k) (2 ^ j) t (t.length : Int) (k : Int) (t.getD k []) ((t.getD k []).length : Int) (j : Int) = impl_ValueAt_l0 2 2 (si (k + 1) fun i => si 16 (W i)) (2 ^ (k + 1)) t (t.length : Int) ((k + 1 : Nat) : Int) := by
    intro k hk m
    have hr := h.row k
    have pk := pw (i := k) (by omega)
    induction m with
    | zero =>
      intro j hj
      have : j = (t.getD k []).length := by omega
      subst this
      rw [impl_ValueAt_l2_eq, dec_lt_f, cond_false, w64_succ hk (by omega), w64_id (n := 2 ^ k * 2) (by omega) (by omega), ← Int.pow_succ]
      have : si 16 (W k) = si (t.getD k []).length (W k) := si_cut hr fun j h1 h2 => by
        show sq T k j * _ = 0
        rw [h.z2 (by omega) h1 h2, Int.zero_mul]
      rw [← this]
      rfl
    | succ m ih =>
      intro j hj
      have hj' : j < (t.getD k []).length := by omega
      have pj := pw (i := j) (by omega)
      have hsq := hS.bd k j (by omega) (by omega)
      have b1 := mul_bd' hsq (b := (2 : Int) ^ k) (B := 65536) ⟨by omega, pk.2⟩ (by decide)
      have b2 := mul_bd' b1 (b := (2 : Int) ^ j) (B := 65536) ⟨by omega, pj.2⟩ (by decide)
      have b3 := Vb k (by omega)
      have b4 := Rb k j (by omega) (by omega)
      rw [impl_ValueAt_l2_eq, dec_lt_t hj', inside_lt hj', cond_true, cond_true, Int.toNat_natCast, h.get k j (by omega) (by omega), w64_succ hj' (by omega), w64_id (n := sq T k j * 2 ^ k) (by omega) (by omega), w64_id (n := sq T k j * 2 ^ k * 2 ^ j) (by omega) (by omega), w64_id (n := (2 : Int) ^ j * 2) (by omega) (by omega), w64_id (by omega) (by omega), ← Int.pow_succ, ← ih (j + 1) (by omega)]
      congr 1
      show _ = _ + (si j (W k) + sq T k j * (2 ^ k * 2 ^ j))
      rw [Int.add_assoc, Int.mul_assoc]
  have outer : ∀ m k, k + m = t.length → impl_ValueAt_l0 2 2 (si k fun i => si 16 (W i)) (2 ^ k) t (t.length : Int) (k : Int) = some (si t.length fun i => si 16 (W i)) := by
    intro m
    induction m with
    | zero =>
      intro k hk
      have : k = t.length := by omega
      subst this
      rw [impl_ValueAt_l0_eq, dec_lt_f]; rfl
    | succ m ih =>
      intro k hk
      have hk' : k < t.length := by omega
      have := inner k hk' (t.getD k []).length 0 (by omega)
      rw [show ((0 : Nat) : Int) = 0 from rfl, Int.pow_zero, show si 0 (W k) = 0 from rfl, Int.add_zero] at this
      rw [impl_ValueAt_l0_eq, dec_lt_t hk', inside_lt hk', cond_true, cond_true, Int.toNat_natCast, this]
      exact ih (k + 1) (by omega)
  have := outer t.length 0 (by omega)
  rw [impl_ValueAt_eq]
  refine this.trans ?_
  congr 1
  refine (si_cut htl fun i h1 h2 => ?_).symm
  refine (si_congr (g := fun _ => 0) fun j hj => ?_).trans (si_zero 16)
  show sq T i j * _ = 0
  rw [h.z1 h1 h2 hj, Int.zero_mul]
end Go.Proofs.YtafgbjhojkgbjaaGreatDoor.D.Tq
namespace Go.Proofs.YtafgbjhojkgbjaaGreatDoor.D.Tq
open Go Go.Den
set_option linter.unusedVariables false
set_option linter.unusedSimpArgs false
theorem fi_ne (n : Int) : 0 < (fi n).size := by
  have dd : ∀ u, 0 < (Lib.decDigits u).length := fun u => by
    rw [Lib.decDigits]
    split <;> simp
  rw [fi, size_lb, Lib.itoa]
  split
  · simp
  · exact dd _
theorem ne_noneT {x : ByteArray} (h : 0 < x.size) : (!(x.toList == (⟨#[]⟩ : ByteArray).toList)) = true := by
  rw [toList_eq, decide_eq_false]
  · rfl
  · intro c
    rw [c] at h
    exact absurd h (by decide)
theorem powT {b : ByteArray} (hb : b.size = 1) {k : Nat} (hk : k ≤ 16) : ∃ s, impl_powerText b (k : Int) = some s ∧ s.size ≤ 21 := by
  rw [impl_powerText_eq]
  by_cases c : (k : Int) = 0
  · rw [beq_t c]
    exact ⟨_, rfl, by decide⟩
  · rw [beq_f c, cond_false]
    by_cases c1 : (k : Int) = 1
    · rw [beq_t c1]
      exact ⟨_, rfl, by omega⟩
    · have hI : I64 (k : Int) := ⟨by omega, by omega⟩
      have hs := fi_size hI
      rw [beq_f c1, cond_false, impl_FormatInt_p hI, Option.bind_some, decide_eq_true (by omega)]
      exact ⟨_, rfl, by rw [size_app]; omega⟩
def PrtOk (n : Nat) (x : List ByteArray) : Prop := x.length ≤ n ∧ ∀ s ∈ x, 0 < s.size ∧ s.size ≤ 100
theorem PrtOk.snoc {n : Nat} {x : List ByteArray} (h : PrtOk n x) {s : ByteArray} (h1 : 0 < s.size) (h2 : s.size ≤ 100) : PrtOk (n + 1) (x ++ [s]) := by
  refine ⟨by rw [List.length_append, List.length_singleton]; have := h.1; omega, fun r hr => ?_⟩
  rcases List.mem_append.1 hr with hr | hr
  · exact h.2 r hr
  · rw [List.mem_singleton.1 hr]; exact ⟨h1, h2⟩
theorem PrtOk.mono {n m : Nat} {x : List ByteArray} (h : PrtOk n x) (hm : n ≤ m) : PrtOk m x := ⟨Nat.le_trans h.1 hm, h.2⟩
theorem jn_pos {x : List ByteArray} {sep : ByteArray} (h : x ≠ []) (hs : ∀ s ∈ x, 0 < s.size) : 0 < (jn x sep).size := by
  match x, h, hs with
  | [], h, _ => exact absurd rfl h
  | s :: r, _, hs =>
    unfold jn
    rw [size_lb, List.map_cons, Lib.join_cons, List.length_append, size_bl]
    have := hs s List.mem_cons_self
    omega
theorem fmtT {t : List (List Int)} {T : List Int} (h : RowsOk t T) (hS : Sm T) : ∃ s, impl_FormatPolynomial t = some s ∧ 0 < s.size := by
  have htl := h.len
  have inner : ∀ k, k < t.length → ∀ m j x, j + m = (t.getD k []).length → PrtOk (16 * k + j) x → ∃ y, PrtOk (16 * (k + 1)) y ∧ impl_FormatPolynomial_l2 x (k : Int) t (t.length : Int) (k : Int) (t.getD k []) ((t.getD k []).length : Int) (j : Int) = impl_FormatPolynomial_l0 y t (t.length : Int) ((k + 1 : Nat) : Int) := by
    intro k hk m
    have hr := h.row k
    induction m with
    | zero =>
      intro j x hj hx
      have : j = (t.getD k []).length := by omega
      subst this
      refine ⟨x, hx.mono (by omega), ?_⟩
      rw [impl_FormatPolynomial_l2_eq, dec_lt_f, cond_false, w64_succ hk (by omega)]
    | succ m ih =>
      intro j x hj hx
      have hj' : j < (t.getD k []).length := by omega
      have hxl := hx.1
      have hsq := hS.bd k j (by omega) (by omega)
      rw [impl_FormatPolynomial_l2_eq, dec_lt_t hj', inside_lt hj', cond_true, cond_true, Int.toNat_natCast, h.get k j (by omega) (by omega), w64_succ hj' (by omega)]
      by_cases c : sq T k j = 0
      · rw [beq_t c, cond_true]
        exact ih (j + 1) x (by omega) (hx.mono (by omega))
      · obtain ⟨r1, p1, p2⟩ := powT (b := ⟨#[120]⟩) rfl (k := k) (by omega)
        obtain ⟨r2, p3, p4⟩ := powT (b := ⟨#[121]⟩) rfl (k := j) (by omega)
        have hI : I64 (sq T k j) := ⟨by omega, by omega⟩
        have f1 := fi_size hI
        have f2 := fi_ne (sq T k j)
        have hsz := size_app r1 r2
        have hfull : 0 < (fi (sq T k j) ++ (r1 ++ r2)).size ∧ (fi (sq T k j) ++ (r1 ++ r2)).size ≤ 100 := by rw [size_app]; omega
        have go := ih (j + 1) (x ++ [fi (sq T k j) ++ (r1 ++ r2)]) (by omega) (hx.snoc hfull.1 hfull.2)
        rw [beq_f c, cond_false, p1, Option.bind_some, p3, Option.bind_some, decide_eq_true (by omega), cond_true, impl_FormatInt_p hI, Option.bind_some, decide_eq_true (show (fi (sq T k j)).size + (r1 ++ r2).size ≤ 9223372036854775807 by omega), cond_true]
        simp only [List.length_singleton]
        rw [decide_eq_true (show x.length + 1 ≤ room by unfold room; omega), cond_true, cond_true]
        by_cases c1 : sq T k j = 1
        · rw [beq_t c1, cond_true]
          by_cases c2 : 0 < (r1 ++ r2).size
          · rw [ne_noneT c2, cond_true]
            exact ih (j + 1) (x ++ [r1 ++ r2]) (by omega) (hx.snoc c2 (by omega))
          · have e : r1 ++ r2 = ⟨#[]⟩ := bl_inj (by
              have : (bl (r1 ++ r2)).length = 0 := by rw [size_bl]; omega
              rw [List.eq_nil_of_length_eq_zero this]; rfl)
            have e2 : (!((r1 ++ r2).toList == (⟨#[]⟩ : ByteArray).toList)) = false := by rw [e]; simp
            rw [e2, cond_false]
            exact go
        · rw [beq_f c1, cond_false]
          exact go
  have outer : ∀ m k x, k + m = t.length → PrtOk (16 * k) x → ∃ s, impl_FormatPolynomial_l0 x t (t.length : Int) (k : Int) = some s ∧ 0 < s.size := by
    intro m
    induction m with
    | zero =>
      intro k x hk hx
      have : k = t.length := by omega
      subst this
      rw [impl_FormatPolynomial_l0_eq, dec_lt_f, cond_false]
      by_cases c : (x.length : Int) = 0
      · rw [beq_t c]
        exact ⟨_, rfl, by decide⟩
      · have hx1 := hx.1
        rw [beq_f c, cond_false, impl_Join_p (l := x) (by omega) (fun s hs => by have := hx.2 s hs; omega) (by decide), Option.bind_some]
        exact ⟨_, rfl, jn_pos (fun k => by rw [k] at c; exact c rfl) fun s hs => (hx.2 s hs).1⟩
    | succ m ih =>
      intro k x hk hx
      have hk' : k < t.length := by omega
      obtain ⟨y, y1, y2⟩ := inner k hk' (t.getD k []).length 0 x (by omega) hx
      rw [show ((0 : Nat) : Int) = 0 from rfl] at y2
      rw [impl_FormatPolynomial_l0_eq, dec_lt_t hk', inside_lt hk', cond_true, cond_true, Int.toNat_natCast, y2]
      exact ih (k + 1) y (by omega) y1
  rw [impl_FormatPolynomial_eq]
  exact outer t.length 0 [] (by omega) ⟨Nat.zero_le _, fun s hs => absurd hs List.not_mem_nil⟩
theorem tutteL {l : List Int} : laws_FnTutte l = some true := by
  rw [laws_FnTutte_eq]
  by_cases c : (l.length : Int) > 1048576
  · rw [decide_eq_true c]; rfl
  rw [decide_eq_false c, cond_false]
  obtain ⟨g, g1, hg, g2, g3⟩ := small_p (l := l) (by omega)
  obtain ⟨x, x1, x2, x3⟩ := num_p (l := l) (by omega) (n := 60) (by decide)
  have hn := gN hg
  have x1' : spec_MakeNum l 60 = some x := x1
  rw [g1, Option.bind_some, x1', Option.bind_some, decide_eq_false (by omega), cond_false]
  have h12 := hg.1.2.1
  by_cases c9 : g.2.length ≤ 9
  · obtain ⟨t, T, t1, t2, t3⟩ := tutteOf_p hg c9
    obtain ⟨q, hq⟩ : ∃ q : Nat, Int.tmod x g.1 = (q : Int) := ⟨(Int.tmod x g.1).toNat, by have := Int.tmod_nonneg g.1 x2; omega⟩
    have hqn : q < N g := by
      have := Int.tmod_lt_of_pos x (show 0 < g.1 by omega)
      omega
    obtain ⟨lv, l1, l2, l3⟩ := level_p hg (by omega) (by omega) c9 hqn
    obtain ⟨e1, e2, e3⟩ := levels_col hg c9 hqn t3 l2 l3
    have hS := e2.sm c9
    obtain ⟨r, r1, r2, r3, r4⟩ := rowOfOne_p t2 hS
    obtain ⟨s, s1, s2⟩ := fmtT t2 hS
    have hG : N g ≤ g.2.length + 1 := by
      have := lev_p hg hqn (zero_mem hg hqn)
      omega
    have last : lv.getD (lv.length - 1) 0 ≠ 0 := by
      rw [l3 _ (by omega)]
      have hz := zero_mem hg hqn
      have hlv : lev g (List.replicate (N g) 0) = lv.length - 1 := by
        unfold lev
        have ht := tot_range (fun v => (List.replicate (N g) 0).getD v 0) (N g)
        have z : ∀ v, (List.replicate (N g) 0).getD v 0 = 0 := fun v => by
          rw [List.getD_eq_getElem?_getD, List.getElem?_replicate]; split <;> rfl
        rw [sm_congr (g := fun _ => 0) fun v _ => by rw [z]; rfl, sm_zero] at ht
        omega
      have : 0 < ((pks g q).filter fun d => lev g d == lv.length - 1).length := List.length_pos_of_mem (List.mem_filter.2 ⟨hz, by simpa using hlv⟩)
      omega
    have er : lv = r := list_eq (.inr last) r4 fun j => by
      by_cases cj : j < 16
      · rw [e1 j cj, r2 j cj]
      · rw [row_out (by omega), row_out (by omega)]
    rw [t1, Option.bind_some]
    simp only [Bool.not_true, cond_false]
    rw [okT hg, Option.bind_some]
    simp only [Bool.not_true, cond_false]
    rw [hq, l1, Option.bind_some]
    have two : ∀ m k, k + m = g.2.length → laws_FnTutte_l0 t lv true (2 ^ k) (g.2.length : Int) (k : Int) = laws_FnTutte_l0 t lv true (2 ^ g.2.length) (g.2.length : Int) (g.2.length : Int) := by
      intro m
      induction m with
      | zero => intro k hk; rw [show k = g.2.length by omega]
      | succ m ih =>
        intro k hk
        have pk := pw (i := k) (by omega)
        rw [laws_FnTutte_l0_eq, dec_lt_t (show k < g.2.length by omega), cond_true, w64_succ (show k < g.2.length by omega) (by omega), w64_id (by omega) (by omega), Int.mul_comm, ← Int.pow_succ]
        exact ih (k + 1) (by omega)
    have h0 := two g.2.length 0 (by omega)
    rw [Int.pow_zero, show ((0 : Nat) : Int) = 0 from rfl] at h0
    show laws_FnTutte_l0 t lv true 1 (g.2.length : Int) 0 = _
    rw [h0, laws_FnTutte_l0_eq, dec_lt_f, cond_false, cond_true, r1, Option.bind_some, ← er, sameT (by omega), Option.bind_some, cond_true, valueAt_p t2 hS, Option.bind_some, e3, beq_t rfl, cond_true, s1, Option.bind_some, ne_noneT s2]
  · have : impl_TutteOf g = some ([], false) := by
      rw [impl_TutteOf_eq]
      unfold Lb.tutOf
      rw [okT hg, Option.bind_some, cond_true, decide_eq_false c9]; rfl
    rw [this, Option.bind_some]
    simp only [Bool.not_false, cond_true]
    rw [decide_eq_true (by omega)]
end Go.Proofs.YtafgbjhojkgbjaaGreatDoor.D.Tq
namespace Go.Proofs.YtafgbjhojkgbjaaGreatDoor.D
open Go Go.Den
theorem law_Tutte {l : List Int} : laws_FnTutte l = some true := Tq.tutteL
end Go.Proofs.YtafgbjhojkgbjaaGreatDoor.D

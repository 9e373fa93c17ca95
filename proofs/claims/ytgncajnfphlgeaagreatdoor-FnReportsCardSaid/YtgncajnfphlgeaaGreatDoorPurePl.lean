/-
  Piles of sand: both programs reach the same stable pile, by the least script.
-/
import Derived.Test.YtgncajnfphlgeaaGreatDoorPureRb
import Derived.Test.YtgncajnfphlgeaaGreatDoorPureI
import Derived.Test.YtgncajnfphlgeaaGreatDoorPureS
namespace Go.Proofs.YtgncajnfphlgeaaGreatDoor.D
open Go Go.Den
set_option linter.unusedVariables false
set_option linter.unusedSimpArgs false
theorem unst_i {g : Gr} (hg : GOk g) {q : Nat} {x : List Int} {X : Nat → Int} (hx : vec (N g) x X) : ∃ r, impl_unstable g x (q : Int) = some r ∧ ((r = -1 ∧ ∀ v, v < N g → v ≠ q → X v < val (Eg g) v) ∨ ∃ v : Nat, r = (v : Int) ∧ v < N g ∧ v ≠ q ∧ val (Eg g) v ≤ X v) := by
  have hn := gN hg
  rw [impl_unstable_eq, hx.1]
  have key : ∀ (m k : Nat), k + m = N g → (∀ v, v < k → v ≠ q → X v < val (Eg g) v) → ∃ r, impl_unstable_l0 (q : Int) g x ((N g : Nat) : Int) (k : Int) = some r ∧ ((r = -1 ∧ ∀ v, v < N g → v ≠ q → X v < val (Eg g) v) ∨ ∃ v : Nat, r = (v : Int) ∧ v < N g ∧ v ≠ q ∧ val (Eg g) v ≤ X v) := by
    intro m
    induction m with
    | zero =>
      intro k hk hp
      have : k = N g := by omega
      subst this
      rw [impl_unstable_l0_eq, dec_lt_f]
      exact ⟨-1, rfl, .inl ⟨rfl, hp⟩⟩
    | succ m ih =>
      intro k hk hp
      have hk' : k < N g := by omega
      rw [impl_unstable_l0_eq, dec_lt_t hk', inside_lt (by rw [hx.1]; exact hk'), toNat_n, w64_succ hk' (by omega), impl_val_p hg hk', hx.2 k hk']
      simp only [cond_true, Option.bind_some]
      by_cases c : k = q
      · rw [eq_f (show (k : Int) = (q : Int) by omega), cond_false]
        exact ih (k + 1) (by omega) fun v hv hne => hp v (by omega) hne
      · rw [ne_t (show ¬ (k : Int) = (q : Int) by omega), cond_true]
        by_cases c2 : X k ≥ val (Eg g) k
        · rw [decide_eq_true c2]
          exact ⟨_, rfl, .inr ⟨k, rfl, hk', c, c2⟩⟩
        · rw [decide_eq_false c2]
          refine ih (k + 1) (by omega) fun v hv hne => ?_
          rcases Nat.lt_or_ge v k with h | h
          · exact hp v h hne
          · rw [show v = k by omega]; omega
  exact key (N g) 0 (by omega) (fun v hv => by omega)
/-- while sand falls: a script below another that makes all stable -/
structure SI (g : Gr) (q : Nat) (P t : Nat → Int) (y : List Int) (X T : Nat → Int) : Prop where
  vy : vec (N g) y T
  out : ∀ w, w < N g → w ≠ q → X w = P w - lap (Eg g) T w
  q0 : T q = 0
  bd : ∀ w, w < N g → 0 ≤ T w ∧ T w ≤ t w
def Db (g : Gr) (P : Nat → Int) (v : Nat) : Int := val (Eg g) v - 1 - P v
theorem SI.step {g : Gr} (hg : GOk g) {q v : Nat} {P t : Nat → Int} {y : List Int} {X T : Nat → Int} (hP : Pay g q (Db g P) t) (h : SI g q P t y X T) (hv : v < N g) (hne : v ≠ q) {k : Int} (hk : 1 ≤ k) (ho : k * val (Eg g) v ≤ X v) {X' : Nat → Int} (hX : ∀ w, w < N g → w ≠ q → X' w = X w - lap (Eg g) (fun u => k * one v u) w) :
    SI g q P t (y.set v (T v + k)) X' (fun u => T u + k * one v u) ∧ T v + k ≤ t v := by
  have hl := least hg (b := T) hP (fun w hw => (h.bd w hw).2) hv hne (k := k) (by
    have := h.out v hv hne
    unfold Db
    rw [Int.sub_mul]
    omega)
  refine ⟨⟨(h.vy.set hv _).congr fun w hw => ?_, fun w hw hwq => ?_, ?_, fun w hw => ?_⟩, hl⟩
  · unfold one
    by_cases c : w = v
    · subst c; simp
    · simp [c]
  · rw [hX w hw hwq, h.out w hw hwq, lap_add]; omega
  · unfold one
    rw [if_neg (Ne.symm hne), h.q0]; omega
  · have := h.bd w hw
    unfold one
    by_cases c : w = v
    · subst c; simp only [if_pos]; omega
    · simp only [if_neg c]; omega
theorem SI.lap {g : Gr} (hg : GOk g) {q : Nat} {P t : Nat → Int} {y : List Int} {X T : Nat → Int} (hP : Pay g q (Db g P) t) (h : SI g q P t y X T) {w : Nat} (hw : w < N g) : -742584000 ≤ lap (Eg g) T w ∧ lap (Eg g) T w ≤ 742584000 := by
  obtain ⟨gE1, gE2, gE3⟩ := gE hg
  have := lap_bd (n := N g) (f := T) (T := 30941000) (fun w hw => by
    have := h.bd w hw
    have := hP.bd w
    omega) (by omega) hw gE1 gE2
  omega
theorem SI.msr {g : Gr} {q : Nat} {P t : Nat → Int} {y : List Int} {X T : Nat → Int} (h : SI g q P t y X T) : 0 ≤ sm (N g) (fun w => t w - T w) := sm_nonneg fun w hw => by have := h.bd w hw; omega
theorem sm_less {n v : Nat} {t T : Nat → Int} {k : Int} (hv : v < n) : sm n (fun w => t w - (T w + k * one v w)) = sm n (fun w => t w - T w) - k := by
  rw [← sm_drop (f := fun w => t w - T w) (k := k) hv]
  exact sm_congr fun w _ => by omega
/-- what a run ends with -/
structure Fin1 (g : Gr) (q : Nat) (P : Nat → Int) (x y : List Int) (T : Nat → Int) : Prop where
  vx : vec (N g) x (fun w => if w = q then 0 else P w - lap (Eg g) T w)
  vy : vec (N g) y T
  q0 : T q = 0
  lo : ∀ w, w < N g → 0 ≤ T w ∧ T w ≤ 30941000
  st : ∀ w, w < N g → w ≠ q → P w - lap (Eg g) T w < val (Eg g) w
theorem impl_run {g : Gr} (hg : GOk g) {q : Nat} (hq : q < N g) {P t : Nat → Int} (hP0 : Bd (N g) 900 P) (hP : Pay g q (Db g P) t) : ∀ (m : Nat) (x y : List Int) (X T : Nat → Int), sm (N g) (fun w => t w - T w) < (m : Int) → vec (N g) x X → X q = P q - lap (Eg g) T q → SI g q P t y X T →
    ∃ x' y' T', ((impl_unstable g x (q : Int)).bind fun r => impl_stabilize_l0 (q : Int) g x y r) = some (x', y') ∧ Fin1 g q P x' y' T' ∧ ∀ w, w < N g → T' w ≤ t w
  | 0, x, y, X, T, hm, hx, hxq, h => by have := h.msr; omega
  | m + 1, x, y, X, T, hm, hx, hxq, h => by
    obtain ⟨gE1, gE2, gE3⟩ := gE hg
    have hn := gN hg
    have hXall : ∀ w, w < N g → X w = P w - lap (Eg g) T w := fun w hw => by
      by_cases c : w = q
      · rw [c]; exact hxq
      · exact h.out w hw c
    obtain ⟨r, h1, h2⟩ := unst_i hg (q := q) hx
    rw [h1, Option.bind_some]
    rcases h2 with ⟨rfl, h3⟩ | ⟨v, rfl, h3, h4, h5⟩
    · rw [impl_stabilize_l0_eq, decide_eq_false (by omega), cond_false, inside_lt (by rw [hx.1]; exact hq), cond_true, toNat_n]
      refine ⟨_, _, T, rfl, ⟨(hx.set hq 0).congr fun w hw => ?_, h.vy, h.q0, fun w hw => ⟨(h.bd w hw).1, by have := h.bd w hw; have := hP.bd w; omega⟩, fun w hw hwq => by rw [← h.out w hw hwq]; exact h3 w hw hwq⟩, fun w hw => (h.bd w hw).2⟩
      by_cases c : w = q
      · rw [if_pos c, if_pos c]
      · rw [if_neg c, if_neg c, hXall w hw]
    · have hvp := val_pos hg h3 hq h4
      have hvb := val_bd v (Eg g)
      have hlv := h.lap hg hP h3
      have hPv := hP0 v h3
      have hXv := hXall v h3
      obtain ⟨V, hV⟩ : ∃ V : Nat, val (Eg g) v = (V : Int) := ⟨(val (Eg g) v).toNat, by omega⟩
      obtain ⟨A, hA⟩ : ∃ A : Nat, X v = (A : Int) := ⟨(X v).toNat, by omega⟩
      have hdiv : Int.tdiv (X v) (val (Eg g) v) = ((A / V : Nat) : Int) := by rw [hA, hV, Int.ofNat_tdiv]
      generalize hK : A / V = K at hdiv
      have hV0 : 0 < V := by omega
      have k1 : 1 ≤ K := by rw [← hK]; exact (Nat.one_le_div_iff hV0).2 (by omega)
      have k2 : K * V ≤ A := by rw [← hK]; exact Nat.div_mul_le_self _ _
      have k3 : (K : Int) * val (Eg g) v ≤ X v := by
        rw [hV, hA]
        have : (K : Int) * (V : Int) = ((K * V : Nat) : Int) := by rw [Int.natCast_mul]
        omega
      have hKA : K ≤ A := by rw [← hK]; exact Nat.div_le_self _ _
      have hKt : (K : Int) ≤ 30941000 := by
        have := (h.step hg hP h3 h4 (k := (K : Int)) (by omega) k3 (X' := fun w => X w - lap (Eg g) (fun u => (K : Int) * one v u) w) (fun w _ _ => rfl)).2
        have := h.bd v h3
        have := hP.bd v
        omega
      obtain ⟨x', f1, f2⟩ := impl_fire_p hg hx h3 (t := (K : Int)) (B := 742585000) (T := 30941000) (fun w hw => by
        have := h.lap hg hP hw
        have := hP0 w hw
        rw [hXall w hw]; omega) (by omega) (by omega)
      obtain ⟨s1, s2⟩ := h.step hg hP h3 h4 (k := (K : Int)) (by omega) k3 (X' := fun w => X w - lap (Eg g) (fun u => (K : Int) * one v u) w) (fun w _ _ => rfl)
      have hTv := h.bd v h3
      have htv := hP.bd v
      rw [impl_stabilize_l0_eq, decide_eq_true (by omega), cond_true, inside_lt (by rw [hx.1]; exact h3), cond_true, impl_val_p hg h3, Option.bind_some, decide_eq_false (by omega), cond_false, toNat_n, hx.2 v h3, hdiv, w64_id (n := (K : Int)) (by omega) (by omega), f1, Option.bind_some, inside_lt (by rw [h.vy.1]; exact h3), cond_true, cond_true, h.vy.2 v h3, w64_id (n := T v + (K : Int)) (by omega) (by omega)]
      refine impl_run hg hq hP0 hP m x' _ _ _ ?_ f2 ?_ s1
      · rw [sm_less h3]; omega
      · show X q - lap (Eg g) (fun u => (K : Int) * one v u) q = P q - lap (Eg g) (fun u => T u + (K : Int) * one v u) q
        rw [hxq, lap_add]; omega
theorem Fin1.pay {g : Gr} (hg : GOk g) {q : Nat} (hq : q < N g) {P : Nat → Int} {x y : List Int} {T : Nat → Int} (h : Fin1 g q P x y T) : Pay g q (Db g P) (fun v => if v < N g then T v else 0) := by
  refine ⟨by rw [if_pos hq]; exact h.q0, fun v => ?_, fun v hv hne => ?_⟩
  · by_cases c : v < N g
    · rw [if_pos c]; exact h.lo v c
    · rw [if_neg c]; omega
  · have e : lap (Eg g) (fun v => if v < N g then T v else 0) v = lap (Eg g) T v := lap_congr hv (fun w hw => if_pos hw) (gE hg).1
    have := h.st v hv hne
    rw [e]
    unfold Db; omega
end Go.Proofs.YtgncajnfphlgeaaGreatDoor.D

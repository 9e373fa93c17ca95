/-
  Chips on a graph: winnable divisors, effective divisors, gonality: both programs alike.
-/
import Derived.Test.YtafgbjhojkgbjaaGreatDoorPureRb
namespace Go.Proofs.YtafgbjhojkgbjaaGreatDoor.D
open Go Go.Den
set_option linter.unusedVariables false
set_option linter.unusedSimpArgs false
/-- the sum of all that a reduced divisor holds is that of the divisor -/
theorem lap_sum {n : Nat} {E : Es} (hE : GE n E) (f : Nat → Int) : sm n (fun v => lap E f v) = 0 := by
  have h1 := lap_symm (n := n) (fun _ => 1) f hE
  have h2 : sm n (fun v => (1 : Int) * lap E f v) = sm n (fun v => lap E f v) := sm_congr fun v _ => by omega
  have h3 : sm n (fun v => f v * lap E (fun _ => 1) v) = sm n (fun _ => 0) := sm_congr fun v hv => by rw [lap_const hv (fun _ _ => rfl) hE]; omega
  rw [sm_zero] at h3
  omega
theorem sm_neg (f : Nat → Int) : ∀ n, sm n (fun v => - f v) = - sm n f
  | 0 => rfl
  | n + 1 => by rw [sm, sm, sm_neg f n]; omega
theorem Rdd.sum {g : Gr} (hg : GOk g) {q : Nat} {D O S : Nat → Int} {x y : List Int} (h : Rdd g q D x y O S) : sm (N g) O = sm (N g) D := by
  have e : sm (N g) O = sm (N g) (fun v => D v + - lap (Eg g) S v) := sm_congr fun v hv => by rw [h.out v hv]; omega
  rw [e, sm_add, sm_neg, lap_sum (gE hg).1]; omega
/-- of a divisor without debts the reduced one has none -/
theorem Rdd.eff {g : Gr} (hg : GOk g) {q : Nat} (hq : q < N g) {D O S : Nat → Int} {x y : List Int} (h : Rdd g q D x y O S) (hD : ∀ v, v < N g → 0 ≤ D v) : 0 ≤ O q := by
  obtain ⟨gE1, gE2, gE3⟩ := gE hg
  have h1 := Red.half (s := fun v => - S v) gE1 hq h.red (fun v hv _ => hD v hv) fun v hv => by
    have := h.out v hv
    rw [lap_neg]; omega
  have h2 : lap (Eg g) S q ≤ 0 := by
    have key : ∀ E : Es, GE (N g) E → lap E S q ≤ 0 := fun E => by
      induction E with
      | nil => intro _; exact Int.le_refl _
      | cons e E ih =>
        intro hE
        have he := hE e List.mem_cons_self
        have := ih hE.tail
        have a1 := h1 e.1 (by omega)
        have a2 := h1 e.2 he.2
        rw [lap_cons]
        unfold tm
        simp only [h.q0] at a1 a2
        split
        · rename_i c; rw [h.q0]; omega
        · split
          · rename_i c; rw [h.q0]; omega
          · omega
    exact key _ gE1
  have := h.out q hq
  have := hD q hq
  omega
theorem sum_i {d : List Int} (hl : d.length ≤ 1000) (hd : ∀ k, k < d.length → -1000 ≤ d.getD k 0 ∧ d.getD k 0 ≤ 1000) : impl_sumOf d = some (sm d.length (fun w => d.getD w 0)) := by
  have bd : ∀ k, k ≤ d.length → -(1000 * (k : Int)) ≤ sm k (fun w => d.getD w 0) ∧ sm k (fun w => d.getD w 0) ≤ 1000 * (k : Int) := fun k => by
    induction k with
    | zero => intro _; simp [sm]
    | succ k ih =>
      intro hk
      have := ih (by omega)
      have := hd k (by omega)
      rw [sm]
      omega
  rw [impl_sumOf_eq]
  have := upFold (n := d.length) (f := fun s i => impl_sumOf_l0 s d (d.length : Int) i) (g := fun k s => sm (k + 1) (fun w => d.getD w 0)) (fun k s => s = sm k (fun w => d.getD w 0)) (fun k s hk hs => ⟨by
    subst hs
    have b1 := bd (k + 1) hk
    rw [sm] at b1
    rw [impl_sumOf_l0_eq, dec_lt_t hk, inside_lt hk, toNat_n, w64_succ hk (by omega)]
    simp only [cond_true, sm]
    rw [w64_id (by omega) (by omega)], rfl⟩) (s := 0) rfl
  refine this.1.trans ?_
  rw [this.2, impl_sumOf_l0_eq, dec_lt_f]; rfl
/-- 0, 1, .. up to a number, each with its lists -/
def effR (f : Nat → List (List Int)) (k : Nat) : Nat → List (List Int)
  | 0 => []
  | x + 1 => effR f k x ++ (f (k - x)).map fun r => (x : Int) :: r
def eff : Nat → Nat → List (List Int)
  | 0, k => [[(k : Int)]]
  | n + 1, k => effR (eff n) k (k + 1)
theorem effR_len {f : Nat → List (List Int)} {k B : Nat} (h : ∀ j, j ≤ k → (f j).length ≤ B) : ∀ x, x ≤ k + 1 → (effR f k x).length ≤ x * B
  | 0, _ => Nat.zero_le _
  | x + 1, hx => by
    have := effR_len h x (by omega)
    have := h (k - x) (by omega)
    rw [effR, List.length_append, List.length_map, Nat.add_mul]
    omega
theorem eff_len : ∀ (n k : Nat), k ≤ 9 → (eff n k).length ≤ 10 ^ n
  | 0, k, _ => by simp [eff]
  | n + 1, k, hk => by
    have := effR_len (f := eff n) (k := k) (B := 10 ^ n) (fun j hj => eff_len n j (by omega)) (k + 1) (Nat.le_refl _)
    rw [eff, Nat.pow_succ, Nat.mul_comm (10 ^ n) 10]
    exact Nat.le_trans this (Nat.mul_le_mul_right _ (by omega))
theorem effR_mem {f : Nat → List (List Int)} {k : Nat} {d : List Int} : ∀ {x : Nat}, d ∈ effR f k x → ∃ a r, a < x ∧ d = (a : Int) :: r ∧ r ∈ f (k - a)
  | 0, h => by cases h
  | x + 1, h => by
    rw [effR] at h
    rcases List.mem_append.1 h with h | h
    · obtain ⟨a, r, h1, h2⟩ := effR_mem h
      exact ⟨a, r, by omega, h2⟩
    · obtain ⟨r, hr, rfl⟩ := List.mem_map.1 h
      exact ⟨x, r, by omega, rfl, hr⟩
theorem eff_mem : ∀ {n k : Nat} {d : List Int}, d ∈ eff n k → d.length = n + 1 ∧ ∀ x ∈ d, 0 ≤ x ∧ x ≤ (k : Int)
  | 0, k, d, h => by
    rw [eff, List.mem_singleton] at h
    subst h
    refine ⟨rfl, fun x hx => ?_⟩
    rw [List.mem_singleton] at hx
    omega
  | n + 1, k, d, h => by
    obtain ⟨a, r, h1, h2, h3⟩ := effR_mem (show d ∈ effR (eff n) k (k + 1) from h)
    obtain ⟨h4, h5⟩ := eff_mem h3
    subst h2
    refine ⟨by rw [List.length_cons, h4], fun x hx => ?_⟩
    rcases List.mem_cons.1 hx with hx | hx
    · omega
    · have := h5 x hx
      omega
theorem effR_in {f : Nat → List (List Int)} {k a : Nat} {r : List Int} (hr : r ∈ f (k - a)) : ∀ {x : Nat}, a < x → (a : Int) :: r ∈ effR f k x
  | 0, h => by omega
  | x + 1, h => by
    rw [effR]
    by_cases c : a = x
    · subst c
      exact List.mem_append_right _ (List.mem_map_of_mem hr)
    · exact List.mem_append_left _ (effR_in hr (by omega))
/-- one chip each -/
theorem ones_mem : ∀ n, List.replicate (n + 1) (1 : Int) ∈ eff n (n + 1)
  | 0 => by simp [eff]
  | n + 1 => by
    have := ones_mem n
    rw [List.replicate_succ]
    exact effR_in (a := 1) (k := n + 2) (f := eff n) (by rw [show n + 2 - 1 = n + 1 by omega]; exact this) (by omega)
end Go.Proofs.YtafgbjhojkgbjaaGreatDoor.D

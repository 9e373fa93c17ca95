/-
  The rank of a divisor: both programs search alike, and what they find is the rank.
-/
import Derived.Test.YtafgbjhojkgbjaaGreatDoorPureQ
import Derived.Test.YtafgbjhojkgbjaaGreatDoorPureI
namespace Go.Proofs.YtafgbjhojkgbjaaGreatDoor.D
open Go Go.Den
set_option linter.unusedVariables false
set_option linter.unusedSimpArgs false
/-- a divisor's class has an effective one -/
def Win (g : Gr) (D : Nat → Int) : Prop := ∃ r, CL g D r
theorem Win.congr {g : Gr} {D D' : Nat → Int} (h : Win g D) (e : ∀ v, v < N g → D v = D' v) : Win g D' := by
  obtain ⟨r, h1, h2, S, h3⟩ := h
  exact ⟨r, h1, h2, S, fun v hv => by rw [h3 v hv, e v hv]⟩
theorem Win.deg {g : Gr} (hg : GOk g) {D : Nat → Int} (h : Win g D) : 0 ≤ sm (N g) D := by
  obtain ⟨r, h⟩ := h
  rw [← h.sum hg, ← sm_list, h.1]
  exact sm_nonneg fun v hv => h.2.1 v hv
/-- what is left of a divisor when another is taken -/
def Mi (D : Nat → Int) (e : List Int) (v : Nat) : Int := D v - e.getD v 0
open Classical in
/-- a removal without an answer -/
noncomputable def bad (g : Gr) (D : Nat → Int) (e : List Int) : Bool := decide (¬ Win g (Mi D e))
theorem bad_t {g : Gr} {D : Nat → Int} {e : List Int} : bad g D e = true ↔ ¬ Win g (Mi D e) := by
  classical
  unfold bad
  exact decide_eq_true_iff
theorem bad_f {g : Gr} {D : Nat → Int} {e : List Int} : bad g D e = false ↔ Win g (Mi D e) := by
  classical
  unfold bad
  exact decide_eq_false_iff_not.trans Classical.not_not
/-- a removal is answered where one of the class's effective divisors covers it -/
theorem cover_iff {g : Gr} {D : Nat → Int} {L : List (List Int)} (hL : Sys g D L) {e : List Int} (he : e.length = N g) (h0 : ∀ v, v < N g → 0 ≤ e.getD v 0) : (∃ r, r ∈ L ∧ ∀ v, v < e.length → e.getD v 0 ≤ r.getD v 0) ↔ Win g (Mi D e) := by
  constructor
  · rintro ⟨r, h1, h2⟩
    obtain ⟨q1, q2, S, q3⟩ := (hL.2.2 r).1 h1
    refine ⟨(List.range (N g)).map fun v => r.getD v 0 - e.getD v 0, by simp, fun v hv => ?_, S, fun v hv => ?_⟩
    · rw [getD_range_map _ hv]
      have := h2 v (by omega)
      omega
    · rw [getD_range_map _ hv, q3 v hv]
      unfold Mi; omega
  · rintro ⟨r, q1, q2, S, q3⟩
    have hl : ((List.range (N g)).map fun v => r.getD v 0 + e.getD v 0).length = N g := by simp
    refine ⟨(List.range (N g)).map fun v => r.getD v 0 + e.getD v 0, (hL.2.2 _).2 ⟨hl, fun v hv => ?_, S, fun v hv => ?_⟩, fun v hv => ?_⟩
    · rw [getD_range_map _ hv]
      have := q2 v hv
      have := h0 v hv
      omega
    · rw [getD_range_map _ hv, q3 v hv]
      unfold Mi; omega
    · rw [getD_range_map _ (by omega)]
      have := q2 v (by omega)
      omega
theorem Sys.len {g : Gr} (hg : GOk g) {D : Nat → Int} {L : List (List Int)} (h : Sys g D L) (h9 : sm (N g) D ≤ 9) : L.length ≤ 100000 := by
  have hn := gN hg
  by_cases c : 0 ≤ sm (N g) D
  · have hk : sm (N g) D = (((sm (N g) D).toNat : Nat) : Int) := by omega
    have h1 := nodup_len h.2.1 fun r hr => ((h.2.2 r).1 hr).in hg hk
    have h2 := eff_len (N g - 1) (sm (N g) D).toNat (by omega)
    have h3 : 10 ^ (N g - 1) ≤ 10 ^ 5 := Nat.pow_le_pow_right (by omega) (by omega)
    omega
  · match L with
    | [] => exact Nat.zero_le _
    | r :: L =>
      have := Win.deg hg ⟨r, (h.2.2 r).1 List.mem_cons_self⟩
      omega
/-- the rank and the first removal beyond it that has no answer -/
structure RK (g : Gr) (D : Nat → Int) (r : Nat) (w : List Int) : Prop where
  up : ∀ k, k < r → ∀ e ∈ eff (N g - 1) k, Win g (Mi D e)
  first : (eff (N g - 1) r).find? (bad g D) = some w
theorem RK.mem {g : Gr} {D : Nat → Int} {r : Nat} {w : List Int} (h : RK g D r w) : w ∈ eff (N g - 1) r := List.mem_of_find?_eq_some h.first
theorem RK.bad {g : Gr} {D : Nat → Int} {r : Nat} {w : List Int} (h : RK g D r w) : ¬ Win g (Mi D w) := bad_t.1 (List.find?_some h.first)
theorem RK.uniq {g : Gr} {D : Nat → Int} {r r' : Nat} {w w' : List Int} (h : RK g D r w) (h' : RK g D r' w') : r = r' ∧ w = w' := by
  have e : r = r' := by
    rcases Nat.lt_trichotomy r r' with c | c | c
    · exact absurd (h'.up r c w h.mem) h.bad
    · exact c
    · exact absurd (h.up r' c w' h'.mem) h'.bad
  subst e
  exact ⟨rfl, Option.some.inj (h.first.symm.trans h'.first)⟩
theorem Mi_sum {g : Gr} {D : Nat → Int} {e : List Int} (he : e.length = N g) : sm (N g) (Mi D e) = sm (N g) D - e.sum := by
  have e1 : sm (N g) (Mi D e) = sm (N g) (fun v => D v + - e.getD v 0) := sm_congr fun v _ => by unfold Mi; omega
  have e2 := sm_neg (fun v => e.getD v 0) (N g)
  have e3 := sm_list e
  rw [he] at e3
  rw [e1, sm_add, e2, e3]; omega
end Go.Proofs.YtafgbjhojkgbjaaGreatDoor.D

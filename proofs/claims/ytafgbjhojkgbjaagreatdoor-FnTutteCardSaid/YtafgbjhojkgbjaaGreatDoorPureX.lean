/-
  Gonality: both programs find the same divisor.
-/
import Derived.Test.YtafgbjhojkgbjaaGreatDoorPureW
namespace Go.Proofs.YtafgbjhojkgbjaaGreatDoor.D
open Go Go.Den
set_option linter.unusedVariables false
set_option linter.unusedSimpArgs false
/-- one chip less at a vertex -/
def dm (d : List Int) (v : Nat) : List Int := d.set v (d.getD v 0 - 1)
/-- small divisors -/
def Sd (g : Gr) (d : List Int) : Prop := d.length = N g ∧ ∀ x ∈ d, 0 ≤ x ∧ x ≤ 9
theorem Sd.vec {g : Gr} {d : List Int} (h : Sd g d) : vec (N g) d (fun w => d.getD w 0) ∧ ∀ w, w < N g → 0 ≤ d.getD w 0 ∧ d.getD w 0 ≤ 9 :=
  ⟨⟨h.1, fun _ _ => rfl⟩, fun w hw => h.2 _ (getD_mem 0 (by rw [h.1]; exact hw))⟩
theorem dm_vec {g : Gr} {d : List Int} (h : Sd g d) {v : Nat} (hv : v < N g) : vec (N g) (dm d v) (fun w => if w = v then d.getD v 0 - 1 else d.getD w 0) ∧ Bd (N g) 1000 (fun w => if w = v then d.getD v 0 - 1 else d.getD w 0) := by
  obtain ⟨h1, h2⟩ := h.vec
  refine ⟨h1.set hv _, fun w hw => ?_⟩
  have a := h2 v hv
  have b := h2 w hw
  show -1000 ≤ (if w = v then d.getD v 0 - 1 else d.getD w 0) ∧ (if w = v then d.getD v 0 - 1 else d.getD w 0) ≤ 1000
  split <;> omega
theorem plus_p {n : Nat} (hn : n ≤ 6) {a b : List Int} {A B : Nat → Int} (ha : vec n a A) (hb : vec n b B) (hA : Bd n 100000 A) (hB : Bd n 100000 B) : ∃ r, impl_plus a b = some r ∧ vec n r (fun w => A w + B w) := by
  rw [impl_plus_eq, impl_copyInts_eq, decide_eq_true (by rw [ha.1, room]; simp only [List.length_nil]; omega), cond_true, Option.bind_some, List.nil_append, ha.1]
  have := upFold (n := n) (f := fun s i => impl_plus_l0 b s (n : Int) i) (g := fun k s => s.set k (A k + B k)) (fun k s => vec n s (fun w => if w < k then A w + B w else A w)) (fun k s hk hs => ⟨by
    have i1 : inside (k : Int) s.length = true := inside_lt (by rw [hs.1]; exact hk)
    have i2 : inside (k : Int) b.length = true := inside_lt (by rw [hb.1]; exact hk)
    have e : s.getD k 0 = A k := (hs.2 k hk).trans (if_neg (Nat.lt_irrefl k))
    have b1 := hA k hk
    have b2 := hB k hk
    rw [impl_plus_l0_eq, dec_lt_t hk, i1, i2, toNat_n, e, hb.2 k hk, w64_succ hk (by omega), w64_id (by omega) (by omega)]
    rfl, (hs.set hk _).congr fun w hw => by
      by_cases c : w = k
      · subst c; rw [if_pos rfl, if_pos (by omega)]
      · rw [if_neg c]
        by_cases c2 : w < k
        · rw [if_pos c2, if_pos (by omega)]
        · rw [if_neg c2, if_neg (by omega)]⟩) (s := a) (ha.congr fun w hw => by rw [if_neg (by omega)])
  refine ⟨_, this.1.trans ?_, this.2.congr fun w hw => by rw [if_pos hw]⟩
  rw [impl_plus_l0_eq, dec_lt_f]; rfl
theorem eff_Sd {g : Gr} (hg : GOk g) {k : Nat} (hk : k ≤ 9) {d : List Int} (h : d ∈ eff (N g - 1) k) : Sd g d := by
  have hn := gN hg
  obtain ⟨h1, h2⟩ := eff_mem h
  exact ⟨by omega, fun x hx => by have := h2 x hx; omega⟩
end Go.Proofs.YtafgbjhojkgbjaaGreatDoor.D

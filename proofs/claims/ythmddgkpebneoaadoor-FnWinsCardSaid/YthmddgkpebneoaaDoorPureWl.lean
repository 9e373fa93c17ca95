/-
  The line that tells who wins: both programs alike.
-/
import Derived.Test.YthmddgkpebneoaaDoorPureBn
import Derived.Test.YthmddgkpebneoaaDoorPureW
import Derived.Test.YthmddgkpebneoaaDoorPureI
import Derived.Test.YthmddgkpebneoaaDoorPureS
namespace Go.Proofs.YthmddgkpebneoaaDoor.D
open Go Go.Den
set_option linter.unusedVariables false
set_option linter.unusedSimpArgs false
def fnW (d : List Int) (w : Nat) : Int := d.getD w 0
theorem DOk.vecW {g : Gr} {d : List Int} (h : DOk g d) : vec (N g) d (fnW d) ∧ Bd (N g) 60 (fnW d) := by
  have hn := gN h.1
  have hl : d.length = N g := by have := h.2.1; omega
  exact ⟨⟨hl, fun _ _ => rfl⟩, fun w hw => h.2.2 w (by omega)⟩
theorem imin_bd {a b B : Int} (ha : -B ≤ a ∧ a ≤ B) (hb : -B ≤ b ∧ b ≤ B) : -B ≤ imin a b ∧ imin a b ≤ B := by
  unfold imin; split <;> omega
theorem lift_p {n : Nat} (hn : 1 ≤ n ∧ n ≤ 6) {y : List Int} {S : Nat → Int} (hy : vec n y S) {B : Int} (hB : Bd n B S) (hB2 : 0 ≤ B ∧ B ≤ 1000000000000000000) : ∃ r, impl_fromZero y = some r ∧ spec_l06Lift y = some r ∧ r.length = n ∧ ∀ x ∈ r, I64 x := by
  have hl := hy.1
  have h0 := hB 0 (by omega)
  have e0 := hy.2 0 (by omega)
  have key : ∀ (m k : Nat) (s : Int), k + m = n → -B ≤ s ∧ s ≤ B → ∃ q, slices_Min_int_int_l0 y s (k : Int) = some q ∧ spec_l06Lift_l0 y s y (n : Int) (k : Int) = spec_l06Lift_l2 q [] y (n : Int) 0 ∧ -B ≤ q ∧ q ≤ B := by
    intro m
    induction m with
    | zero =>
      intro k s hk hs
      have : k = n := by omega
      subst this
      rw [slices_Min_int_int_l0_eq, spec_l06Lift_l0_eq, hl, dec_lt_f]
      exact ⟨s, rfl, rfl, hs⟩
    | succ m ih =>
      intro k s hk hs
      have hk' : k < n := by omega
      have hb := hB k hk'
      rw [slices_Min_int_int_l0_eq, spec_l06Lift_l0_eq, hl, dec_lt_t hk', inside_lt (by omega), cond_true, cond_true, cond_true, cond_true, toNat_n, w64_succ hk' (by omega), hy.2 k hk']
      exact ih (k + 1) _ (by omega) (imin_bd hs hb)
  obtain ⟨q, q1, q2, q3⟩ := key (n - 1) 1 (y.getD 0 0) (by omega) (by rw [e0]; exact h0)
  have s0 : spec_l06Lift_l0 y (y.getD 0 0) y (n : Int) 0 = spec_l06Lift_l0 y (y.getD 0 0) y (n : Int) ((1 : Nat) : Int) := by
    have h00 : spec_l06Lift_l0 y (y.getD 0 0) y (n : Int) ((0 : Nat) : Int) = _ := spec_l06Lift_l0_eq y (y.getD 0 0) y (n : Int) ((0 : Nat) : Int)
    rw [dec_lt_t (show 0 < n by omega), inside_lt (show 0 < y.length by omega), cond_true, cond_true, toNat_n, w64_succ (show 0 < n by omega) (by omega), show imin (y.getD 0 0) (y.getD 0 0) = y.getD 0 0 by unfold imin; split <;> rfl] at h00
    exact h00
  have hmin : slices_Min_int_int y = some q := by
    rw [slices_Min_int_int_eq, decide_eq_false (by omega), cond_false, show inside 0 y.length = true from inside_lt (k := 0) (by omega), cond_true]
    exact q1
  let r : List Int := (List.range n).map fun k => S k - q
  have hr : vec n r (fun k => S k - q) := ⟨by simp [r], fun w hw => getD_range_map _ hw⟩
  refine ⟨r, ?_, ?_, hr.1, fun x hx => ?_⟩
  · rw [impl_fromZero_eq, impl_copyInts_eq, decide_eq_true (by rw [hl, room]; simp only [List.length_nil]; omega), cond_true, Option.bind_some, List.nil_append, hmin, Option.bind_some, hl]
    have := upFold (n := n) (f := fun s i => impl_fromZero_l0 s q (n : Int) i) (g := fun k s => s.set k (S k - q)) (fun k s => vec n s (fun w => if w < k then S w - q else S w)) (fun k s hk hs => ⟨by
      have e : s.getD k 0 = S k := (hs.2 k hk).trans (if_neg (Nat.lt_irrefl k))
      have b1 := hB k hk
      rw [impl_fromZero_l0_eq, dec_lt_t hk, inside_lt (by rw [hs.1]; exact hk), toNat_n, e, w64_succ hk (by omega), w64_id (by omega) (by omega)]
      rfl, (hs.set hk _).congr fun w hw => by
        by_cases c : w = k
        · subst c; rw [if_pos rfl, if_pos (by omega)]
        · rw [if_neg c]
          by_cases c2 : w < k
          · rw [if_pos c2, if_pos (by omega)]
          · rw [if_neg c2, if_neg (by omega)]⟩) (s := y) (hy.congr fun w hw => by rw [if_neg (by omega)])
    refine this.1.trans ?_
    rw [impl_fromZero_l0_eq, dec_lt_f, cond_false]
    exact congrArg some (this.2.eq hr fun w hw => by rw [if_pos hw])
  · rw [spec_l06Lift_eq, show inside 0 y.length = true from inside_lt (k := 0) (by omega), cond_true, hl, s0, q2]
    have := upFold (n := n) (f := fun s i => spec_l06Lift_l2 q s y (n : Int) i) (g := fun k s => s ++ [S k - q]) (fun k s => s.length = k) (fun k s hk hs => ⟨by
      have b1 := hB k hk
      rw [spec_l06Lift_l2_eq, dec_lt_t hk, inside_lt (by omega), toNat_n, hy.2 k hk, w64_id (by omega) (by omega), w64_succ hk (by omega), decide_eq_true (by rw [room]; simp only [List.length_singleton]; omega)]
      rfl, by rw [List.length_append, hs]; rfl⟩) (s := []) rfl
    refine this.1.trans ?_
    rw [spec_l06Lift_l2_eq, dec_lt_f, cond_false, itr_push (fun k => S k - q), List.nil_append]
  · obtain ⟨j, hj, e⟩ := List.getElem_of_mem hx
    have hjn : j < n := by rw [hr.1] at hj; exact hj
    have := hr.2 j hjn
    rw [getD_lt hj, e] at this
    have this : x = S j - q := this
    have := hB j hjn
    unfold I64; omega
theorem place_p {l : List Int} {v : Int} (h : l.length ≤ 1000) : ∃ p, slices_Index_int_int l v = some p ∧ spec_l13Place l v = some p := by
  rw [slices_Index_int_int_eq, spec_l13Place_eq]
  have key : ∀ (m k : Nat), k + m = l.length → ∃ p, slices_Index_int_int_l0 l v (l.length : Int) (k : Int) = some p ∧ spec_l13Place_l0 v l (l.length : Int) (k : Int) = some p := by
    intro m
    induction m with
    | zero =>
      intro k hk
      have : k = l.length := by omega
      subst this
      rw [slices_Index_int_int_l0_eq, spec_l13Place_l0_eq, dec_lt_f]
      exact ⟨-1, rfl, rfl⟩
    | succ m ih =>
      intro k hk
      have hk' : k < l.length := by omega
      rw [slices_Index_int_int_l0_eq, spec_l13Place_l0_eq, dec_lt_t hk', inside_lt hk', toNat_n, w64_succ hk' (by omega)]
      simp only [cond_true]
      by_cases c : v = l.getD k 0
      · rw [beq_t c, beq_t c.symm]; exact ⟨_, rfl, rfl⟩
      · rw [beq_f c, beq_f fun e => c e.symm]; exact ih (k + 1) (by omega)
  exact key l.length 0 (by omega)
theorem burnt_p {g : Gr} (hg : g.2.length ≤ 1000) {b : List Int} (hb : b.length ≤ 1000) : ∃ r, impl_burnt g b = some r ∧ spec_l13Burnt g b = some r ∧ r.length = g.2.length ∧ ∀ x ∈ r, x = 0 ∨ x = 1 := by
  rw [impl_burnt_eq, spec_l13Burnt_eq]
  have key : ∀ (m k : Nat) (s : List Int), k + m = g.2.length → s.length = k → (∀ x ∈ s, x = 0 ∨ x = 1) → ∃ r, impl_burnt_l0 b s g.2 (g.2.length : Int) (k : Int) = some r ∧ spec_l13Burnt_l0 b s g.2 (g.2.length : Int) (k : Int) = some r ∧ r.length = g.2.length ∧ ∀ x ∈ r, x = 0 ∨ x = 1 := by
    intro m
    induction m with
    | zero =>
      intro k s hk hs hx
      have : k = g.2.length := by omega
      subst this
      rw [impl_burnt_l0_eq, spec_l13Burnt_l0_eq, dec_lt_f]
      exact ⟨s, rfl, rfl, hs, hx⟩
    | succ m ih =>
      intro k s hk hs hx
      have hk' : k < g.2.length := by omega
      obtain ⟨p, p1, p2⟩ := place_p (l := b) (v := (g.2.getD k (0, 0)).1) hb
      obtain ⟨q, q1, q2⟩ := place_p (l := b) (v := (g.2.getD k (0, 0)).2) hb
      rw [impl_burnt_l0_eq, spec_l13Burnt_l0_eq, dec_lt_t hk', inside_lt hk', toNat_n, w64_succ hk' (by omega), p1, p2]
      simp only [cond_true, Option.bind_some, q1, q2]
      rw [decide_eq_true (show s.length + ([0] : List Int).length ≤ room by rw [room]; simp only [List.length_singleton]; omega), decide_eq_true (show s.length + ([1] : List Int).length ≤ room by rw [room]; simp only [List.length_singleton]; omega)]
      cases decide (p < q) with
      | true => exact ih (k + 1) _ (by omega) (by rw [List.length_append, hs]; rfl) (fun x h => by
          rcases List.mem_append.1 h with h | h
          · exact hx x h
          · exact .inl (List.mem_singleton.1 h))
      | false => exact ih (k + 1) _ (by omega) (by rw [List.length_append, hs]; rfl) (fun x h => by
          rcases List.mem_append.1 h with h | h
          · exact hx x h
          · exact .inr (List.mem_singleton.1 h))
  exact key g.2.length 0 [] (by omega) rfl (fun x hx => (List.not_mem_nil hx).elim)
end Go.Proofs.YthmddgkpebneoaaDoor.D

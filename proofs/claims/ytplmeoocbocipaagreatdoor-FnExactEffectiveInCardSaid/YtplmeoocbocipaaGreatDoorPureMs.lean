/-
  Chips on a graph: burning from a vertex, by the other program.
-/
import Derived.Test.YtplmeoocbocipaaGreatDoorPureM
namespace Go.Proofs.YtplmeoocbocipaaGreatDoor.D
open Go Go.Den
set_option linter.unusedVariables false
set_option linter.unusedSimpArgs false
def bv (L : List Nat) (n : Nat) : List Bool := (List.range n).map fun w => decide (w ∈ L)
theorem bv_len (L : List Nat) (n : Nat) : (bv L n).length = n := by unfold bv; simp
theorem bv_getD {L : List Nat} {n w : Nat} (h : w < n) : (bv L n).getD w false = decide (w ∈ L) := getD_range_map _ h
theorem bv_set {L : List Nat} {n v : Nat} (h : v < n) : (bv L n).set v true = bv (L ++ [v]) n := by
  refine ext_getD (d := false) (by simp [bv_len]) fun j hj => ?_
  have hj' : j < n := by simpa [bv_len] using hj
  rw [bv_getD hj']
  by_cases c : j = v
  · subst c
    rw [List.getD_eq_getElem?_getD, List.getElem?_set_self (by rw [bv_len]; exact h)]
    simp
  · rw [List.getD_eq_getElem?_getD, List.getElem?_set_ne (fun k => c k.symm), ← List.getD_eq_getElem?_getD, bv_getD hj']
    exact decide_eq_decide.2 (by simp [c])
theorem sm_mulL {n v : Nat} {L : List Nat} (hv : v ∉ L) : ∀ {E : Es}, GE n E → sm n (fun w => if w ∈ L then mul E v w else 0) = outd E (cmp L) v
  | [], _ => by
    have : sm n (fun w => if w ∈ L then mul [] v w else 0) = sm n (fun _ => 0) := sm_congr fun w _ => by unfold mul; split <;> rfl
    rw [this, sm_zero]; rfl
  | e :: E, hE => by
    have he := hE e List.mem_cons_self
    have : sm n (fun w => if w ∈ L then mul (e :: E) v w else 0) = sm n (fun w => (if w ∈ L then hit e v w else 0) + (if w ∈ L then mul E v w else 0)) := sm_congr fun w _ => by
      rw [mul_cons]
      split <;> omega
    rw [this, sm_add, sm_mulL hv hE.tail, outd_cons]
    congr 1
    by_cases c1 : v = e.1
    · rw [if_pos c1]
      have : sm n (fun w => if w ∈ L then hit e v w else 0) = sm n (fun w => if w = e.2 then (if e.2 ∈ L then 1 else 0) else 0) := sm_congr fun w hw => by
        unfold hit
        by_cases c : w = e.2
        · have h1 : (v = e.1 ∧ w = e.2) ∨ (v = e.2 ∧ w = e.1) := .inl ⟨c1, c⟩
          rw [if_pos h1, if_pos c, c]
        · have : ¬ ((v = e.1 ∧ w = e.2) ∨ (v = e.2 ∧ w = e.1)) := by omega
          rw [if_neg this, if_neg c]; split <;> rfl
      rw [this, sm_one, if_pos he.2]
      unfold cmp
      by_cases c : e.2 ∈ L <;> simp [c]
    · rw [if_neg c1]
      by_cases c2 : v = e.2
      · rw [if_pos c2]
        have : sm n (fun w => if w ∈ L then hit e v w else 0) = sm n (fun w => if w = e.1 then (if e.1 ∈ L then 1 else 0) else 0) := sm_congr fun w hw => by
          unfold hit
          by_cases c : w = e.1
          · have h1 : (v = e.1 ∧ w = e.2) ∨ (v = e.2 ∧ w = e.1) := .inr ⟨c2, c⟩
            rw [if_pos h1, if_pos c, c]
          · have : ¬ ((v = e.1 ∧ w = e.2) ∨ (v = e.2 ∧ w = e.1)) := by omega
            rw [if_neg this, if_neg c]; split <;> rfl
        rw [this, sm_one, if_pos (by omega)]
        unfold cmp
        by_cases c : e.1 ∈ L <;> simp [c]
      · rw [if_neg c2]
        have : sm n (fun w => if w ∈ L then hit e v w else 0) = sm n (fun _ => 0) := sm_congr fun w hw => by
          unfold hit
          have : ¬ ((v = e.1 ∧ w = e.2) ∨ (v = e.2 ∧ w = e.1)) := by omega
          rw [if_neg this]; split <;> rfl
        rw [this, sm_zero]
theorem sm_bd {f : Nat → Int} {c : Int} (h : ∀ v, 0 ≤ f v ∧ f v ≤ c) : ∀ n, 0 ≤ sm n f ∧ sm n f ≤ (n : Int) * c
  | 0 => by simp [sm]
  | n + 1 => by
    have := sm_bd h n
    have := h n
    rw [sm, show ((n + 1 : Nat) : Int) = (n : Int) + 1 by omega, Int.add_mul]
    omega
theorem spec_l4_p {g : Gr} (hg : GOk g) {d : List Int} {D : Nat → Int} (hd : vec (N g) d D) {q : Nat} {L : List Nat} (hL : BI (N g) (Eg g) q D L) {v : Nat} (hv : v < N g) {nx : Int} :
    spec_l05Burn_l4 d g (ints L) (bv L (N g)) nx (v : Int) 0 0 = spec_l05Burn_l2 d g (ints L) (bv L (N g)) (if v ∉ L ∧ D v < outd (Eg g) (cmp L) v then (v : Int) else nx) ((v : Int) - 1) := by
  obtain ⟨gE1, gE2, gE3⟩ := gE hg
  have hn := gN hg
  have := upFold (n := N g) (f := fun s i => spec_l05Burn_l4 d g (ints L) (bv L (N g)) nx (v : Int) s i) (g := fun k s => sm (k + 1) (fun w => if w ∈ L then mul (Eg g) v w else 0)) (fun k s => s = sm k (fun w => if w ∈ L then mul (Eg g) v w else 0)) (fun k s hk hs => ⟨by
    subst hs
    have bm := mul_bd v k (Eg g)
    have bd := sm_bd (f := fun w => if w ∈ L then mul (Eg g) v w else 0) (c := 12) (fun w => by
      have := mul_bd v w (Eg g)
      split <;> omega) k
    rw [spec_l05Burn_l4_eq, decide_eq_true (by omega), show inside (k : Int) (bv L (N g)).length = true from inside_lt (by rw [bv_len]; exact hk), toNat_n, bv_getD hk, w64_succ hk (by omega)]
    simp only [cond_true]
    by_cases c : k ∈ L
    · rw [decide_eq_true c, cond_true, spec_mul_p hg hv hk, Option.bind_some, w64_id (by omega) (by omega)]
      simp only [sm, if_pos c]
    · rw [decide_eq_false c, cond_false]
      simp only [sm, if_neg c, Int.add_zero], rfl⟩) (s := 0) rfl
  have h1 := this.1
  have h1' : spec_l05Burn_l4 d g (ints L) (bv L (N g)) nx (v : Int) 0 0 = _ := h1
  rw [h1', this.2, spec_l05Burn_l4_eq, decide_eq_false (by omega), cond_false, show inside (v : Int) (bv L (N g)).length = true from inside_lt (by rw [bv_len]; exact hv), cond_true, toNat_n, bv_getD hv, w64_id (by omega) (by omega)]
  by_cases c : v ∈ L
  · rw [decide_eq_true c, Bool.not_true, cond_false, if_neg (fun k => k.1 c)]
  · rw [decide_eq_false c, Bool.not_false, cond_true, show inside (v : Int) d.length = true from inside_lt (by rw [hd.1]; exact hv), cond_true, hd.2 v hv, sm_mulL c gE1]
    by_cases c2 : D v < outd (Eg g) (cmp L) v
    · rw [decide_eq_true c2, cond_true, if_pos ⟨c, c2⟩]
    · rw [decide_eq_false c2, cond_false, if_neg (fun k => c2 k.2)]
theorem spec_l2_p {g : Gr} (hg : GOk g) {d : List Int} {D : Nat → Int} (hd : vec (N g) d D) {q : Nat} {L : List Nat} (hL : BI (N g) (Eg g) q D L) : ∀ (k : Nat) (nx : Int), k ≤ N g → ((nx = -1 ∧ ∀ v, k ≤ v → v < N g → v ∉ L → outd (Eg g) (cmp L) v ≤ D v) ∨ ∃ v : Nat, nx = (v : Int) ∧ v < N g ∧ v ∉ L ∧ D v < outd (Eg g) (cmp L) v) →
    (∃ v, v < N g ∧ v ∉ L ∧ D v < outd (Eg g) (cmp L) v ∧ spec_l05Burn_l2 d g (ints L) (bv L (N g)) nx ((k : Int) - 1) = spec_l05Burn_l0 d g (ints (L ++ [v])) (bv (L ++ [v]) (N g))) ∨ (Fin' (N g) (Eg g) D L ∧ spec_l05Burn_l2 d g (ints L) (bv L (N g)) nx ((k : Int) - 1) = some (ints L))
  | 0, nx, hk, hp => by
    have hn := gN hg
    have hlen := hL.len
    rw [spec_l05Burn_l2_eq, decide_eq_false (by omega), cond_false]
    rcases hp with ⟨h1, h2⟩ | ⟨v, h1, h2, h3, h4⟩
    · rw [h1, decide_eq_true (by omega)]
      exact .inr ⟨fun v hv h => h2 v (by omega) hv h, rfl⟩
    · rw [h1, decide_eq_false (by omega), cond_false, show inside (v : Int) (bv L (N g)).length = true from inside_lt (by rw [bv_len]; exact h2), cond_true, decide_eq_true (show (ints L).length + ([(v : Int)] : List Int).length ≤ room by rw [ints_len, room]; simp only [List.length_cons, List.length_nil]; omega), cond_true, toNat_n, bv_set h2]
      have : ints (L ++ [v]) = ints L ++ [(v : Int)] := by unfold ints; simp
      exact .inl ⟨v, h2, h3, h4, by rw [this]⟩
  | k + 1, nx, hk, hp => by
    have hn := gN hg
    have hk' : k < N g := by omega
    have hstep : spec_l05Burn_l2 d g (ints L) (bv L (N g)) nx (((k + 1 : Nat) : Int) - 1) = spec_l05Burn_l2 d g (ints L) (bv L (N g)) (if k ∉ L ∧ D k < outd (Eg g) (cmp L) k then (k : Int) else nx) ((k : Int) - 1) := by
      rw [show (((k + 1 : Nat) : Int) - 1) = (k : Int) by omega, spec_l05Burn_l2_eq, decide_eq_true (by omega), cond_true, spec_l4_p hg hd hL hk']
    rw [hstep]
    refine spec_l2_p hg hd hL k _ (by omega) ?_
    by_cases c : k ∉ L ∧ D k < outd (Eg g) (cmp L) k
    · rw [if_pos c]
      exact .inr ⟨k, rfl, hk', c.1, c.2⟩
    · rw [if_neg c]
      rcases hp with ⟨h1, h2⟩ | h
      · refine .inl ⟨h1, fun v hv hv2 hv3 => ?_⟩
        by_cases e : v = k
        · subst e
          have := not_and.1 c hv3
          omega
        · exact h2 v (by omega) hv2 hv3
      · exact .inr h
theorem spec_burn_p {g : Gr} (hg : GOk g) {d : List Int} {D : Nat → Int} (hd : vec (N g) d D) {q : Nat} (hq : q < N g) : ∃ L, spec_l05Burn g d (q : Int) = some (ints L) ∧ BI (N g) (Eg g) q D L ∧ Fin' (N g) (Eg g) D L := by
  obtain ⟨gE1, gE2, gE3⟩ := gE hg
  have hn := gN hg
  have h0 : (List.replicate g.1.toNat false).set ((q : Int)).toNat true = bv [q] (N g) := by
    rw [toNat_n]
    have : List.replicate g.1.toNat false = bv [] (N g) := by
      unfold bv N
      refine ext_getD (d := false) (by simp) fun j hj => ?_
      have hj' : j < g.1.toNat := by simpa using hj
      rw [getD_range_map _ hj', List.getD_eq_getElem?_getD, List.getElem?_replicate]
      simp [hj']
    rw [this, bv_set hq]; rfl
  rw [spec_l05Burn_eq, h0, decide_eq_true (by omega), decide_eq_true (show g.1 ≤ (room : Int) by rw [room]; omega)]
  simp only [Bool.and_self, cond_true]
  rw [show inside (q : Int) (List.replicate g.1.toNat false).length = true from inside_lt (by rw [List.length_replicate]; exact hq), cond_true]
  have key : ∀ (m : Nat) (L : List Nat), L.length + m = N g + 1 → BI (N g) (Eg g) q D L → ∃ L', spec_l05Burn_l0 d g (ints L) (bv L (N g)) = some (ints L') ∧ BI (N g) (Eg g) q D L' ∧ Fin' (N g) (Eg g) D L' := by
    intro m
    induction m with
    | zero => intro L hl hB; have := hB.len; omega
    | succ m ih =>
      intro L hl hB
      rw [spec_l05Burn_l0_eq, w64_id (by omega) (by omega), ← hn.1]
      rcases spec_l2_p hg hd hB (N g) (-1) (Nat.le_refl _) (.inl ⟨rfl, fun v h1 h2 => by omega⟩) with ⟨v, h1, h2, h3, h4⟩ | ⟨h1, h2⟩
      · obtain ⟨L', k1, k2, k3⟩ := ih (L ++ [v]) (by rw [List.length_append]; simp only [List.length_cons, List.length_nil]; omega) (hB.add gE1 h1 h2 h3)
        exact ⟨L', h4.trans k1, k2, k3⟩
      · exact ⟨L, h2, hB, h1⟩
  exact key (N g) [q] (by simp; omega) (BI.start hq)
end Go.Proofs.YtplmeoocbocipaaGreatDoor.D

/-
  The reports: each names what the functions return.
-/
import Derived.Test.YtgncajnfphlgeaaGreatDoorPureIp
import Derived.Test.YtgncajnfphlgeaaGreatDoorPureGl
namespace Go.Proofs.YtgncajnfphlgeaaGreatDoor.D
open Go Go.Den
set_option linter.unusedVariables false
set_option linter.unusedSimpArgs false
theorem isG_ex {M : List (List Int)} {n : Nat} (hM : MxOk M n) : ∃ Gs : Nat → Nat, ∀ k, k ≤ n → IsG (ent M) n k (Gs k) ∧ Gs k ≤ GB := by
  have st : CC M n 0 0 (List.replicate (n + 1) 0) := ⟨List.length_replicate, fun k hk => ⟨0, by rw [List.getD_eq_getElem?_getD, List.getElem?_replicate]; split <;> rfl, Nat.zero_le _, fun d => ⟨fun _ a' b' _ _ h => by omega, fun _ => Nat.dvd_zero d⟩⟩⟩
  obtain ⟨C, c1, c2⟩ := vl0_p hM (2 ^ n) 0 _ (by omega) st
  refine ⟨fun k => (C.getD k 0).toNat, fun k hk => ?_⟩
  obtain ⟨G, g1, g2, g3⟩ := c1.2 k hk
  have : IsG (ent M) n k G := fun d => (g3 d).trans ⟨fun h rows cols hr hc => by
    obtain ⟨a, a1, a2⟩ := inc_lo hr
    obtain ⟨b, b1, b2⟩ := inc_lo hc
    have := h a b a1 b1 (.inl a1) (by rw [a2]; exact hr.1) (by rw [b2]; exact hc.1)
    rwa [a2, b2] at this, fun h a b ha hb _ hl1 hl2 => h _ _ (hl1 ▸ lo_Inc a n) (hl2 ▸ lo_Inc b n)⟩
  have e : (C.getD k 0).toNat = G := by rw [g1, toNat_n]
  show IsG (ent M) n k (C.getD k 0).toNat ∧ (C.getD k 0).toNat ≤ GB
  rw [e]
  exact ⟨this, g2⟩
theorem factors_i {g : Gr} (hg : GOk g) : ∃ F : List Int, impl_GroupFactors g = some F ∧ F.length ≤ 5 ∧ ∀ x ∈ F, 0 ≤ x ∧ x ≤ 777600000 := by
  have hn := gN hg
  have hM := RLM_ok hg
  obtain ⟨Gs, g1⟩ := isG_ex hM
  have hi : impl_InvariantFactors (RLM g) = some (facs Gs (N g - 1)) := by
    rw [impl_InvariantFactors_eq, iMat_p hM, Option.bind_some, Bool.not_true, cond_false, hM.len]
    by_cases c : N g - 1 = 0
    · rw [c]; rfl
    · rw [beq_f (show ¬ ((N g - 1 : Nat) : Int) = 0 by omega), cond_false, show w64 (((N g - 1 : Nat) : Int) + 1) = ((N g - 1 + 1 : Nat) : Int) from w64_succ (show N g - 1 < N g by omega) (by omega), decide_eq_true (by omega), decide_eq_true (by rw [room]; omega), Bool.and_self, cond_true, toNat_n]
      exact iinv_p hM g1
  have hfb := facs_bd (Gs := Gs) (n := N g - 1) fun k hk => (g1 k hk).2
  have hfl := facs_len Gs (N g - 1)
  rw [impl_GroupFactors_eq, okI hg, Option.bind_some, Bool.not_true, cond_false, iRed_p hg, Option.bind_some, hi, Option.bind_some]
  generalize facs Gs (N g - 1) = L at hfb hfl
  have key : ∀ (m k : Nat) (F : List Int), k + m = L.length → F.length ≤ k → (∀ x ∈ F, 0 ≤ x ∧ x ≤ 777600000) → ∃ F', impl_GroupFactors_l0 F L (L.length : Int) (k : Int) = some F' ∧ F'.length ≤ L.length ∧ ∀ x ∈ F', 0 ≤ x ∧ x ≤ 777600000 := by
    intro m
    induction m with
    | zero =>
      intro k F hk hF hx
      have : k = L.length := by omega
      subst this
      rw [impl_GroupFactors_l0_eq, dec_lt_f]
      exact ⟨F, rfl, hF, hx⟩
    | succ m im =>
      intro k F hk hF hx
      have hk' : k < L.length := by omega
      rw [impl_GroupFactors_l0_eq, dec_lt_t hk', inside_lt hk', w64_succ hk' (by omega)]
      simp only [cond_true, toNat_n]
      by_cases c : L.getD k 0 > 1
      · rw [decide_eq_true c]
        simp only [cond_true]
        rw [decide_eq_true (by rw [room]; simp only [List.length_singleton]; omega)]
        simp only [cond_true]
        refine im (k + 1) _ (by omega) (by rw [List.length_append]; simp only [List.length_singleton]; omega) fun x hx' => ?_
        rcases List.mem_append.1 hx' with h | h
        · exact hx x h
        · rw [List.mem_singleton.1 h]; exact hfb _ (getD_mem 0 hk')
      · rw [decide_eq_false c]
        exact im (k + 1) F (by omega) (by omega) hx
  obtain ⟨F', f1, f3, f4⟩ := key L.length 0 [] (by omega) (Nat.zero_le _) fun x hx => absurd hx List.not_mem_nil
  exact ⟨F', f1, by omega, f4⟩
theorem graphLine_i {g : Gr} (hg : GOk g) : ∃ x, impl_GraphLine g = some x ∧ 0 < x.size := by
  obtain ⟨F, f2, f3, f4⟩ := factors_i hg
  have r2 := genusI hg
  have hn := gN hg
  have h12 := hg.1.2.1
  have r3 : I64 (gnI g) := by unfold I64 gnI; omega
  have hF : ∀ x ∈ F, I64 x := fun x hx => by have := f4 x hx; unfold I64; omega
  have htb := trs_bd hg
  have ht : I64 (trs g) := by unfold I64; omega
  have s1 := fi_size r3
  have s2 := fi_size ht
  have s3 := fd_size (d := F) (by omega) hF
  have z1 : (⟨#[103, 101, 110, 117, 115, 32]⟩ : ByteArray).size = 6 := rfl
  have z2 : (⟨#[32, 116, 114, 101, 101, 115, 32]⟩ : ByteArray).size = 7 := rfl
  have z4 : (⟨#[32, 103, 114, 111, 117, 112, 32]⟩ : ByteArray).size = 7 := rfl
  have z6 : (⟨#[116, 114, 105, 118, 105, 97, 108]⟩ : ByteArray).size = 7 := rfl
  rw [impl_GraphLine_eq, okI hg]
  simp only [Option.bind_some, Bool.not_true, cond_false, r2, iTrees_p hg, f2, impl_FormatInt_p r3, impl_FormatInt_p ht]
  by_cases c : F.length = 0
  · have c1 : decide ((F.length : Int) > 0) = false := decide_eq_false (by omega)
    rw [c1]
    simp only [cond_false]
    rw [decide_eq_true (by omega), decide_eq_true (by rw [size_app]; omega), decide_eq_true (by rw [size_app, size_app]; omega), decide_eq_true (by rw [size_app, size_app, size_app]; omega), decide_eq_true (by rw [size_app, size_app, size_app, size_app]; omega)]
    simp only [cond_true]
    exact ⟨_, rfl, by rw [size_app, size_app, size_app, size_app, size_app]; omega⟩
  · have c1 : decide ((F.length : Int) > 0) = true := decide_eq_true (by omega)
    rw [c1]
    simp only [cond_true, impl_FormatDivisor_p (d := F) (by omega) hF, Option.bind_some]
    rw [decide_eq_true (by omega), decide_eq_true (by rw [size_app]; omega), decide_eq_true (by rw [size_app, size_app]; omega), decide_eq_true (by rw [size_app, size_app, size_app]; omega), decide_eq_true (by rw [size_app, size_app, size_app, size_app]; omega)]
    simp only [cond_true]
    exact ⟨_, rfl, by rw [size_app, size_app, size_app, size_app, size_app]; omega⟩
theorem ne_none {x : ByteArray} (h : 0 < x.size) : (!(x.toList == (⟨#[]⟩ : ByteArray).toList)) = true := by
  rw [Bool.not_eq_true', beq_eq_false_iff_ne]
  intro c
  rw [ByteArray.toList_eq, ByteArray.toList_eq] at c
  have h2 := congrArg List.length c
  rw [Array.length_toList, Array.length_toList] at h2
  have h3 : x.data.size = x.size := rfl
  have h4 : (⟨#[]⟩ : ByteArray).data.size = 0 := rfl
  omega
theorem makePile_p {l : List Int} (h : l.length ≤ 1048576) {n : Nat} (hn : n ≤ 1000) {g : Gr} (hg : GOk g) {q : Nat} (hq : q < N g) : ∃ p, spec_MakePile l (n : Int) g (q : Int) = some p ∧ POk g p q := by
  obtain ⟨c, c1, c2⟩ := skip_p h hn
  have hN := gN hg
  have key : ∀ (m k : Nat) (c : Cur) (p : List Int), k + m = N g → CurOk c → p.length = k → (∀ v, v < k → 0 ≤ p.getD v 0 ∧ p.getD v 0 ≤ 6) → ∃ p' c', spec_l10Draw_l0 c (q : Int) g p (k : Int) = some (p', c') ∧ POk g p' q := by
    intro m
    induction m with
    | zero =>
      intro k c p hk hc hp hv
      have : k = N g := by omega
      subst this
      have hs : ∀ v, v < N g → 0 ≤ (p.set q 0).getD v 0 ∧ (p.set q 0).getD v 0 ≤ 6 := fun v hv' => by
        rw [getD_set (by omega)]
        split
        · omega
        · exact hv v hv'
      refine ⟨p.set q 0, c, ?_, ⟨⟨hg, by rw [List.length_set]; omega, fun j hj => ?_⟩, hq, fun v hv' => (hs v (by rw [List.length_set] at hv'; omega)).1, by rw [getD_set (by omega), if_pos rfl]⟩⟩
      · rw [spec_l10Draw_l0_eq, ← hN.1, dec_lt_f, cond_false, decide_eq_true (show (q : Int) ≥ 0 by omega), cond_true, decide_eq_true (by omega), cond_true, inside_lt (by omega), cond_true, toNat_n]
      · rw [List.length_set] at hj
        have := hs j (by omega)
        omega
    | succ m ih =>
      intro k c p hk hc hp hv
      obtain ⟨x, c', x1, x2, x3⟩ := below_p hc (n := 7) (by omega) (by omega)
      rw [spec_l10Draw_l0_eq, ← hN.1, dec_lt_t (show k < N g by omega), cond_true, x1, Option.bind_some, decide_eq_true (by rw [room]; simp only [List.length_singleton]; omega), cond_true, w64_succ (show k < N g by omega) (by omega)]
      refine ih (k + 1) c' (p ++ [x]) (by omega) x3 (by rw [List.length_append]; simp only [List.length_singleton]; omega) fun v hv' => ?_
      by_cases e : v < k
      · rw [List.getD_eq_getElem?_getD, List.getElem?_append_left (by omega), ← List.getD_eq_getElem?_getD]
        exact hv v e
      · have : v = p.length := by omega
        rw [this, List.getD_eq_getElem?_getD, List.getElem?_append_right (Nat.le_refl _), Nat.sub_self]
        show 0 ≤ x ∧ x ≤ 6
        omega
  obtain ⟨p, c', p1, p2⟩ := key (N g) 0 c [] (by omega) c2 rfl fun v hv => absurd hv (Nat.not_lt_zero _)
  refine ⟨p, ?_, p2⟩
  rw [spec_MakePile_eq, c1, Option.bind_some, spec_l10Draw_eq]
  rw [show ((0 : Nat) : Int) = 0 from rfl] at p1
  rw [p1]
  rfl
theorem witI {g : Gr} {d : List Int} (h : DOk g d) (h7 : sm (N g) (fn d) ≤ 7) : ∃ (k : Nat) (w : List Int), impl_RankOf g d = some ((k : Int) - 1, true) ∧ impl_RankWitness g d = some (w, true) ∧ w.length ≤ 6 ∧ (∀ x ∈ w, I64 x) ∧ k ≤ 8 := by
  obtain ⟨h1, h2⟩ := h.vec
  have hn := gN h.1
  obtain ⟨r, w, r1, r3, r4⟩ := rank_i h.1 h1 (h2.mono (by omega)) (by omega)
  have hd := degI h.1 h1 (h2.mono (by omega))
  have hm := eff_mem r3.mem
  refine ⟨r, w, ?_, ?_, by rw [hm.1]; omega, fun x hx => by have := hm.2 x hx; unfold I64; omega, by omega⟩
  · rw [impl_RankOf_eq, dokI h, Option.bind_some, Bool.not_true, cond_false, hd, Option.bind_some, decide_eq_false (by omega), cond_false, r1]; rfl
  · rw [impl_RankWitness_eq, dokI h, Option.bind_some, Bool.not_true, cond_false, hd, Option.bind_some, decide_eq_false (by omega), cond_false, r1]; rfl
theorem dok_i64 {g : Gr} {d : List Int} (h : DOk g d) : ∀ x ∈ d, I64 x := fun x hx => by
  obtain ⟨j, hj, e⟩ := List.getElem_of_mem hx
  have := h.2.2 j hj
  rw [getD_lt hj, e] at this
  unfold I64; omega
theorem law_Reports {l : List Int} : laws_FnReports l = some true := by
  rw [laws_FnReports_eq]
  by_cases c0 : (l.length : Int) > 1048576
  · rw [decide_eq_true c0]; rfl
  rw [decide_eq_false c0, cond_false]
  obtain ⟨g, g1, g2, g3, g4⟩ := small_p (l := l) (by omega)
  obtain ⟨num, n1, n2, n3⟩ := num_p (l := l) (by omega) (n := 60) (by omega)
  have n1' : spec_MakeNum l 60 = some num := n1
  obtain ⟨d, d1, d2, d3, d4⟩ := few_p (l := l) (by omega) g2 (n := 20) (by omega)
  have d1' : spec_MakeFew l 20 g = some d := d1
  have hn := gN g2
  have hdl : d.length = N g := by have := d2.2.1; omega
  obtain ⟨v, hv⟩ : ∃ v : Nat, Int.tmod num g.1 = (v : Int) := ⟨(Int.tmod num g.1).toNat, by have := Int.tmod_nonneg g.1 n2; omega⟩
  have hvN : v < N g := by have := Int.tmod_lt_of_pos num (show 0 < g.1 by omega); omega
  obtain ⟨p, p1, p2⟩ := makePile_p (l := l) (by omega) (n := 30) (by omega) g2 hvN
  have p1' : spec_MakePile l 30 g (v : Int) = some p := p1
  obtain ⟨k, w, k1, k2, k3, k4, k5⟩ := witI d2 (by omega)
  have hd64 := dok_i64 d2
  have hk64 : I64 ((k : Int) - 1) := by unfold I64; omega
  have fdd := impl_FormatDivisor_p (d := d) (by omega) hd64
  have fdn := impl_FormatDivisor_p (d := []) (by simp) (fun x hx => absurd hx List.not_mem_nil)
  have fdw := impl_FormatDivisor_p (d := w) (by omega) k4
  have hll : impl_ListLines [d, []] = some [fd d, fd []] := by
    have h2 : (([d, []] : List (List Int)).length : Int) = ((2 : Nat) : Int) := rfl
    have e0 : ([d, []] : List (List Int)).getD 0 [] = d := rfl
    have e1 : ([d, []] : List (List Int)).getD 1 [] = [] := rfl
    have s0 := impl_ListLines_l0_eq [] [d, []] ((2 : Nat) : Int) ((0 : Nat) : Int)
    have s1 := impl_ListLines_l0_eq [fd d] [d, []] ((2 : Nat) : Int) ((1 : Nat) : Int)
    have s2 := impl_ListLines_l0_eq [fd d, fd []] [d, []] ((2 : Nat) : Int) ((2 : Nat) : Int)
    rw [dec_lt_f] at s2
    rw [dec_lt_t (show 1 < 2 by omega), inside_lt (show 1 < ([d, []] : List (List Int)).length from Nat.lt_succ_self 1), toNat_n, e1, fdn, w64_succ (show 1 < 2 by omega) (by omega)] at s1
    rw [dec_lt_t (show 0 < 2 by omega), inside_lt (show 0 < ([d, []] : List (List Int)).length from Nat.succ_pos 1), toNat_n, e0, fdd, w64_succ (show 0 < 2 by omega) (by omega)] at s0
    rw [impl_ListLines_eq]
    refine s0.trans ?_
    exact s1.trans s2
  obtain ⟨pl, pl1, pl2⟩ := pileLine_i p2
  obtain ⟨gl, gl1, gl2⟩ := graphLine_i g2
  have s1 := fi_size hk64
  have s2 := fd_size (d := w) (by omega) k4
  have z1 : (⟨#[114, 97, 110, 107, 32]⟩ : ByteArray).size = 5 := rfl
  have z2 : (⟨#[32, 98, 117, 116, 32, 110, 111, 116, 32]⟩ : ByteArray).size = 9 := rfl
  have t1 : decide ((⟨#[114, 97, 110, 107, 32]⟩ : ByteArray).size + (fi ((k : Int) - 1)).size ≤ 9223372036854775807) = true := decide_eq_true (by omega)
  have t2 : decide (((⟨#[114, 97, 110, 107, 32]⟩ : ByteArray) ++ fi ((k : Int) - 1)).size + (⟨#[32, 98, 117, 116, 32, 110, 111, 116, 32]⟩ : ByteArray).size ≤ 9223372036854775807) = true := decide_eq_true (by rw [size_app]; omega)
  have t3 : decide ((((⟨#[114, 97, 110, 107, 32]⟩ : ByteArray) ++ fi ((k : Int) - 1)) ++ (⟨#[32, 98, 117, 116, 32, 110, 111, 116, 32]⟩ : ByteArray)).size + (fd w).size ≤ 9223372036854775807) = true := decide_eq_true (by rw [size_app, size_app]; omega)
  have rl : impl_RankLine g d = some ((((⟨#[114, 97, 110, 107, 32]⟩ : ByteArray) ++ fi ((k : Int) - 1)) ++ (⟨#[32, 98, 117, 116, 32, 110, 111, 116, 32]⟩ : ByteArray)) ++ fd w) := by
    rw [impl_RankLine_eq, k1, Option.bind_some]
    simp only [Bool.not_true, cond_false, k2, Option.bind_some, impl_FormatInt_p hk64, fdw, t1, t2, t3, cond_true]
  have fn0 : fd [] = (⟨#[110, 111, 110, 101]⟩ : ByteArray) := rfl
  rw [g1, Option.bind_some, d1', Option.bind_some, n1', Option.bind_some, decide_eq_false (show ¬ g.1 = 0 by omega), cond_false, hv, p1', Option.bind_some, k1, Option.bind_some, k2, Option.bind_some, hll, Option.bind_some, laws_FnReports_c10_eq]
  simp only [cond_true, rl, Option.bind_some, impl_FormatInt_p hk64, fdw, t1, t2, t3, beq_self_eq_true, pl1, ne_none pl2, gl1, ne_none gl2, fdd]
  have q1 : ((([fd d, fd []] : List ByteArray).length : Int) == 2) = true := rfl
  have q2 : inside 0 ([fd d, fd []] : List ByteArray).length = true := rfl
  have q3 : inside 1 ([fd d, fd []] : List ByteArray).length = true := rfl
  have q4 : ([fd d, fd []] : List ByteArray).getD 0 ByteArray.empty = fd d := rfl
  have q5 : ([fd d, fd []] : List ByteArray).getD 1 ByteArray.empty = fd [] := rfl
  rw [q1, cond_true, q2, cond_true, q4, beq_self_eq_true, cond_true, q3, cond_true, q5, fn0, beq_self_eq_true]
end Go.Proofs.YtgncajnfphlgeaaGreatDoor.D

/-
  Texts: both programs read a number alike: only the one text of a number is taken.
-/
import Derived.Test.YtkedbhndiokegaaDoorPureS
import Derived.Lib.AtoiAll
import Derived.Lib.Strings
import Derived.Laws.Strings
namespace Go.Proofs.YtkedbhndiokegaaDoor.D
open Go Go.Den
set_option linter.unusedVariables false
set_option linter.unusedSimpArgs false
def IsDig (c : UInt8) : Prop := 48 ≤ c.toNat ∧ c.toNat ≤ 57
/-- what digits spell, behind a number -/
def dvalF (a : Nat) (l : List UInt8) : Nat := l.foldl (fun a c => a * 10 + (c.toNat - 48)) a
def dval (l : List UInt8) : Nat := dvalF 0 l
theorem dvalF_ge : ∀ (l : List UInt8) (a : Nat), a ≤ dvalF a l
  | [], a => Nat.le_refl _
  | c :: l, a => Nat.le_trans (by omega) (dvalF_ge l (a * 10 + (c.toNat - 48)))
theorem dval_snoc (l : List UInt8) (c : UInt8) : dval (l ++ [c]) = dval l * 10 + (c.toNat - 48) := by
  unfold dval dvalF
  rw [List.foldl_append]; rfl
theorem dval_take (l : List UInt8) (k : Nat) : dval (l.take k) ≤ dval l := by
  have : dval l = dvalF (dval (l.take k)) (l.drop k) := by
    unfold dval dvalF
    rw [← List.foldl_append, List.take_append_drop]
  rw [this]; exact dvalF_ge _ _
theorem dig_toNat {k : Nat} (h : k < 10) : (UInt8.ofNat (48 + k)).toNat = 48 + k := by
  rw [UInt8.toNat_ofNat']
  omega
theorem dd_dig (u : Nat) : ∀ c ∈ Lib.decDigits u, IsDig c := by
  induction u using Nat.strongRecOn with
  | _ u ih =>
    rw [Lib.decDigits]
    split
    · rename_i c
      intro x hx
      rw [List.mem_singleton] at hx
      subst hx
      unfold IsDig
      rw [dig_toNat c]; omega
    · rename_i c
      intro x hx
      rcases List.mem_append.1 hx with hx | hx
      · exact ih _ (by omega) x hx
      · rw [List.mem_singleton] at hx
        subst hx
        unfold IsDig
        rw [dig_toNat (by omega)]; omega
theorem dd_val (u : Nat) : dval (Lib.decDigits u) = u := by
  induction u using Nat.strongRecOn with
  | _ u ih =>
    rw [Lib.decDigits]
    split
    · rename_i c
      have : dval [UInt8.ofNat (48 + u)] = 0 * 10 + ((UInt8.ofNat (48 + u)).toNat - 48) := rfl
      rw [this, dig_toNat c]; omega
    · rename_i c
      rw [dval_snoc, ih _ (by omega), dig_toNat (by omega)]; omega
theorem dd_ne (u : Nat) : Lib.decDigits u ≠ [] := by
  intro h
  have := congrArg List.length h
  rw [Lib.decDigits] at this
  split at this <;> simp at this
theorem parseUint10_dig : ∀ (l : List UInt8) (a : Nat), (∀ c ∈ l, IsDig c) → dvalF a l ≤ 9223372036854775808 → Lib.parseUint10 a l = .ok (dvalF a l)
  | [], a, _, _ => rfl
  | c :: l, a, hd, h => by
    have h1 := hd c List.mem_cons_self
    have h2 : dvalF a (c :: l) = dvalF (a * 10 + (c.toNat - 48)) l := rfl
    rw [h2] at h ⊢
    have h3 := dvalF_ge l (a * 10 + (c.toNat - 48))
    unfold IsDig at h1
    rw [Lib.parseUint10, if_pos h1, if_neg (by omega), if_neg (by omega)]
    exact parseUint10_dig l _ (fun x hx => hd x (List.mem_cons_of_mem _ hx)) h
theorem parseMag_dd {u : Nat} (h : u ≤ 9223372036854775808) : Lib.parseMag (Lib.decDigits u) = .ok u := by
  rw [Lib.parseMag, if_neg (dd_ne u)]
  have := parseUint10_dig (Lib.decDigits u) 0 (dd_dig u) (by
    have := dd_val u
    unfold dval at this
    omega)
  rw [this]
  exact congrArg _ (dd_val u)
theorem atoi_itoa {n : Int} (h : I64 n) : Lib.atoiAll (Lib.itoa n) = .ok n := by
  obtain ⟨h0, h1⟩ := h
  unfold Lib.itoa
  by_cases c : n < 0
  · rw [if_pos c, Lib.atoiAll]
    have e : (45 : UInt8).toNat = 45 := rfl
    simp only [e, or_true, if_true, parseMag_dd (show n.natAbs ≤ 9223372036854775808 by omega), not_true, false_and, if_false]
    rw [if_neg (by omega)]
    congr 1; omega
  · rw [if_neg c]
    have hd := dd_dig n.toNat
    have hp := parseMag_dd (show n.toNat ≤ 9223372036854775808 by omega)
    cases hl : Lib.decDigits n.toNat with
    | nil => exact absurd hl (dd_ne _)
    | cons a l =>
      rw [hl] at hd hp
      have ha := hd a List.mem_cons_self
      unfold IsDig at ha
      rw [Lib.atoiAll]
      have e1 : ¬ a.toNat = 43 := by omega
      have e2 : ¬ a.toNat = 45 := by omega
      simp only [e1, e2, or_self, hp, not_false_eq_true, true_and, false_and, if_false]
      rw [if_neg (show ¬ 9223372036854775808 ≤ n.toNat by omega)]
      exact congrArg _ (by omega)
theorem pInt_fi {n : Int} (h : I64 n) : pInt (fi n) = (n, true) := by
  unfold pInt fi
  rw [bl_lb, atoi_itoa h]
  simp only [if_true]
theorem fi_inj {n m : Int} (hn : I64 n) (hm : I64 m) (h : fi n = fi m) : n = m := by
  have := pInt_fi hn
  rw [h, pInt_fi hm] at this
  exact (congrArg Prod.fst this).symm
theorem pInt_no {s : ByteArray} (h : ∀ n, I64 n → s ≠ fi n) : pInt s = (0, false) := by
  unfold pInt
  cases he : Lib.atoiAll (bl s) with
  | ok v =>
    by_cases c : bl s = Lib.itoa v
    · exfalso
      by_cases hv : I64 v
      · exact h v hv (bl_inj (by rw [c, fi, bl_lb]))
      · have : I64 v := by
          unfold Lib.atoiAll at he
          split at he
          · cases he
          · simp only at he
            split at he
            · cases he
            · cases he
            · split at he
              · cases he
              · split at he
                · cases he
                · injection he with he
                  rename_i g1 g2
                  subst he
                  split
                  · rename_i g3
                    exact ⟨by have := not_and.1 g2 g3; omega, by omega⟩
                  · rename_i g3
                    exact ⟨by omega, by have := not_and.1 g1 g3; omega⟩
        exact hv this
    · simp only [if_neg c]
  | range => rfl
  | _ => rfl
/-- a number read: the text is that of the number, or nothing is read -/
def PR (s : ByteArray) (r : Int × Bool) : Prop := r = (0, false) ∨ ∃ n, I64 n ∧ s = fi n ∧ r = (n, true)
theorem PR.eq {s : ByteArray} {r : Int × Bool} (h : PR s r) (hs : ∀ n, I64 n → s = fi n → r = (n, true)) : r = pInt s := by
  by_cases c : ∃ n, I64 n ∧ s = fi n
  · obtain ⟨n, hn, rfl⟩ := c
    rw [hs n hn rfl, pInt_fi hn]
  · rw [pInt_no fun n hn k => c ⟨n, hn, k⟩]
    rcases h with h | ⟨n, hn, h1, _⟩
    · exact h
    · exact absurd ⟨n, hn, h1⟩ c
theorem bAt_bl (s : ByteArray) (i : Nat) : bAt s i = (((bl s).getD i 0).toNat : Int) := by
  have h : (((bl s).getD i 0).toNat : Int) = bAt s i := by unfold bAt bl; omega
  omega
theorem toNat_n (k : Nat) : ((k : Int)).toNat = k := by omega
theorem bl_extract (s : ByteArray) (a b : Nat) : bl (s.extract a b) = ((bl s).drop a).take (b - a) := by
  have := Lib.extract_toList s a b
  rw [ByteArray.toList_eq] at this
  exact this
theorem isDigits_p {s : ByteArray} (h : s.size ≤ 9223372036854775807) : ∃ b, spec_IsDigits s = some b ∧ (b = true ↔ (∀ c ∈ bl s, IsDig c) ∧ 0 < s.size) := by
  rw [spec_IsDigits_eq]
  obtain ⟨b, h1, h2⟩ := upAllE (n := s.size) (e := decide (0 < s.size)) (f := fun i => spec_IsDigits_l0 s i) (p := fun k => decide (48 ≤ ((bl s).getD k 0).toNat ∧ ((bl s).getD k 0).toNat ≤ 57)) (fun k hk => by
    rw [spec_IsDigits_l0_eq, dec_lt_t hk, inside_lt hk, w64_succ hk h]
    simp only [cond_true, toNat_n, bAt_bl]
    by_cases c1 : 48 ≤ ((bl s).getD k 0).toNat
    · rw [decide_eq_false (by omega : ¬ ((((bl s).getD k 0).toNat : Int) < 48)), cond_false]
      by_cases c2 : ((bl s).getD k 0).toNat ≤ 57
      · rw [decide_eq_false (by omega : ¬ ((((bl s).getD k 0).toNat : Int) > 57)), decide_eq_true ⟨c1, c2⟩]; rfl
      · rw [decide_eq_true (by omega : (((bl s).getD k 0).toNat : Int) > 57), decide_eq_false (fun k => c2 k.2)]; rfl
    · rw [decide_eq_true (by omega : (((bl s).getD k 0).toNat : Int) < 48), decide_eq_false (fun q => c1 q.1 : ¬ (48 ≤ ((bl s).getD k 0).toNat ∧ ((bl s).getD k 0).toNat ≤ 57))]; rfl) (by
    rw [spec_IsDigits_l0_eq, dec_lt_f, cond_false]
    congr 1
    exact decide_eq_decide.2 (by omega))
  refine ⟨b, h1, h2.trans ⟨fun ⟨q1, q2⟩ => ⟨fun c hc => ?_, of_decide_eq_true q2⟩, fun ⟨q1, q2⟩ => ⟨fun j hj => decide_eq_true ?_, decide_eq_true q2⟩⟩⟩
  · obtain ⟨i, hi, rfl⟩ := List.mem_iff_getElem.1 hc
    have := of_decide_eq_true (q1 i (by rw [← size_bl]; exact hi))
    rw [getD_lt hi] at this
    exact this
  · exact q1 _ (getD_mem 0 (by rw [size_bl]; exact hj))
theorem piStep {s t : ByteArray} {neg : Bool} {x : Int} {k : Nat} (ht : ∀ c ∈ bl t, IsDig c) (hs : t.size ≤ 19) (hk : k < t.size) (hx : -9223372036854775808 ≤ x ∧ x ≤ 0) : ∃ d : Nat, d < 10 ∧ dval ((bl t).take (k + 1)) = dval ((bl t).take k) * 10 + d ∧
    ((x * 10 - d < -9223372036854775808 ∧ spec_ParseInt_l0 s neg t x (k : Int) = some (0, false)) ∨ (-9223372036854775808 ≤ x * 10 - d ∧ spec_ParseInt_l0 s neg t x (k : Int) = spec_ParseInt_l0 s neg t (x * 10 - d) ((k + 1 : Nat) : Int))) := by
  have hk' : k < (bl t).length := by rw [size_bl]; exact hk
  have hd := ht _ (getD_mem 0 hk')
  have hv : dval ((bl t).take (k + 1)) = dval ((bl t).take k) * 10 + (((bl t).getD k 0).toNat - 48) := by rw [take_succ 0 hk', dval_snoc]
  unfold IsDig at hd
  refine ⟨((bl t).getD k 0).toNat - 48, by omega, hv, ?_⟩
  rw [spec_ParseInt_l0_eq, dec_lt_t hk, inside_lt hk, w64_succ hk (by omega)]
  simp only [cond_true, toNat_n, bAt_bl]
  obtain ⟨d, hc⟩ : ∃ d, ((bl t).getD k 0).toNat = 48 + d := ⟨((bl t).getD k 0).toNat - 48, by omega⟩
  simp only [hc] at hd ⊢
  have e1 : w64 (w64 (((48 + d : Nat) : Int)) - 48) = (d : Int) := by
    have q1 : w64 ((48 + d : Nat) : Int) = ((48 + d : Nat) : Int) := w64_id (by omega) (by omega)
    rw [q1, w64_id (by omega) (by omega)]; omega
  simp only [e1]
  have e2 : w64 (-9223372036854775808 + (d : Int)) = -((9223372036854775808 - d : Nat) : Int) := by
    rw [w64_id (by omega) (by omega)]; omega
  have e3 : Int.tdiv (-((9223372036854775808 - d : Nat) : Int)) 10 = -(((9223372036854775808 - d) / 10 : Nat) : Int) := by rw [Int.neg_tdiv, Int.ofNat_tdiv]; rfl
  have e5 : w64 (-(((9223372036854775808 - d) / 10 : Nat) : Int)) = -(((9223372036854775808 - d) / 10 : Nat) : Int) := w64_id (by omega) (by omega)
  simp only [e2, e3, e5, show 48 + d - 48 = d by omega]
  by_cases g : x < -(((9223372036854775808 - d) / 10 : Nat) : Int)
  · rw [decide_eq_true g]
    exact .inl ⟨by omega, rfl⟩
  · have e4 : w64 (x * 10) = x * 10 := w64_id (by omega) (by omega)
    rw [decide_eq_false g, cond_false, e4]
    have e6 : w64 (x * 10 - (d : Int)) = x * 10 - (d : Int) := w64_id (by omega) (by omega)
    rw [e6]
    exact .inr ⟨by omega, rfl⟩
theorem piEnd {s t : ByteArray} {neg : Bool} {x : Int} (hx : -9223372036854775808 ≤ x ∧ x ≤ 0) : ∃ r, spec_ParseInt_l0 s neg t x (t.size : Nat) = some r ∧ PR s r ∧
    (neg = true → s = fi x → r = (x, true)) ∧ (neg = false → x ≠ -9223372036854775808 → s = fi (-x) → r = (-x, true)) := by
  rw [spec_ParseInt_l0_eq, dec_lt_f, cond_false]
  have hc : ∀ n : Int, I64 n → ((fi n).toList == s.toList) = decide (s = fi n) := fun n hn => by
    by_cases c : s = fi n
    · subst c; simp
    · rw [decide_eq_false c]
      refine beq_eq_false_iff_ne.2 fun h => c ?_
      exact (bl_inj (by rw [ByteArray.toList_eq, ByteArray.toList_eq] at h; exact h)).symm
  cases neg with
  | true =>
    have hi : I64 x := ⟨hx.1, by omega⟩
    simp only [Bool.not_true, cond_false]
    rw [spec_FormatInt_p hi]
    simp only [Option.bind_some]
    rw [hc x hi]
    by_cases c : s = fi x
    · rw [decide_eq_true c]
      exact ⟨_, rfl, .inr ⟨x, hi, c, rfl⟩, fun _ _ => rfl, fun k => by cases k⟩
    · rw [decide_eq_false c]
      exact ⟨_, rfl, .inl rfl, fun _ k => absurd k c, fun k => by cases k⟩
  | false =>
    simp only [Bool.not_false, cond_true]
    by_cases c0 : x = -9223372036854775808
    · rw [beq_iff_eq.2 c0]
      exact ⟨_, rfl, .inl rfl, fun k => (by cases k), fun _ k => absurd c0 k⟩
    · have hi : I64 (-x) := ⟨by omega, by omega⟩
      have e : w64 (0 - x) = -x := by rw [w64_id (by omega) (by omega)]; omega
      rw [beq_eq_false_iff_ne.2 c0, cond_false, e, spec_FormatInt_p hi]
      simp only [Option.bind_some]
      rw [hc (-x) hi]
      by_cases c : s = fi (-x)
      · rw [decide_eq_true c]
        exact ⟨_, rfl, .inr ⟨-x, hi, c, rfl⟩, fun k => (by cases k), fun _ _ _ => rfl⟩
      · rw [decide_eq_false c]
        exact ⟨_, rfl, .inl rfl, fun k => (by cases k), fun _ _ k => absurd k c⟩
theorem piLoop {s t : ByteArray} {neg : Bool} (ht : ∀ c ∈ bl t, IsDig c) (hs : t.size ≤ 19) : ∀ (d k : Nat) (x : Int), k + d = t.size → (-9223372036854775808 ≤ x ∧ x ≤ 0) → ∃ r, spec_ParseInt_l0 s neg t x (k : Int) = some r ∧ PR s r ∧
    (x = -((dval ((bl t).take k) : Nat) : Int) → dval (bl t) ≤ 9223372036854775808 → (neg = true → s = fi (-(dval (bl t) : Int)) → r = (-(dval (bl t) : Int), true)) ∧ (neg = false → dval (bl t) ≠ 9223372036854775808 → s = fi (dval (bl t) : Int) → r = ((dval (bl t) : Int), true)))
  | 0, k, x, hk, hx => by
    have : k = t.size := by omega
    subst this
    obtain ⟨r, h1, h2, h3, h4⟩ := piEnd (s := s) (t := t) (neg := neg) hx
    refine ⟨r, h1, h2, fun e hb => ?_⟩
    rw [← size_bl, List.take_length] at e
    subst e
    exact ⟨h3, fun q1 q2 q3 => by
      have := h4 q1 (by omega) (by rw [Int.neg_neg]; exact q3)
      rw [Int.neg_neg] at this
      exact this⟩
  | d + 1, k, x, hk, hx => by
    obtain ⟨c, hc, hv, hh⟩ := piStep (s := s) (neg := neg) ht hs (show k < t.size by omega) hx
    have hm := dval_take (bl t) (k + 1)
    rcases hh with ⟨g1, g2⟩ | ⟨g1, g2⟩
    · exact ⟨_, g2, .inl rfl, fun e hb => by omega⟩
    · obtain ⟨r, h1, h2, h3⟩ := piLoop ht hs d (k + 1) (x * 10 - c) (by omega) ⟨g1, by omega⟩
      exact ⟨r, g2.trans h1, h2, fun e hb => h3 (by omega) hb⟩
theorem fi_pos {n : Int} (h : 0 ≤ n) : bl (fi n) = Lib.decDigits n.toNat := by rw [fi, bl_lb, Lib.itoa, if_neg (by omega)]
theorem fi_negb {n : Int} (h : n < 0) : bl (fi n) = 45 :: Lib.decDigits n.natAbs := by rw [fi, bl_lb, Lib.itoa, if_pos h]
theorem piDigits {s t : ByteArray} {neg : Bool} (h : t.size ≤ 9223372036854775807) : ∃ r, ((spec_IsDigits t).bind fun r1 => cond (!r1) (some (0, false)) (cond (decide ((t.size : Int) > 19)) (some (0, false)) (spec_ParseInt_l0 s neg t 0 0))) = some r ∧ PR s r ∧
    (∀ n, I64 n → s = fi n → (n < 0 → neg = true ∧ bl t = Lib.decDigits n.natAbs) → (0 ≤ n → neg = false ∧ bl t = Lib.decDigits n.toNat) → r = (n, true)) := by
  obtain ⟨b, h1, h2⟩ := isDigits_p h
  rw [h1]
  simp only [Option.bind_some]
  have dig : ∀ n, I64 n → (n < 0 → neg = true ∧ bl t = Lib.decDigits n.natAbs) → (0 ≤ n → neg = false ∧ bl t = Lib.decDigits n.toNat) → (∀ c ∈ bl t, IsDig c) ∧ 0 < t.size ∧ t.size ≤ 19 := fun n hn g1 g2 => by
    obtain ⟨i0, i1⟩ := hn
    have : ∃ u, bl t = Lib.decDigits u ∧ u < 10 ^ (18 + 1) := by
      by_cases c : n < 0
      · exact ⟨_, (g1 c).2, by omega⟩
      · exact ⟨_, (g2 (by omega)).2, by omega⟩
    obtain ⟨u, hu, hlt⟩ := this
    have l1 := dd_le 18 u hlt
    have l2 := List.length_pos_iff.2 (dd_ne u)
    rw [← size_bl, hu]
    exact ⟨dd_dig u, l2, l1⟩
  cases b with
  | false => exact ⟨_, rfl, .inl rfl, fun n hn hs g1 g2 => (by
      obtain ⟨d1, d2, _⟩ := dig n hn g1 g2
      have := h2.2 ⟨d1, d2⟩
      cases this)⟩
  | true =>
    obtain ⟨hd, _⟩ := h2.1 rfl
    simp only [Bool.not_true, cond_false]
    by_cases c : t.size ≤ 19
    · rw [decide_eq_false (by omega), cond_false]
      obtain ⟨r, k1, k2, k3⟩ := piLoop (s := s) (neg := neg) hd c t.size 0 0 (by omega) (by omega)
      refine ⟨r, k1, k2, fun n hn hs g1 g2 => ?_⟩
      obtain ⟨i0, i1⟩ := hn
      by_cases cn : n < 0
      · obtain ⟨q1, q2⟩ := g1 cn
        have hv : dval (bl t) = n.natAbs := by rw [q2, dd_val]
        have hn' : (-(dval (bl t) : Int)) = n := by omega
        have := (k3 (by simp [dval, dvalF]) (by omega)).1 q1 (by rw [hn']; exact hs)
        rw [hn'] at this
        exact this
      · obtain ⟨q1, q2⟩ := g2 (by omega)
        have hv : dval (bl t) = n.toNat := by rw [q2, dd_val]
        have hn' : ((dval (bl t) : Nat) : Int) = n := by omega
        have := (k3 (by simp [dval, dvalF]) (by omega)).2 q1 (by omega) (by rw [hn']; exact hs)
        rw [hn'] at this
        exact this
    · rw [decide_eq_true (by omega)]
      exact ⟨_, rfl, .inl rfl, fun n hn hs g1 g2 => absurd (dig n hn g1 g2).2.2 c⟩
theorem spec_ParseInt_p {s : ByteArray} (h : s.size ≤ 9223372036854775807) : spec_ParseInt s = some (pInt s) := by
  rw [spec_ParseInt_eq]
  have head : ∀ n, I64 n → s = fi n → 0 < s.size := fun n hn k => by
    subst k
    rw [← size_bl]
    by_cases c : n < 0
    · rw [fi_negb c]; simp
    · rw [fi_pos (by omega)]; exact List.length_pos_iff.2 (dd_ne _)
  by_cases c0 : 0 < s.size
  · rw [decide_eq_true (by omega), cond_true, show inside 0 s.size = true from inside_lt (k := 0) c0, cond_true]
    have hb : bAt s 0 = (((bl s).getD 0 0).toNat : Int) := rfl
    have hl : 0 < (bl s).length := by rw [size_bl]; exact c0
    by_cases c1 : bAt s 0 = 45
    · rw [beq_iff_eq.2 c1, cond_true, decide_eq_true (by omega), decide_eq_true (by omega), decide_eq_true (by omega)]
      simp only [Bool.and_self, cond_true, Int.toNat_natCast]
      have hz : (s.extract 1 s.size).size ≤ 9223372036854775807 := by
        rw [← size_bl, bl_extract, List.length_take, List.length_drop, size_bl]; omega
      obtain ⟨r, k1, k2, k3⟩ := piDigits (s := s) (t := s.extract 1 s.size) (neg := true) hz
      rw [k1]
      refine congrArg some (k2.eq fun n hn hs => k3 n hn hs (fun g => ⟨rfl, ?_⟩) fun g => ?_)
      · rw [bl_extract, hs, fi_negb g, List.drop_one, List.tail_cons]
        refine List.take_of_length_le ?_
        rw [← size_bl, fi_negb g]; simp
      · exfalso
        subst hs
        rw [hb, fi_pos g] at c1
        have := dd_dig n.toNat _ (getD_mem 0 (show 0 < (Lib.decDigits n.toNat).length from List.length_pos_iff.2 (dd_ne _)))
        unfold IsDig at this
        omega
    · rw [beq_eq_false_iff_ne.2 c1, cond_false]
      obtain ⟨r, k1, k2, k3⟩ := piDigits (s := s) (t := s) (neg := false) h
      rw [k1]
      refine congrArg some (k2.eq fun n hn hs => k3 n hn hs (fun g => ?_) fun g => ⟨rfl, by rw [hs, fi_pos g]⟩)
      exfalso
      subst hs
      rw [hb, fi_negb g] at c1
      exact c1 rfl
  · rw [decide_eq_false (by omega), cond_false]
    obtain ⟨r, k1, k2, k3⟩ := piDigits (s := s) (t := s) (neg := false) h
    rw [k1]
    exact congrArg some (k2.eq fun n hn hs => absurd (head n hn hs) c0)
theorem impl_ParseInt_p {s : ByteArray} (h : s.size ≤ 281474976710656) : impl_ParseInt s = some (pInt s) := by
  rw [impl_ParseInt_eq, Lb.pint, if_pos h]
end Go.Proofs.YtkedbhndiokegaaDoor.D

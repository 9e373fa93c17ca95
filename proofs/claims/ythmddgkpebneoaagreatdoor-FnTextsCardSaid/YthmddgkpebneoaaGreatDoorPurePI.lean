/-
  Texts: both programs read a number alike: only the one text of a number is taken.
-/
import Derived.Test.YthmddgkpebneoaaGreatDoorPureS
import Derived.Lib.AtoiAll
import Derived.Lib.Strings
import Derived.Laws.Strings
namespace Go.Proofs.YthmddgkpebneoaaGreatDoor.D
open Go Go.Den
set_option linter.unusedVariables false
set_option linter.unusedSimpArgs false
def IsDig (c : UInt8) : Prop := 48 ≤ c.toNat ∧ c.toNat ≤ 57
/-- what digits spell, behind a number -/
def dvalF (a : Nat) (l : List UInt8) : Nat := l.foldl (fun a c => a * 10 + (c.toNat - 48)) a
def dval (l : List UInt8) : Nat := dvalF 0 l
theorem dvalF_ge : ∀ (l : List UInt8) (a : Nat), a ≤ dvalF a l
  | [], a => Nat.le_refl _
  | c :: l, a => Nat.le_trans (by omega) (dvalF_ge l (a * 10 + (c.toNat - 48)))
theorem dval_snoc (l : List UInt8) (c : UInt8) : dval (l ++ [c]) = dval l * 10 + (c.toNat - 48) := by
  unfold dval dvalF
  rw [List.foldl_append]; rfl
theorem dval_take (l : List UInt8) (k : Nat) : dval (l.take k) ≤ dval l := by
  have : dval l = dvalF (dval (l.take k)) (l.drop k) := by
    unfold dval dvalF
    rw [← List.foldl_append, List.take_append_drop]
  rw [this]; exact dvalF_ge _ _
theorem dig_toNat {k : Nat} (h : k < 10) : (UInt8.ofNat (48 + k)).toNat = 48 + k := by
  rw [UInt8.toNat_ofNat']
  omega
theorem dd_dig (u : Nat) : ∀ c ∈ Lib.decDigits u, IsDig c := by
  induction u using Nat.strongRecOn with
  | _ u ih =>
    rw [Lib.decDigits]
    split
    · rename_i c
      intro x hx
      rw [List.mem_singleton] at hx
      subst hx
      unfold IsDig
      rw [dig_toNat c]; omega
    · rename_i c
      intro x hx
      rcases List.mem_append.1 hx with hx | hx
      · exact ih _ (by omega) x hx
      · rw [List.mem_singleton] at hx
        subst hx
        unfold IsDig
        rw [dig_toNat (by omega)]; omega
theorem dd_val (u : Nat) : dval (Lib.decDigits u) = u := by
  induction u using Nat.strongRecOn with
  | _ u ih =>
    rw [Lib.decDigits]
    split
    · rename_i c
      have : dval [UInt8.ofNat (48 + u)] = 0 * 10 + ((UInt8.ofNat (48 + u)).toNat - 48) := rfl
      rw [this, dig_toNat c]; omega
    · rename_i c
      rw [dval_snoc, ih _ (by omega), dig_toNat (by omega)]; omega
theorem dd_ne (u : Nat) : Lib.decDigits u ≠ [] := by
  intro h
  have := congrArg List.length h
  rw [Lib.decDigits] at this
  split at this <;> simp at this
theorem parseUint10_dig : ∀ (l : List UInt8) (a : Nat), (∀ c ∈ l, IsDig c) → dvalF a l ≤ 9223372036854775808 → Lib.parseUint10 a l = .ok (dvalF a l)
  | [], a, _, _ => rfl
  | c :: l, a, hd, h => by
    have h1 := hd c List.mem_cons_self
    have h2 : dvalF a (c :: l) = dvalF (a * 10 + (c.toNat - 48)) l := rfl
    rw [h2] at h ⊢
    have h3 := dvalF_ge l (a * 10 + (c.toNat - 48))
    unfold IsDig at h1
    rw [Lib.parseUint10, if_pos h1, if_neg (by omega), if_neg (by omega)]
    exact parseUint10_dig l _ (fun x hx => hd x (List.mem_cons_of_mem _ hx)) h
theorem parseMag_dd {u : Nat} (h : u ≤ 9223372036854775808) : Lib.parseMag (Lib.decDigits u) = .ok u := by
  rw [Lib.parseMag, if_neg (dd_ne u)]
  have := parseUint10_dig (Lib.decDigits u) 0 (dd_dig u) (by
    have := dd_val u
    unfold dval at this
    omega)
  rw [this]
  exact congrArg _ (dd_val u)
theorem atoi_itoa {n : Int} (h : I64 n) : Lib.atoiAll (Lib.itoa n) = .ok n := by
  obtain ⟨h0, h1⟩ := h
  unfold Lib.itoa
  by_cases c : n < 0
  · rw [if_pos c, Lib.atoiAll]
    have e : (45 : UInt8).toNat = 45 := rfl
    simp only [e, or_true, if_true, parseMag_dd (show n.natAbs ≤ 9223372036854775808 by omega), not_true, false_and, if_false]
    rw [if_neg (by omega)]
    congr 1; omega
  · rw [if_neg c]
    have hd := dd_dig n.toNat
    have hp := parseMag_dd (show n.toNat ≤ 9223372036854775808 by omega)
    cases hl : Lib.decDigits n.toNat with
    | nil => exact absurd hl (dd_ne _)
    | cons a l =>
      rw [hl] at hd hp
      have ha := hd a List.mem_cons_self
      unfold IsDig at ha
      rw [Lib.atoiAll]
      have e1 : ¬ a.toNat = 43 := by omega
      have e2 : ¬ a.toNat = 45 := by omega
      simp only [e1, e2, or_self, hp, not_false_eq_true, true_and, false_and, if_false]
      rw [if_neg (show ¬ 9223372036854775808 ≤ n.toNat by omega)]
      exact congrArg _ (by omega)
theorem pInt_fi {n : Int} (h : I64 n) : pInt (fi n) = (n, true) := by
  unfold pInt fi
  rw [bl_lb, atoi_itoa h]
  simp only [if_true]
theorem fi_inj {n m : Int} (hn : I64 n) (hm : I64 m) (h : fi n = fi m) : n = m := by
  have := pInt_fi hn
  rw [h, pInt_fi hm] at this
  exact (congrArg Prod.fst this).symm
theorem pInt_no {s : ByteArray} (h : ∀ n, I64 n → s ≠ fi n) : pInt s = (0, false) := by
  unfold pInt
  cases he : Lib.atoiAll (bl s) with
  | ok v =>
    by_cases c : bl s = Lib.itoa v
    · exfalso
      by_cases hv : I64 v
      · exact h v hv (bl_inj (by rw [c, fi, bl_lb]))
      · have : I64 v := by
          unfold Lib.atoiAll at he
          split at he
          · cases he
          · simp only at he
            split at he
            · cases he
            · cases he
            · split at he
              · cases he
              · split at he
                · cases he
                · injection he with he
                  rename_i g1 g2
                  subst he
                  split
                  · rename_i g3
                    exact ⟨by have := not_and.1 g2 g3; omega, by omega⟩
                  · rename_i g3
                    exact ⟨by omega, by have := not_and.1 g1 g3; omega⟩
        exact hv this
    · simp only [if_neg c]
  | range => rfl
  | _ => rfl
/-- a number read: the text is that of the number, or nothing is read -/
def PR (s : ByteArray) (r : Int × Bool) : Prop := r = (0, false) ∨ ∃ n, I64 n ∧ s = fi n ∧ r = (n, true)
theorem PR.eq {s : ByteArray} {r : Int × Bool} (h : PR s r) (hs : ∀ n, I64 n → s = fi n → r = (n, true)) : r = pInt s := by
  by_cases c : ∃ n, I64 n ∧ s = fi n
  · obtain ⟨n, hn, rfl⟩ := c
    rw [hs n hn rfl, pInt_fi hn]
  · rw [pInt_no fun n hn k => c ⟨n, hn, k⟩]
    rcases h with h | ⟨n, hn, h1, _⟩
    · exact h
    · exact absurd ⟨n, hn, h1⟩ c
theorem bAt_bl (s : ByteArray) (i : Nat) : bAt s i = (((bl s).getD i 0).toNat : Int) := by
  have h : (((bl s).getD i 0).toNat : Int) = bAt s i := by unfold bAt bl; omega
  omega
theorem toNat_n (k : Nat) : ((k : Int)).toNat = k := by omega
theorem bl_extract (s : ByteArray) (a b : Nat) : bl (s.extract a b) = ((bl s).drop a).take (b - a) := by
  have := Lib.extract_toList s a b
  rw [ByteArray.toList_eq] at this
  exact this
theorem fi_pos {n : Int} (h : 0 ≤ n) : bl (fi n) = Lib.decDigits n.toNat := by rw [fi, bl_lb, Lib.itoa, if_neg (by omega)]
theorem fi_negb {n : Int} (h : n < 0) : bl (fi n) = 45 :: Lib.decDigits n.natAbs := by rw [fi, bl_lb, Lib.itoa, if_pos h]
theorem impl_ParseInt_p {s : ByteArray} (h : s.size ≤ 281474976710656) : impl_ParseInt s = some (pInt s) := by
  rw [impl_ParseInt_eq, Lb.pint, if_pos h]
end Go.Proofs.YthmddgkpebneoaaGreatDoor.D

/-
  Texts: both programs read a morphism alike.
-/
import Derived.Test.YthmddgkpebneoaaGreatDoorPurePD
namespace Go.Proofs.YthmddgkpebneoaaGreatDoor.D
open Go Go.Den
set_option linter.unusedVariables false
set_option linter.unusedSimpArgs false
theorem jn_bytes {ws : List ByteArray} {sep : ByteArray} {b : UInt8} (h : b ∈ bl (jn ws sep)) : (∃ w ∈ ws, b ∈ bl w) ∨ b ∈ bl sep := by
  unfold jn at h
  rw [bl_lb] at h
  cases ws with
  | nil => simp [Lib.join_nil] at h
  | cons x r =>
    rw [List.map_cons, Lib.join_cons] at h
    rcases List.mem_append.1 h with h | h
    · exact .inl ⟨x, List.mem_cons_self, h⟩
    · unfold Lib.joinTail at h
      obtain ⟨l, hl, hb⟩ := List.mem_flatten.1 h
      obtain ⟨y, hy, rfl⟩ := List.mem_map.1 hl
      obtain ⟨z, hz, rfl⟩ := List.mem_map.1 hy
      rcases List.mem_append.1 hb with hb | hb
      · exact .inr hb
      · exact .inl ⟨z, List.mem_cons_of_mem _ hz, hb⟩
theorem fd_no {d : List Int} : ∀ b ∈ bl (fd d), b ≠ 124 := by
  intro b hb
  unfold fd at hb
  split at hb
  · have : b ∈ ([110, 111, 110, 101] : List UInt8) := hb
    intro k
    subst k
    revert this
    decide
  · rcases jn_bytes hb with ⟨w, hw, hb⟩ | hb
    · obtain ⟨x, _, rfl⟩ := List.mem_map.1 hw
      exact fi_no (by decide) b hb
    · have : b ∈ ([32] : List UInt8) := hb
      intro k
      subst k
      revert this
      decide
theorem index_bar : ∀ (l m : List UInt8), (∀ b ∈ l, b ≠ 124) → Lib.index (l ++ 32 :: 124 :: 32 :: m) [32, 124, 32] = (l.length : Int)
  | [], m, _ => by
    rw [List.nil_append, Lib.index, if_pos (by simp [List.isPrefixOf])]; rfl
  | b :: l, m, h => by
    have ih := index_bar l m fun x hx => h x (List.mem_cons_of_mem _ hx)
    rw [List.cons_append, Lib.index, if_neg, ih]
    · have : ((l.length : Int) == -1) = false := beq_eq_false_iff_ne.2 (by omega)
      rw [this]
      simp
    · cases l with
      | nil => simp [List.isPrefixOf]
      | cons c l =>
        have hc : c ≠ 124 := h c (by simp)
        have : ((124 : UInt8) == c) = false := beq_eq_false_iff_ne.2 fun k => hc k.symm
        simp [List.isPrefixOf, this]
theorem cut_bar {l m : List UInt8} (h : ∀ b ∈ l, b ≠ 124) : Lib.cut (l ++ 32 :: 124 :: 32 :: m) [32, 124, 32] = (l, m, true) := by
  unfold Lib.cut
  rw [index_bar l m h, if_pos (by omega)]
  simp only [toNat_n]
  rw [List.take_left, List.drop_append]
  simp
theorem cut_len (l p : List UInt8) : (Lib.cut l p).1.length ≤ l.length ∧ (Lib.cut l p).2.1.length ≤ l.length := by
  unfold Lib.cut
  split
  · simp only [List.length_take, List.length_drop]; omega
  · simp
/-- a morphism's text -/
def fm (m : Mo) : ByteArray := fd m.1 ++ ⟨#[32, 124, 32]⟩ ++ fd m.2
def IM (m : Mo) : Prop := (∀ x ∈ m.1, I64 x) ∧ ∀ x ∈ m.2, I64 x
theorem formatMorphism_i {m : Mo} (h1 : m.1.length ≤ 2097152) (h2 : m.2.length ≤ 2097152) (h : IM m) : impl_FormatMorphism m = some (fm m) := by
  have e3 : (⟨#[32, 124, 32]⟩ : ByteArray).size = 3 := rfl
  have s1 := fd_size h1 h.1
  have s2 := fd_size h2 h.2
  rw [impl_FormatMorphism_eq, impl_FormatDivisor_p h1 h.1, impl_FormatDivisor_p h2 h.2]
  simp only [Option.bind_some]
  rw [decide_eq_true (by omega), size_app, decide_eq_true (by omega)]; rfl
def PMR (s : ByteArray) (r : Mo × Bool) : Prop := (r = (([], []), false) ∨ ∃ m, IM m ∧ s = fm m ∧ r = (m, true)) ∧ ∀ m, IM m → s = fm m → r = (m, true)
theorem PMR.eq {s : ByteArray} {r q : Mo × Bool} (hr : PMR s r) (hq : PMR s q) : r = q := by
  rcases hr.1 with h | ⟨m, h1, h2, h3⟩
  · rcases hq.1 with k | ⟨m, k1, k2, k3⟩
    · rw [h, k]
    · rw [hr.2 m k1 k2, k3]
  · rw [h3, hq.2 m h1 h2]
theorem bl_fm (m : Mo) : bl (fm m) = bl (fd m.1) ++ 32 :: 124 :: 32 :: bl (fd m.2) := by
  unfold fm
  rw [bl_app, bl_app]
  have : bl (⟨#[32, 124, 32]⟩ : ByteArray) = [32, 124, 32] := rfl
  rw [this, List.append_assoc]; rfl
/-- what is left to see: the two divisors read, their text is the whole -/
theorem pm_of {s a b : ByteArray} (ha : ∀ m, IM m → s = fm m → a = fd m.1 ∧ b = fd m.2) : 
    PMR s (cond (!(pd a).2) (([], []), false) (cond (!(pd b).2) (([], []), false) (cond (!decide (fm ((pd a).1, (pd b).1) = s)) (([], []), false) (((pd a).1, (pd b).1), true)))) := by
  constructor
  · cases h1 : (pd a).2 with
    | false => exact .inl rfl
    | true =>
      cases h2 : (pd b).2 with
      | false => exact .inl rfl
      | true =>
        simp only [Bool.not_true, cond_false]
        by_cases c : fm ((pd a).1, (pd b).1) = s
        · rw [decide_eq_true c]
          exact .inr ⟨_, ⟨(pd_true h1).2.1, (pd_true h2).2.1⟩, c.symm, rfl⟩
        · rw [decide_eq_false c]; exact .inl rfl
  · intro m hm hs
    obtain ⟨e1, e2⟩ := ha m hm hs
    subst e1 e2
    rw [pd_fd hm.1, pd_fd hm.2]
    simp only [Bool.not_true, cond_false]
    rw [decide_eq_true (show fm (m.1, m.2) = s from hs.symm)]
    rfl
theorem impl_pm {s : ByteArray} (hs : s.size ≤ 1048576) : ∃ r, impl_ParseMorphism s = some r ∧ PMR s r := by
  have hl := cut_len (bl s) [32, 124, 32]
  rw [size_bl] at hl
  have hb : bl (⟨#[32, 124, 32]⟩ : ByteArray) = [32, 124, 32] := rfl
  refine ⟨_, ?_, pm_of (a := lb (Lib.cut (bl s) [32, 124, 32]).1) (b := lb (Lib.cut (bl s) [32, 124, 32]).2.1) fun m hm h => ?_⟩
  · rw [impl_ParseMorphism_eq, strings_Cut_eq, Lb.cut, if_pos (by omega), hb, Option.bind_some]
    generalize hA : lb (Lib.cut (bl s) [32, 124, 32]).1 = A
    generalize hB : lb (Lib.cut (bl s) [32, 124, 32]).2.1 = B
    have zA : A.size ≤ 1048576 := by rw [← hA, size_lb]; omega
    have zB : B.size ≤ 1048576 := by rw [← hB, size_lb]; omega
    simp only
    rw [impl_ParseDivisor_p zA, Option.bind_some, impl_ParseDivisor_p zB, Option.bind_some, impl_ParseMorphism_c6_eq]
    cases h1 : (pd A).2 with
    | false => rfl
    | true =>
      cases h2 : (pd B).2 with
      | false => rfl
      | true =>
        have t1 := pd_true h1
        have t2 := pd_true h2
        simp only [Bool.not_true, cond_false]
        rw [formatMorphism_i (m := ((pd A).1, (pd B).1)) (by simp only; omega) (by simp only; omega) ⟨t1.2.1, t2.2.1⟩, Option.bind_some, toList_eq, impl_ParseMorphism_c7_eq]
        cases decide (fm ((pd A).1, (pd B).1) = s) <;> rfl
  · rw [h, bl_fm, cut_bar fd_no, lb_bl, lb_bl]
    exact ⟨rfl, rfl⟩
end Go.Proofs.YthmddgkpebneoaaGreatDoor.D

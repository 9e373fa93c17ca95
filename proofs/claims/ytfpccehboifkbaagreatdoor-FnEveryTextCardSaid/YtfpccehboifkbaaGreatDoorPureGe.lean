/-
  What the law file draws from a code: numbers, a valid graph, a valid divisor.
-/
import Derived.Test.YtfpccehboifkbaaGreatDoorPureY
namespace Go.Proofs.YtfpccehboifkbaaGreatDoor.D
open Go Go.Den
set_option linter.unusedVariables false
set_option linter.unusedSimpArgs false
abbrev Cur : Type := List Int × Int × Int
def CurOk (c : Cur) : Prop := 0 ≤ c.2.1 ∧ c.2.1 ≤ (c.1.length : Int) ∧ c.1.length ≤ 1048576
theorem and255 (x : Int) : 0 ≤ bits .and .i64 x 255 ∧ bits .and .i64 x 255 ≤ 255 := by
  have e : bits .and .i64 x 255 = (((BitVec.ofInt 64 x &&& BitVec.ofInt 64 255).toNat : Nat) : Int) := by
    have h : (BitVec.ofInt 64 x &&& BitVec.ofInt 64 255).toNat ≤ 255 := by
      rw [BitVec.toNat_and]
      have : (BitVec.ofInt 64 255).toNat = 255 := by decide
      rw [this]
      exact Nat.and_le_right
    show ((bitsD .and .i64 x 255).getD 0) = _
    simp only [bitsD, Option.getD_some]
    show IntKind.i64.wrap ((((BitVec.ofInt 64 x) &&& (BitVec.ofInt 64 255)).toNat : Nat) : Int) = _
    exact w64_id (by omega) (by omega)
  have h : (BitVec.ofInt 64 x &&& BitVec.ofInt 64 255).toNat ≤ 255 := by
    rw [BitVec.toNat_and]
    have : (BitVec.ofInt 64 255).toNat = 255 := by decide
    rw [this]
    exact Nat.and_le_right
  rw [e]; omega
theorem Lt.trans {a b c : Int × Int} (h1 : Lt a b) (h2 : Lt b c) : Lt a c := by
  unfold Lt at *; omega
theorem Lt.irrefl {a : Int × Int} : ¬ Lt a a := by unfold Lt; omega
theorem Lt.not {a b c : Int × Int} (h1 : ¬ Lt b a) (h2 : ¬ Lt c b) : ¬ Lt c a := by
  unfold Lt at *; omega
theorem srt_pair {l : List (Int × Int)} (h : Srt l) : l.Pairwise fun a b => ¬ Lt b a := by
  rw [List.pairwise_iff_getElem]
  intro i j hi hj hij
  have key : ∀ d i, (hi : i < l.length) → (hj : i + d + 1 < l.length) → ¬ Lt l[i + d + 1] l[i] := fun d => by
    induction d with
    | zero =>
      intro i hi hj
      have := h i hj
      rw [getD_lt hj, getD_lt hi] at this
      exact this
    | succ d ih =>
      intro i hi hj
      have h1 := ih i hi (by omega)
      have h2 := h (i + d + 1) (by omega)
      rw [getD_lt (show i + d + 1 + 1 < l.length by omega), getD_lt (show i + d + 1 < l.length by omega)] at h2
      exact Lt.not h1 h2
  have := key (j - i - 1) i hi (by omega)
  have e : i + (j - i - 1) + 1 = j := by omega
  simp only [e] at this
  exact this
theorem pair_srt {l : List (Int × Int)} (h : l.Pairwise fun a b => ¬ Lt b a) : Srt l := fun j hj => by
  rw [List.pairwise_iff_getElem] at h
  rw [getD_lt hj, getD_lt (show j < l.length by omega)]
  exact h j (j + 1) (by omega) hj (by omega)
theorem Conn.mono {es fs : List (Int × Int)} (h : ∀ e ∈ es, e ∈ fs) {v : Int} (c : Conn es v) : Conn fs v := by
  have step : ∀ j, j < es.length → ∃ i, i < fs.length ∧ fs.getD i (0, 0) = es.getD j (0, 0) := fun j hj => by
    obtain ⟨i, hi, e⟩ := List.getElem_of_mem (h _ (getD_mem (0, 0) hj))
    exact ⟨i, hi, by rw [getD_lt hi]; exact e⟩
  induction c with
  | zero => exact .zero
  | fwd hj _ ih =>
    obtain ⟨i, hi, e⟩ := step _ hj
    rw [← e] at ih ⊢
    exact .fwd hi ih
  | bwd hj _ ih =>
    obtain ⟨i, hi, e⟩ := step _ hj
    rw [← e] at ih ⊢
    exact .bwd hi ih
end Go.Proofs.YtfpccehboifkbaaGreatDoor.D

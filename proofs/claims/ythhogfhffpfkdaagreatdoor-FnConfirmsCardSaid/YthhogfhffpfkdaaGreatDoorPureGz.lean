/-
  What the law file draws from a code: numbers; an edge more.
-/
import Derived.Test.YthhogfhffpfkdaaGreatDoorPureL
import Derived.Test.YthhogfhffpfkdaaGreatDoorPureS
namespace Go.Proofs.YthhogfhffpfkdaaGreatDoor.D
open Go Go.Den
set_option linter.unusedVariables false
set_option linter.unusedSimpArgs false
theorem getD_appL {α : Type} {d : α} {l t : List α} {i : Nat} (h : i < l.length) : (l ++ t).getD i d = l.getD i d := by
  rw [List.getD_eq_getElem?_getD, List.getD_eq_getElem?_getD, List.getElem?_append_left h]
theorem imin_n (a b : Nat) : imin (a : Int) (b : Int) = ((min a b : Nat) : Int) := by
  unfold imin
  split <;> omega
theorem imax_n (a b : Nat) : imax (a : Int) (b : Int) = ((max a b : Nat) : Int) := by
  unfold imax
  split <;> omega
abbrev Cur : Type := List Int × Int × Int
def CurOk (c : Cur) : Prop := 0 ≤ c.2.1 ∧ c.2.1 ≤ (c.1.length : Int) ∧ c.1.length ≤ 1048576
theorem and255 (x : Int) : 0 ≤ bits .and .i64 x 255 ∧ bits .and .i64 x 255 ≤ 255 := by
  have e : bits .and .i64 x 255 = (((BitVec.ofInt 64 x &&& BitVec.ofInt 64 255).toNat : Nat) : Int) := by
    have h : (BitVec.ofInt 64 x &&& BitVec.ofInt 64 255).toNat ≤ 255 := by
      rw [BitVec.toNat_and]
      have : (BitVec.ofInt 64 255).toNat = 255 := by decide
      rw [this]
      exact Nat.and_le_right
    show ((bitsD .and .i64 x 255).getD 0) = _
    simp only [bitsD, Option.getD_some]
    show IntKind.i64.wrap ((((BitVec.ofInt 64 x) &&& (BitVec.ofInt 64 255)).toNat : Nat) : Int) = _
    exact w64_id (by omega) (by omega)
  have h : (BitVec.ofInt 64 x &&& BitVec.ofInt 64 255).toNat ≤ 255 := by
    rw [BitVec.toNat_and]
    have : (BitVec.ofInt 64 255).toNat = 255 := by decide
    rw [this]
    exact Nat.and_le_right
  rw [e]; omega
theorem byte_p {c : Cur} (hc : CurOk c) : ∃ x c', spec_l01Byte c = some (x, c') ∧ (0 ≤ x ∧ x ≤ 255) ∧ CurOk c' := by
  obtain ⟨h1, h2, h3⟩ := hc
  rw [spec_l01Byte_eq]
  by_cases k : c.2.1 < (c.1.length : Int)
  · rw [decide_eq_true k, cond_true, inside_int h1 k, cond_true, spec_l01Byte_c5_eq]
    refine ⟨_, _, rfl, and255 _, ?_⟩
    simp only
    rw [w64_id (by omega) (by omega)]
    exact ⟨by show 0 ≤ c.2.1 + 1; omega, by show c.2.1 + 1 ≤ (c.1.length : Int); omega, h3⟩
  · rw [decide_eq_false k, cond_false]
    exact ⟨_, _, rfl, and255 _, h1, h2, h3⟩
theorem below_p {c : Cur} (hc : CurOk c) {n : Int} (h1 : 1 ≤ n) (h2 : n ≤ 256) : ∃ x c', spec_l01Below c n = some (x, c') ∧ (0 ≤ x ∧ x < n) ∧ CurOk c' := by
  obtain ⟨x, c', k1, k2, k3⟩ := byte_p hc
  rw [spec_l01Below_eq, decide_eq_false (by omega), decide_eq_true h2, k1]
  simp only [cond_false, cond_true, Option.bind_some]
  rw [decide_eq_false (by omega)]
  exact ⟨_, _, rfl, ⟨Int.tmod_nonneg _ k2.1, Int.tmod_lt_of_pos _ (by omega)⟩, k3⟩
theorem new_p {l : List Int} (h : l.length ≤ 1048576) : ∃ c, spec_l01New l = some c ∧ CurOk c := by
  rw [spec_l01New_eq]
  have key : ∀ (m k : Nat) (x : Int), k + m = l.length → ∃ c, spec_l01New_l0 l x (k : Int) = some c ∧ CurOk c := by
    intro m
    induction m with
    | zero =>
      intro k x hk
      have : k = l.length := by omega
      subst this
      rw [spec_l01New_l0_eq, dec_lt_f]
      exact ⟨_, rfl, by show (0 : Int) ≤ 0; omega, by show (0 : Int) ≤ _; omega, h⟩
    | succ m ih =>
      intro k x hk
      have hk' : k < l.length := by omega
      rw [spec_l01New_l0_eq, dec_lt_t hk', cond_true, inside_lt hk', w64_succ hk' (by omega)]
      cases decide ((k : Int) < 4000) with
      | false => exact ⟨_, rfl, by show (0 : Int) ≤ 0; omega, by show (0 : Int) ≤ _; omega, h⟩
      | true => exact ih (k + 1) _ (by omega)
  exact key l.length 0 _ (by omega)
theorem skip_p {l : List Int} (h : l.length ≤ 1048576) {n : Nat} (hn : n ≤ 1000) : ∃ c, spec_l21New l (n : Int) = some c ∧ CurOk c := by
  obtain ⟨c, c1, c2⟩ := new_p h
  rw [spec_l21New_eq, c1, Option.bind_some]
  have key : ∀ (m k : Nat) (c : Cur), k + m = n → CurOk c → ∃ c', spec_l21New_l0 (n : Int) (k : Int) c = some c' ∧ CurOk c' := by
    intro m
    induction m with
    | zero =>
      intro k c hk hc
      have : k = n := by omega
      subst this
      rw [spec_l21New_l0_eq, dec_lt_f]
      exact ⟨c, rfl, hc⟩
    | succ m ih =>
      intro k c hk hc
      have hk' : k < n := by omega
      obtain ⟨x, c', k1, _, k3⟩ := byte_p hc
      rw [spec_l21New_l0_eq, dec_lt_t hk', cond_true, k1, Option.bind_some, w64_succ hk' (by omega)]
      exact ih (k + 1) c' (by omega) k3
  exact key n 0 c (by omega) c2
theorem num_p {l : List Int} (h : l.length ≤ 1048576) {n : Nat} (hn : n ≤ 1000) : ∃ x, spec_MakeNum l (n : Int) = some x ∧ 0 ≤ x ∧ x ≤ 65535 := by
  obtain ⟨c, c1, c2⟩ := skip_p h hn
  obtain ⟨x, c', k1, k2, k3⟩ := byte_p c2
  obtain ⟨y, c'', j1, j2, j3⟩ := byte_p k3
  rw [spec_MakeNum_eq, c1, Option.bind_some, k1, Option.bind_some, j1, Option.bind_some, w64_id (n := x * 256) (by omega) (by omega), w64_id (by omega) (by omega)]
  exact ⟨_, rfl, by omega, by omega⟩
/-! ### edges in order -/
theorem Lt.trans {a b c : Int × Int} (h1 : Lt a b) (h2 : Lt b c) : Lt a c := by
  unfold Lt at *; omega
theorem Lt.irrefl {a : Int × Int} : ¬ Lt a a := by unfold Lt; omega
theorem Lt.not {a b c : Int × Int} (h1 : ¬ Lt b a) (h2 : ¬ Lt c b) : ¬ Lt c a := by
  unfold Lt at *; omega
theorem srt_pair {l : List (Int × Int)} (h : Srt l) : l.Pairwise fun a b => ¬ Lt b a := by
  rw [List.pairwise_iff_getElem]
  intro i j hi hj hij
  have key : ∀ d i, (hi : i < l.length) → (hj : i + d + 1 < l.length) → ¬ Lt l[i + d + 1] l[i] := fun d => by
    induction d with
    | zero =>
      intro i hi hj
      have := h i hj
      rw [getD_lt hj, getD_lt hi] at this
      exact this
    | succ d ih =>
      intro i hi hj
      have h1 := ih i hi (by omega)
      have h2 := h (i + d + 1) (by omega)
      rw [getD_lt (show i + d + 1 + 1 < l.length by omega), getD_lt (show i + d + 1 < l.length by omega)] at h2
      exact Lt.not h1 h2
  have := key (j - i - 1) i hi (by omega)
  have e : i + (j - i - 1) + 1 = j := by omega
  simp only [e] at this
  exact this
theorem pair_srt {l : List (Int × Int)} (h : l.Pairwise fun a b => ¬ Lt b a) : Srt l := fun j hj => by
  rw [List.pairwise_iff_getElem] at h
  rw [getD_lt hj, getD_lt (show j < l.length by omega)]
  exact h j (j + 1) (by omega) hj (by omega)
theorem Conn.mono {es fs : List (Int × Int)} (h : ∀ e ∈ es, e ∈ fs) {v : Int} (c : Conn es v) : Conn fs v := by
  have step : ∀ j, j < es.length → ∃ i, i < fs.length ∧ fs.getD i (0, 0) = es.getD j (0, 0) := fun j hj => by
    obtain ⟨i, hi, e⟩ := List.getElem_of_mem (h _ (getD_mem (0, 0) hj))
    exact ⟨i, hi, by rw [getD_lt hi]; exact e⟩
  induction c with
  | zero => exact .zero
  | fwd hj _ ih =>
    obtain ⟨i, hi, e⟩ := step _ hj
    rw [← e] at ih ⊢
    exact .fwd hi ih
  | bwd hj _ ih =>
    obtain ⟨i, hi, e⟩ := step _ hj
    rw [← e] at ih ⊢
    exact .bwd hi ih
end Go.Proofs.YthhogfhffpfkdaaGreatDoor.D

/-
  Texts: both programs write a number, join texts, and write a divisor alike.
-/
import Derived.Test.YthhogfhffpfkdaaGreatDoorPureT
import Derived.Lib.ItoaNum
import Derived.Lib.Join
import Derived.Laws.Strings
namespace Go.Proofs.YthhogfhffpfkdaaGreatDoor.D
open Go Go.Den
set_option linter.unusedVariables false
set_option linter.unusedSimpArgs false
theorem bl_lb (l : List UInt8) : bl (lb l) = l := by simp [bl, lb]
theorem lb_bl (s : ByteArray) : lb (bl s) = s := by cases s; simp [lb, bl]
theorem lb_app (a b : List UInt8) : lb a ++ lb b = lb (a ++ b) := by
  apply ByteArray.ext
  simp [lb, ByteArray.data_append]
theorem size_lb (l : List UInt8) : (lb l).size = l.length := by simp [lb, ByteArray.size]
theorem size_bl (s : ByteArray) : (bl s).length = s.size := Array.length_toList
theorem bl_inj {s t : ByteArray} (h : bl s = bl t) : s = t := by rw [← lb_bl s, ← lb_bl t, h]
theorem bl_app (s t : ByteArray) : bl (s ++ t) = bl s ++ bl t := by simp [bl, ByteArray.data_append]
theorem size_app (s t : ByteArray) : (s ++ t).size = s.size + t.size := by rw [← size_bl, bl_app, List.length_append, size_bl, size_bl]
theorem app_assoc (s t u : ByteArray) : s ++ t ++ u = s ++ (t ++ u) := bl_inj (by simp [bl_app])
theorem toList_eq {s t : ByteArray} : (s.toList == t.toList) = decide (s = t) := by
  by_cases c : s = t
  · subst c; simp
  · rw [decide_eq_false c]
    refine beq_eq_false_iff_ne.2 fun h => c ?_
    exact bl_inj (by rw [ByteArray.toList_eq, ByteArray.toList_eq] at h; exact h)
theorem u8_id {n : Int} (h0 : 0 ≤ n) (h1 : n ≤ 255) : IntKind.wrap .u8 n = n := by
  simp [IntKind.wrap, IntKind.bits, IntKind.signed]
  omega
theorem toStr_one {n : Nat} (h : n ≤ 255) : toStr [(n : Int)] = lb [UInt8.ofNat n] := by simp [toStr, lb]
theorem digit {n : Int} {k : Nat} (hn : n = 48 + (k : Int)) (hk : k < 10) : toStr [IntKind.wrap .u8 (w64 n)] = lb [UInt8.ofNat (48 + k)] := by
  subst hn
  rw [w64_id (by omega) (by omega), u8_id (by omega) (by omega)]
  have : (48 + (k : Int)) = ((48 + k : Nat) : Int) := by omega
  rw [this, toStr_one (by omega)]
theorem dd_le : ∀ (k u : Nat), u < 10 ^ (k + 1) → (Lib.decDigits u).length ≤ k + 1
  | k, u, h => by
    rw [Lib.decDigits]
    split
    · simp
    · rename_i hu
      match k with
      | 0 => omega
      | k + 1 =>
        have := dd_le k (u / 10) (by rw [Nat.pow_succ] at h; omega)
        simp only [List.length_append, List.length_cons, List.length_nil]
        omega
def fi (n : Int) : ByteArray := lb (Lib.itoa n)
def I64 (n : Int) : Prop := -9223372036854775808 ≤ n ∧ n ≤ 9223372036854775807
theorem fi_size {n : Int} (h : I64 n) : (fi n).size ≤ 20 := by
  rw [fi, size_lb, Lib.itoa]
  obtain ⟨h0, h1⟩ := h
  have h2 : n.natAbs < 10 ^ (18 + 1) := by omega
  split
  · have := dd_le 18 n.natAbs h2
    simp only [List.length_cons]
    omega
  · have := dd_le 18 n.toNat (by omega)
    omega
theorem impl_FormatInt_p {n : Int} (h : I64 n) : impl_FormatInt n = some (fi n) := by
  rw [impl_FormatInt_eq, strconv_Itoa_eq, Lb.itoa, if_pos (show -9223372036854775808 ≤ n ∧ n ≤ 9223372036854775807 from h)]; rfl
/-- texts joined -/
def jn (l : List ByteArray) (sep : ByteArray) : ByteArray := lb (Lib.join (l.map bl) (bl sep))
theorem join_snoc (xs : List (List UInt8)) (y sep : List UInt8) : Lib.join (xs ++ [y]) sep = if xs = [] then y else Lib.join xs sep ++ sep ++ y := by
  cases xs with
  | nil => simp [Lib.join_one]
  | cons x r =>
    rw [List.cons_append, Lib.join_cons, Lib.join_cons, if_neg (by simp)]
    simp [Lib.joinTail]
theorem jn_snoc {l : List ByteArray} {y sep : ByteArray} (h : l ≠ []) : jn (l ++ [y]) sep = jn l sep ++ sep ++ y := by
  unfold jn
  rw [List.map_append, List.map_cons, List.map_nil, join_snoc, if_neg (by simpa using h)]
  exact bl_inj (by rw [bl_lb, bl_app, bl_app, bl_lb])
theorem jn_one {y sep : ByteArray} : jn [y] sep = y := by
  unfold jn
  rw [List.map_cons, List.map_nil, Lib.join_one, lb_bl]
theorem jn_nil {sep : ByteArray} : jn [] sep = ⟨#[]⟩ := rfl
theorem take_succ {α : Type} (d : α) {l : List α} {k : Nat} (h : k < l.length) : l.take (k + 1) = l.take k ++ [l.getD k d] := by
  rw [List.take_add_one, List.getD_eq_getElem?_getD, List.getElem?_eq_getElem h]; rfl
theorem jn_step {l : List ByteArray} {sep : ByteArray} {k : Nat} (h : k < l.length) : jn (l.take (k + 1)) sep = if k = 0 then l.getD k ByteArray.empty else jn (l.take k) sep ++ sep ++ l.getD k ByteArray.empty := by
  rw [take_succ ByteArray.empty h]
  split
  · rename_i c; subst c
    rw [List.take_zero, List.nil_append, jn_one]
  · exact jn_snoc fun c => by
      have := congrArg List.length c
      rw [List.length_take] at this
      simp only [List.length_nil] at this
      omega
theorem jn_size {l : List ByteArray} {sep : ByteArray} (hs : ∀ s ∈ l, s.size ≤ 1000) (hp : sep.size ≤ 1000) : ∀ k, k ≤ l.length → (jn (l.take k) sep).size ≤ k * 2000
  | 0, _ => by rw [List.take_zero]; exact Nat.zero_le _
  | k + 1, h => by
    have ih := jn_size hs hp k (by omega)
    have := hs _ (getD_mem ByteArray.empty (show k < l.length by omega))
    rw [jn_step (by omega)]
    split
    · omega
    · rw [size_app, size_app]; omega
theorem impl_Join_p {l : List ByteArray} {sep : ByteArray} (hl : l.length ≤ 2097152) (hs : ∀ s ∈ l, s.size ≤ 1000) (hp : sep.size ≤ 1000) : impl_Join l sep = some (jn l sep) := by
  have b1 := jn_size hs hp l.length (Nat.le_refl _)
  rw [List.take_length] at b1
  unfold jn at b1
  rw [size_lb] at b1
  rw [impl_Join_eq, strings_Join_eq, Lb.join, if_pos ⟨by omega, by omega⟩]; rfl
/-- a divisor's text -/
def fd (d : List Int) : ByteArray := if d = [] then ⟨#[110, 111, 110, 101]⟩ else jn (d.map fi) ⟨#[32]⟩
theorem map_getD' {α β : Type} (f : α → β) (d : α) (a : List α) : (List.range a.length).map (fun k => f (a.getD k d)) = a.map f := by
  conv => rhs; rw [← map_getD d a, List.map_map]
  rfl
theorem impl_FormatDivisor_p {d : List Int} (hl : d.length ≤ 2097152) (h : ∀ x ∈ d, I64 x) : impl_FormatDivisor d = some (fd d) := by
  rw [impl_FormatDivisor_eq]
  unfold fd
  by_cases c : d = []
  · subst c; rfl
  · rw [if_neg c, beq_eq_false_iff_ne.2 (show (d.length : Int) ≠ 0 by
      have := List.length_pos_iff.2 c
      omega)]
    simp only [cond_false]
    have := upFold (n := d.length) (f := fun s i => impl_FormatDivisor_l0 s d (d.length : Int) i) (g := fun k s => s ++ [fi (d.getD k 0)]) (fun k s => s.length = k) (fun k s hk hs => ⟨by
      rw [impl_FormatDivisor_l0_eq, dec_lt_t hk, inside_lt hk, w64_succ hk (by omega)]
      simp only [cond_true, Int.toNat_natCast]
      rw [impl_FormatInt_p (h _ (getD_mem 0 hk))]
      simp only [Option.bind_some, List.length_cons, List.length_nil]
      rw [decide_eq_true (by rw [room]; omega)]
      rfl, by simp [hs]⟩) (s := ([] : List ByteArray)) rfl
    refine this.1.trans ?_
    rw [itr_push (fun k => fi (d.getD k 0)), map_getD', List.nil_append, impl_FormatDivisor_l0_eq, dec_lt_f, cond_false, impl_Join_p (by simpa using hl) (fun s hs => ?_) (by decide)]
    · rfl
    · obtain ⟨x, hx, rfl⟩ := List.mem_map.1 hs
      have := fi_size (h x hx)
      omega
theorem fd_size {d : List Int} (hl : d.length ≤ 2097152) (h : ∀ x ∈ d, I64 x) : (fd d).size ≤ 4194304000 := by
  unfold fd
  split
  · decide
  · have := jn_size (l := d.map fi) (sep := ⟨#[32]⟩) (fun s hs => by
      obtain ⟨x, hx, rfl⟩ := List.mem_map.1 hs
      have := fi_size (h x hx)
      omega) (by decide) d.length (by simp)
    rw [← List.length_map (f := fi), List.take_length, List.length_map] at this
    omega
theorem rng_all {a : List Int} (h : ∀ i, i < a.length → IntKind.i64.min ≤ a.getD i 0 ∧ a.getD i 0 ≤ IntKind.i64.max) : ∀ x ∈ a, I64 x := fun x hx => by
  obtain ⟨i, hi, rfl⟩ := List.mem_iff_getElem.1 hx
  have := h i hi
  rw [getD_lt hi] at this
  exact this
end Go.Proofs.YthhogfhffpfkdaaGreatDoor.D

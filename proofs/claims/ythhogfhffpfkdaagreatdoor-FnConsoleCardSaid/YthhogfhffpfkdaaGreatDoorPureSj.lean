/-
  Several texts, one behind the other.
-/
import Derived.Test.YthhogfhffpfkdaaGreatDoorDnA
import Derived.Test.YthhogfhffpfkdaaGreatDoorEqs
import Derived.Lib.ItoaNum
import Derived.Lib.Join
import Derived.Laws.Strings
namespace Go.Den
open Go
theorem w64_id {n : Int} (h1 : -9223372036854775808 ≤ n) (h2 : n ≤ 9223372036854775807) : w64 n = n := by
  simp [w64, IntKind.wrap, IntKind.bits, IntKind.signed]
  omega
theorem w64_succ {k n : Nat} (h : k < n) (hn : n ≤ 9223372036854775807) : w64 ((k : Int) + 1) = ((k + 1 : Nat) : Int) := by
  rw [w64_id (by omega) (by omega)]; rfl
theorem inside_nat {k n : Nat} : inside (k : Int) n = decide (k < n) := by
  simp only [inside]
  have : decide (0 ≤ (k : Int)) = true := by simp
  rw [this, Bool.true_and, decide_eq_decide]
  exact Int.ofNat_lt
theorem inside_lt {k n : Nat} (h : k < n) : inside (k : Int) n = true := by rw [inside_nat]; exact decide_eq_true h
theorem dec_lt_t {k n : Nat} (h : k < n) : decide ((k : Int) < (n : Int)) = true := decide_eq_true (Int.ofNat_lt.2 h)
theorem dec_lt_f {n : Nat} : decide ((n : Int) < (n : Int)) = false := decide_eq_false (Int.lt_irrefl _)
theorem getD_lt {α : Type} {d : α} {a : List α} {j : Nat} (h : j < a.length) : a.getD j d = a[j] := by
  rw [List.getD_eq_getElem?_getD, List.getElem?_eq_getElem h]; rfl
theorem getD_mem {α : Type} (d : α) {l : List α} {k : Nat} (h : k < l.length) : l.getD k d ∈ l := by
  rw [getD_lt h]; exact List.getElem_mem _
end Go.Den
namespace Go.Proofs.YthhogfhffpfkdaaGreatDoor.D
open Go Go.Den
set_option linter.unusedVariables false
set_option linter.unusedSimpArgs false
end Go.Proofs.YthhogfhffpfkdaaGreatDoor.D
namespace Go.Proofs.YthhogfhffpfkdaaGreatDoor.D
open Go Go.Den
set_option linter.unusedVariables false
set_option linter.unusedSimpArgs false
theorem inside_int {n : Int} {l : Nat} (h0 : 0 ≤ n) (h1 : n < (l : Int)) : inside n l = true := by
  have : n = ((n.toNat : Nat) : Int) := by omega
  rw [this]; exact inside_lt (by omega)
end Go.Proofs.YthhogfhffpfkdaaGreatDoor.D
namespace Go.Proofs.YthhogfhffpfkdaaGreatDoor.D
open Go Go.Den
set_option linter.unusedVariables false
set_option linter.unusedSimpArgs false
theorem bl_lb (l : List UInt8) : bl (lb l) = l := by simp [bl, lb]
theorem lb_bl (s : ByteArray) : lb (bl s) = s := by cases s; simp [lb, bl]
theorem size_lb (l : List UInt8) : (lb l).size = l.length := by simp [lb, ByteArray.size]
theorem size_bl (s : ByteArray) : (bl s).length = s.size := Array.length_toList
theorem bl_inj {s t : ByteArray} (h : bl s = bl t) : s = t := by rw [← lb_bl s, ← lb_bl t, h]
theorem bl_app (s t : ByteArray) : bl (s ++ t) = bl s ++ bl t := by simp [bl, ByteArray.data_append]
theorem size_app (s t : ByteArray) : (s ++ t).size = s.size + t.size := by rw [← size_bl, bl_app, List.length_append, size_bl, size_bl]
theorem toList_eq {s t : ByteArray} : (s.toList == t.toList) = decide (s = t) := by
  by_cases c : s = t
  · subst c; simp
  · rw [decide_eq_false c]
    refine beq_eq_false_iff_ne.2 fun h => c ?_
    exact bl_inj (by rw [ByteArray.toList_eq, ByteArray.toList_eq] at h; exact h)
/-- texts joined -/
def jn (l : List ByteArray) (sep : ByteArray) : ByteArray := lb (Lib.join (l.map bl) (bl sep))
theorem join_snoc (xs : List (List UInt8)) (y sep : List UInt8) : Lib.join (xs ++ [y]) sep = if xs = [] then y else Lib.join xs sep ++ sep ++ y := by
  cases xs with
  | nil => simp [Lib.join_one]
  | cons x r =>
    rw [List.cons_append, Lib.join_cons, Lib.join_cons, if_neg (by simp)]
    simp [Lib.joinTail]
theorem jn_snoc {l : List ByteArray} {y sep : ByteArray} (h : l ≠ []) : jn (l ++ [y]) sep = jn l sep ++ sep ++ y := by
  unfold jn
  rw [List.map_append, List.map_cons, List.map_nil, join_snoc, if_neg (by simpa using h)]
  exact bl_inj (by rw [bl_lb, bl_app, bl_app, bl_lb])
theorem jn_one {y sep : ByteArray} : jn [y] sep = y := by
  unfold jn
  rw [List.map_cons, List.map_nil, Lib.join_one, lb_bl]
theorem take_succ {α : Type} (d : α) {l : List α} {k : Nat} (h : k < l.length) : l.take (k + 1) = l.take k ++ [l.getD k d] := by
  rw [List.take_add_one, List.getD_eq_getElem?_getD, List.getElem?_eq_getElem h]; rfl
theorem jn_step {l : List ByteArray} {sep : ByteArray} {k : Nat} (h : k < l.length) : jn (l.take (k + 1)) sep = if k = 0 then l.getD k ByteArray.empty else jn (l.take k) sep ++ sep ++ l.getD k ByteArray.empty := by
  rw [take_succ ByteArray.empty h]
  split
  · rename_i c; subst c
    rw [List.take_zero, List.nil_append, jn_one]
  · exact jn_snoc fun c => by
      have := congrArg List.length c
      rw [List.length_take] at this
      simp only [List.length_nil] at this
      omega
theorem jn_size {l : List ByteArray} {sep : ByteArray} (hs : ∀ s ∈ l, s.size ≤ 1000) (hp : sep.size ≤ 1000) : ∀ k, k ≤ l.length → (jn (l.take k) sep).size ≤ k * 2000
  | 0, _ => by rw [List.take_zero]; exact Nat.zero_le _
  | k + 1, h => by
    have ih := jn_size hs hp k (by omega)
    have := hs _ (getD_mem ByteArray.empty (show k < l.length by omega))
    rw [jn_step (by omega)]
    split
    · omega
    · rw [size_app, size_app]; omega
theorem impl_Join_p {l : List ByteArray} {sep : ByteArray} (hl : l.length ≤ 2097152) (hs : ∀ s ∈ l, s.size ≤ 1000) (hp : sep.size ≤ 1000) : impl_Join l sep = some (jn l sep) := by
  have b1 := jn_size hs hp l.length (Nat.le_refl _)
  rw [List.take_length] at b1
  unfold jn at b1
  rw [size_lb] at b1
  rw [impl_Join_eq, strings_Join_eq, Lb.join, if_pos ⟨by omega, by omega⟩]; rfl
end Go.Proofs.YthhogfhffpfkdaaGreatDoor.D
namespace Go.Proofs.YthhogfhffpfkdaaGreatDoor.D
open Go Go.Den
set_option linter.unusedVariables false
set_option linter.unusedSimpArgs false
abbrev Cur : Type := List Int × Int × Int
def CurOk (c : Cur) : Prop := 0 ≤ c.2.1 ∧ c.2.1 ≤ (c.1.length : Int) ∧ c.1.length ≤ 1048576
theorem and255 (x : Int) : 0 ≤ bits .and .i64 x 255 ∧ bits .and .i64 x 255 ≤ 255 := by
  have e : bits .and .i64 x 255 = (((BitVec.ofInt 64 x &&& BitVec.ofInt 64 255).toNat : Nat) : Int) := by
    have h : (BitVec.ofInt 64 x &&& BitVec.ofInt 64 255).toNat ≤ 255 := by
      rw [BitVec.toNat_and]
      have : (BitVec.ofInt 64 255).toNat = 255 := by decide
      rw [this]
      exact Nat.and_le_right
    show ((bitsD .and .i64 x 255).getD 0) = _
    simp only [bitsD, Option.getD_some]
    show IntKind.i64.wrap ((((BitVec.ofInt 64 x) &&& (BitVec.ofInt 64 255)).toNat : Nat) : Int) = _
    exact w64_id (by omega) (by omega)
  have h : (BitVec.ofInt 64 x &&& BitVec.ofInt 64 255).toNat ≤ 255 := by
    rw [BitVec.toNat_and]
    have : (BitVec.ofInt 64 255).toNat = 255 := by decide
    rw [this]
    exact Nat.and_le_right
  rw [e]; omega
theorem byte_p {c : Cur} (hc : CurOk c) : ∃ x c', spec_l01Byte c = some (x, c') ∧ (0 ≤ x ∧ x ≤ 255) ∧ CurOk c' := by
  obtain ⟨h1, h2, h3⟩ := hc
  rw [spec_l01Byte_eq]
  by_cases k : c.2.1 < (c.1.length : Int)
  · rw [decide_eq_true k, cond_true, inside_int h1 k, cond_true, spec_l01Byte_c5_eq]
    refine ⟨_, _, rfl, and255 _, ?_⟩
    simp only
    rw [w64_id (by omega) (by omega)]
    exact ⟨by show 0 ≤ c.2.1 + 1; omega, by show c.2.1 + 1 ≤ (c.1.length : Int); omega, h3⟩
  · rw [decide_eq_false k, cond_false]
    exact ⟨_, _, rfl, and255 _, h1, h2, h3⟩
theorem below_p {c : Cur} (hc : CurOk c) {n : Int} (h1 : 1 ≤ n) (h2 : n ≤ 256) : ∃ x c', spec_l01Below c n = some (x, c') ∧ (0 ≤ x ∧ x < n) ∧ CurOk c' := by
  obtain ⟨x, c', k1, k2, k3⟩ := byte_p hc
  rw [spec_l01Below_eq, decide_eq_false (by omega), decide_eq_true h2, k1]
  simp only [cond_false, cond_true, Option.bind_some]
  rw [decide_eq_false (by omega)]
  exact ⟨_, _, rfl, ⟨Int.tmod_nonneg _ k2.1, Int.tmod_lt_of_pos _ (by omega)⟩, k3⟩
theorem new_p {l : List Int} (h : l.length ≤ 1048576) : ∃ c, spec_l01New l = some c ∧ CurOk c := by
  rw [spec_l01New_eq]
  have key : ∀ (m k : Nat) (x : Int), k + m = l.length → ∃ c, spec_l01New_l0 l x (k : Int) = some c ∧ CurOk c := by
    intro m
    induction m with
    | zero =>
      intro k x hk
      have : k = l.length := by omega
      subst this
      rw [spec_l01New_l0_eq, dec_lt_f]
      exact ⟨_, rfl, by show (0 : Int) ≤ 0; omega, by show (0 : Int) ≤ _; omega, h⟩
    | succ m ih =>
      intro k x hk
      have hk' : k < l.length := by omega
      rw [spec_l01New_l0_eq, dec_lt_t hk', cond_true, inside_lt hk', w64_succ hk' (by omega)]
      cases decide ((k : Int) < 4000) with
      | false => exact ⟨_, rfl, by show (0 : Int) ≤ 0; omega, by show (0 : Int) ≤ _; omega, h⟩
      | true => exact ih (k + 1) _ (by omega)
  exact key l.length 0 _ (by omega)
end Go.Proofs.YthhogfhffpfkdaaGreatDoor.D
namespace Go.Proofs.YthhogfhffpfkdaaGreatDoor.D
open Go Go.Den
set_option linter.unusedVariables false
set_option linter.unusedSimpArgs false
/-- a text before the first piece -/
theorem bl_extract (s : ByteArray) (a b : Nat) : bl (s.extract a b) = ((bl s).drop a).take (b - a) := by
  have := Lib.extract_toList s a b
  rw [ByteArray.toList_eq] at this
  exact this
theorem toNat_n (k : Nat) : ((k : Int)).toNat = k := by omega
theorem bAt_bl (s : ByteArray) (i : Nat) : bAt s i = (((bl s).getD i 0).toNat : Int) := by
  have h : (((bl s).getD i 0).toNat : Int) = bAt s i := by unfold bAt bl; omega
  omega
def pre (w : List UInt8) : List (List UInt8) → List (List UInt8)
  | [] => [w]
  | v :: vs => (w ++ v) :: vs
/-- a text cut at each place of a letter -/
def spl (c : UInt8) : List UInt8 → List (List UInt8)
  | [] => [[]]
  | b :: l => if b = c then [] :: spl c l else pre [b] (spl c l)
theorem spl_ne (c : UInt8) : ∀ l, spl c l ≠ []
  | [] => by simp [spl]
  | b :: l => by
    rw [spl]
    split
    · simp
    · cases h : spl c l <;> simp [pre]
theorem pre_pre (v w : List UInt8) (X : List (List UInt8)) : pre v (pre w X) = pre (v ++ w) X := by
  cases X <;> simp [pre]
theorem pre_nil {X : List (List UInt8)} (h : X ≠ []) : pre [] X = X := by
  cases X with
  | nil => exact absurd rfl h
  | cons a r => rfl
theorem join_cons2 (x y : List UInt8) (r : List (List UInt8)) (sep : List UInt8) : Lib.join (x :: y :: r) sep = x ++ sep ++ Lib.join (y :: r) sep := by
  rw [Lib.join_cons, Lib.join_cons, Lib.joinTail, List.map_cons, List.flatten_cons]
  simp [Lib.joinTail, List.append_assoc]
theorem spl_none (c : UInt8) : ∀ l, (∀ b ∈ l, b ≠ c) → spl c l = [l]
  | [], _ => rfl
  | b :: l, h => by
    rw [spl, if_neg (h b List.mem_cons_self), spl_none c l fun x hx => h x (List.mem_cons_of_mem _ hx)]
    rfl
theorem spl_app (c : UInt8) : ∀ l m, (∀ b ∈ l, b ≠ c) → spl c (l ++ c :: m) = l :: spl c m
  | [], m, _ => by rw [List.nil_append, spl, if_pos rfl]
  | b :: l, m, h => by
    rw [List.cons_append, spl, if_neg (h b List.mem_cons_self), spl_app c l m fun x hx => h x (List.mem_cons_of_mem _ hx)]
    rfl
theorem spl_join (c : UInt8) : ∀ ws : List (List UInt8), ws ≠ [] → (∀ w ∈ ws, ∀ b ∈ w, b ≠ c) → spl c (Lib.join ws [c]) = ws
  | [], h, _ => absurd rfl h
  | [w], _, h => by rw [Lib.join_one]; exact spl_none c w (h w List.mem_cons_self)
  | w :: v :: r, _, h => by
    rw [join_cons2, List.append_assoc]
    have := spl_app c w (Lib.join (v :: r) [c]) (h w List.mem_cons_self)
    refine this.trans ?_
    rw [spl_join c (v :: r) (by simp) fun x hx => h x (List.mem_cons_of_mem _ hx)]
/-- the pieces of a text -/
def sp (c : UInt8) (s : ByteArray) : List ByteArray := (spl c (bl s)).map lb
theorem drop_getD {α : Type} (d : α) {l : List α} {k : Nat} (h : k < l.length) : l.drop k = l.getD k d :: l.drop (k + 1) := by
  rw [List.drop_eq_getElem_cons h, getD_lt h]
theorem take_drop_succ {l : List UInt8} {a k : Nat} (h1 : a ≤ k) (h : k < l.length) : (l.drop a).take (k + 1 - a) = (l.drop a).take (k - a) ++ [l.getD k 0] := by
  rw [show k + 1 - a = (k - a) + 1 by omega, take_succ 0 (by rw [List.length_drop]; omega)]
  congr 2
  rw [List.getD_eq_getElem?_getD, List.getElem?_drop, show a + (k - a) = k by omega, ← List.getD_eq_getElem?_getD]
theorem lb_extract (s : ByteArray) (a b : Nat) : s.extract a b = lb (((bl s).drop a).take (b - a)) := bl_inj (by rw [bl_extract, bl_lb])
theorem split_step {c : UInt8} {l : List UInt8} {out : List ByteArray} {a k : Nat} (h1 : a ≤ k) (h : k < l.length) :
    (l.getD k 0 = c → out ++ (pre ((l.drop a).take (k - a)) (spl c (l.drop k))).map lb = (out ++ [lb ((l.drop a).take (k - a))]) ++ (pre ((l.drop (k + 1)).take (k + 1 - (k + 1))) (spl c (l.drop (k + 1)))).map lb) ∧
    (l.getD k 0 ≠ c → out ++ (pre ((l.drop a).take (k - a)) (spl c (l.drop k))).map lb = out ++ (pre ((l.drop a).take (k + 1 - a)) (spl c (l.drop (k + 1)))).map lb) := by
  rw [drop_getD 0 h]
  constructor
  · intro hc
    rw [spl, if_pos hc, Nat.sub_self, List.take_zero, pre_nil (spl_ne _ _)]
    simp [pre]
  · intro hc
    rw [spl, if_neg hc, pre_pre, take_drop_succ h1 h]
theorem byte_int (b : UInt8) : ((b.toNat : Int)).toNat.toUInt8 = b := by
  rw [toNat_n]; simp
theorem impl_split {s : ByteArray} {c : UInt8} (hs : s.size ≤ 1048576) : ∀ (d k a : Nat) (out : List ByteArray), k + d = s.size → a ≤ k → out.length ≤ k →
    impl_SplitAny_l0 s (lb [c]) out (a : Int) (k : Int) = some (out ++ (pre (((bl s).drop a).take (k - a)) (spl c ((bl s).drop k))).map lb)
  | 0, k, a, out, hk, ha, ho => by
    have : k = s.size := by omega
    subst this
    rw [impl_SplitAny_l0_eq, dec_lt_f, cond_false, decide_eq_true (by omega : (0 : Int) ≤ (a : Int)), decide_eq_true (by omega : (a : Int) ≤ (s.size : Int)), decide_eq_true (Int.le_refl _)]
    simp only [Bool.and_self, cond_true, toNat_n, List.length_cons, List.length_nil]
    rw [decide_eq_true (by rw [room]; omega), cond_true, lb_extract]
    have e : (bl s).drop s.size = [] := by rw [← size_bl, List.drop_length]
    rw [e]
    simp [spl, pre]
  | d + 1, k, a, out, hk, ha, ho => by
    have hk' : k < s.size := by omega
    have hl : k < (bl s).length := by rw [size_bl]; exact hk'
    obtain ⟨p1, p2⟩ := split_step (c := c) (l := bl s) (out := out) ha hl
    rw [impl_SplitAny_l0_eq, dec_lt_t hk', inside_lt hk', strings_IndexByte_eq, Lb.indexByte, toNat_n, bAt_bl, byte_int, bl_lb]
    simp only [cond_true, Option.bind_some, toNat_n, List.length_cons, List.length_nil]
    have e1 : w64 ((k : Int) + 1) = ((k + 1 : Nat) : Int) := w64_succ hk' (by omega)
    by_cases hc : (bl s).getD k 0 = c
    · have e2 : Lib.indexByte [c] ((bl s).getD k 0) = 0 := by rw [hc]; simp [Lib.indexByte]
      rw [e2, decide_eq_true (by omega : (0 : Int) ≥ 0), decide_eq_true (by omega : (0 : Int) ≤ (a : Int)), decide_eq_true (by omega : (a : Int) ≤ (k : Int)), decide_eq_true (by omega : (k : Int) ≤ (s.size : Int))]
      simp only [Bool.and_self, cond_true]
      rw [decide_eq_true (by rw [room]; omega), cond_true, e1, lb_extract, impl_split hs d (k + 1) (k + 1) _ (by omega) (by omega) (by simp; omega), p1 hc]
    · have e2 : Lib.indexByte [c] ((bl s).getD k 0) = -1 := by
        have : (c == (bl s).getD k 0) = false := beq_eq_false_iff_ne.2 fun q => hc q.symm
        simp only [Lib.indexByte, this, Bool.false_eq_true, if_false]
        rfl
      rw [e2, decide_eq_false (by omega : ¬ (-1 : Int) ≥ 0), cond_false, e1, impl_split hs d (k + 1) a out (by omega) (by omega) (by omega), p2 hc]
theorem splitAny_i {s : ByteArray} {c : UInt8} (hs : s.size ≤ 1048576) : impl_SplitAny s (lb [c]) = some (sp c s) := by
  have h1 := impl_split (c := c) hs s.size 0 0 [] (by omega) (by omega) (Nat.zero_le _)
  have e : ([] ++ (pre (((bl s).drop 0).take (0 - 0)) (spl c ((bl s).drop 0))).map lb : List ByteArray) = sp c s := by
    rw [List.nil_append, Nat.sub_self, List.take_zero, pre_nil (spl_ne _ _)]; rfl
  rw [e] at h1
  rw [impl_SplitAny_eq]
  exact h1
theorem sp_jn {c : UInt8} {ws : List ByteArray} (h : ws ≠ []) (hc : ∀ w ∈ ws, ∀ b ∈ bl w, b ≠ c) : sp c (jn ws (lb [c])) = ws := by
  unfold sp jn
  rw [bl_lb, bl_lb, spl_join c _ (by simpa using h) (fun w hw b hb => by
    obtain ⟨v, hv, rfl⟩ := List.mem_map.1 hw
    exact hc v hv b hb), List.map_map]
  have : (lb ∘ bl) = id := funext fun l => lb_bl l
  rw [this, List.map_id]
end Go.Proofs.YthhogfhffpfkdaaGreatDoor.D

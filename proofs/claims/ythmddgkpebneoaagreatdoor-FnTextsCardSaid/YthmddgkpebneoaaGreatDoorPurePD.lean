/-
  Texts: both programs split a text alike, and read a divisor alike.
-/
import Derived.Test.YthmddgkpebneoaaGreatDoorPurePI
namespace Go.Proofs.YthmddgkpebneoaaGreatDoor.D
open Go Go.Den
set_option linter.unusedVariables false
set_option linter.unusedSimpArgs false
/-- a text before the first piece -/
def pre (w : List UInt8) : List (List UInt8) → List (List UInt8)
  | [] => [w]
  | v :: vs => (w ++ v) :: vs
/-- a text cut at each place of a letter -/
def spl (c : UInt8) : List UInt8 → List (List UInt8)
  | [] => [[]]
  | b :: l => if b = c then [] :: spl c l else pre [b] (spl c l)
theorem spl_ne (c : UInt8) : ∀ l, spl c l ≠ []
  | [] => by simp [spl]
  | b :: l => by
    rw [spl]
    split
    · simp
    · cases h : spl c l <;> simp [pre]
theorem pre_pre (v w : List UInt8) (X : List (List UInt8)) : pre v (pre w X) = pre (v ++ w) X := by
  cases X <;> simp [pre]
theorem pre_nil {X : List (List UInt8)} (h : X ≠ []) : pre [] X = X := by
  cases X with
  | nil => exact absurd rfl h
  | cons a r => rfl
theorem spl_len (c : UInt8) : ∀ l, (spl c l).length ≤ l.length + 1
  | [] => by simp [spl]
  | b :: l => by
    have := spl_len c l
    rw [spl]
    split
    · simp only [List.length_cons]; omega
    · cases h : spl c l with
      | nil => simp [pre]
      | cons a r => rw [h] at this; simp only [pre, List.length_cons] at this ⊢; omega
theorem spl_word (c : UInt8) : ∀ l, ∀ w ∈ spl c l, w.length ≤ l.length
  | [], w, hw => by simp [spl] at hw; subst hw; simp
  | b :: l, w, hw => by
    have ih := spl_word c l
    rw [spl] at hw
    split at hw
    · rcases List.mem_cons.1 hw with rfl | hw
      · simp
      · have := ih w hw; simp only [List.length_cons]; omega
    · cases h : spl c l with
      | nil => exact absurd h (spl_ne c l)
      | cons a r =>
        rw [h] at hw ih
        simp only [pre] at hw
        rcases List.mem_cons.1 hw with rfl | hw
        · have := ih a List.mem_cons_self
          simp only [List.length_append, List.length_cons, List.length_nil]; omega
        · have := ih w (List.mem_cons_of_mem _ hw); simp only [List.length_cons]; omega
theorem join_cons2 (x y : List UInt8) (r : List (List UInt8)) (sep : List UInt8) : Lib.join (x :: y :: r) sep = x ++ sep ++ Lib.join (y :: r) sep := by
  rw [Lib.join_cons, Lib.join_cons, Lib.joinTail, List.map_cons, List.flatten_cons]
  simp [Lib.joinTail, List.append_assoc]
theorem join_spl (c : UInt8) : ∀ l, Lib.join (spl c l) [c] = l
  | [] => rfl
  | b :: l => by
    have ih := join_spl c l
    rw [spl]
    cases h : spl c l with
    | nil => exact absurd h (spl_ne c l)
    | cons a r =>
      rw [h] at ih
      split
      · rename_i hb
        subst hb
        rw [join_cons2, ih]; rfl
      · simp only [pre]
        rw [Lib.join_cons] at ih ⊢
        rw [List.append_assoc, ih]; rfl
theorem spl_none (c : UInt8) : ∀ l, (∀ b ∈ l, b ≠ c) → spl c l = [l]
  | [], _ => rfl
  | b :: l, h => by
    rw [spl, if_neg (h b List.mem_cons_self), spl_none c l fun x hx => h x (List.mem_cons_of_mem _ hx)]
    rfl
theorem spl_app (c : UInt8) : ∀ l m, (∀ b ∈ l, b ≠ c) → spl c (l ++ c :: m) = l :: spl c m
  | [], m, _ => by rw [List.nil_append, spl, if_pos rfl]
  | b :: l, m, h => by
    rw [List.cons_append, spl, if_neg (h b List.mem_cons_self), spl_app c l m fun x hx => h x (List.mem_cons_of_mem _ hx)]
    rfl
theorem spl_join (c : UInt8) : ∀ ws : List (List UInt8), ws ≠ [] → (∀ w ∈ ws, ∀ b ∈ w, b ≠ c) → spl c (Lib.join ws [c]) = ws
  | [], h, _ => absurd rfl h
  | [w], _, h => by rw [Lib.join_one]; exact spl_none c w (h w List.mem_cons_self)
  | w :: v :: r, _, h => by
    rw [join_cons2, List.append_assoc]
    have := spl_app c w (Lib.join (v :: r) [c]) (h w List.mem_cons_self)
    refine this.trans ?_
    rw [spl_join c (v :: r) (by simp) fun x hx => h x (List.mem_cons_of_mem _ hx)]
/-- the pieces of a text -/
def sp (c : UInt8) (s : ByteArray) : List ByteArray := (spl c (bl s)).map lb
theorem drop_getD {α : Type} (d : α) {l : List α} {k : Nat} (h : k < l.length) : l.drop k = l.getD k d :: l.drop (k + 1) := by
  rw [List.drop_eq_getElem_cons h, getD_lt h]
theorem take_drop_succ {l : List UInt8} {a k : Nat} (h1 : a ≤ k) (h : k < l.length) : (l.drop a).take (k + 1 - a) = (l.drop a).take (k - a) ++ [l.getD k 0] := by
  rw [show k + 1 - a = (k - a) + 1 by omega, take_succ 0 (by rw [List.length_drop]; omega)]
  congr 2
  rw [List.getD_eq_getElem?_getD, List.getElem?_drop, show a + (k - a) = k by omega, ← List.getD_eq_getElem?_getD]
theorem lb_extract (s : ByteArray) (a b : Nat) : s.extract a b = lb (((bl s).drop a).take (b - a)) := bl_inj (by rw [bl_extract, bl_lb])
theorem split_step {c : UInt8} {l : List UInt8} {out : List ByteArray} {a k : Nat} (h1 : a ≤ k) (h : k < l.length) :
    (l.getD k 0 = c → out ++ (pre ((l.drop a).take (k - a)) (spl c (l.drop k))).map lb = (out ++ [lb ((l.drop a).take (k - a))]) ++ (pre ((l.drop (k + 1)).take (k + 1 - (k + 1))) (spl c (l.drop (k + 1)))).map lb) ∧
    (l.getD k 0 ≠ c → out ++ (pre ((l.drop a).take (k - a)) (spl c (l.drop k))).map lb = out ++ (pre ((l.drop a).take (k + 1 - a)) (spl c (l.drop (k + 1)))).map lb) := by
  rw [drop_getD 0 h]
  constructor
  · intro hc
    rw [spl, if_pos hc, Nat.sub_self, List.take_zero, pre_nil (spl_ne _ _)]
    simp [pre]
  · intro hc
    rw [spl, if_neg hc, pre_pre, take_drop_succ h1 h]
theorem byte_int (b : UInt8) : ((b.toNat : Int)).toNat.toUInt8 = b := by
  rw [toNat_n]; simp
theorem impl_split {s : ByteArray} {c : UInt8} (hs : s.size ≤ 1048576) : ∀ (d k a : Nat) (out : List ByteArray), k + d = s.size → a ≤ k → out.length ≤ k →
    impl_SplitAny_l0 s (lb [c]) out (a : Int) (k : Int) = some (out ++ (pre (((bl s).drop a).take (k - a)) (spl c ((bl s).drop k))).map lb)
  | 0, k, a, out, hk, ha, ho => by
    have : k = s.size := by omega
    subst this
    rw [impl_SplitAny_l0_eq, dec_lt_f, cond_false, decide_eq_true (by omega : (0 : Int) ≤ (a : Int)), decide_eq_true (by omega : (a : Int) ≤ (s.size : Int)), decide_eq_true (Int.le_refl _)]
    simp only [Bool.and_self, cond_true, toNat_n, List.length_cons, List.length_nil]
    rw [decide_eq_true (by rw [room]; omega), cond_true, lb_extract]
    have e : (bl s).drop s.size = [] := by rw [← size_bl, List.drop_length]
    rw [e]
    simp [spl, pre]
  | d + 1, k, a, out, hk, ha, ho => by
    have hk' : k < s.size := by omega
    have hl : k < (bl s).length := by rw [size_bl]; exact hk'
    obtain ⟨p1, p2⟩ := split_step (c := c) (l := bl s) (out := out) ha hl
    rw [impl_SplitAny_l0_eq, dec_lt_t hk', inside_lt hk', strings_IndexByte_eq, Lb.indexByte, toNat_n, bAt_bl, byte_int, bl_lb]
    simp only [cond_true, Option.bind_some, toNat_n, List.length_cons, List.length_nil]
    have e1 : w64 ((k : Int) + 1) = ((k + 1 : Nat) : Int) := w64_succ hk' (by omega)
    by_cases hc : (bl s).getD k 0 = c
    · have e2 : Lib.indexByte [c] ((bl s).getD k 0) = 0 := by rw [hc]; simp [Lib.indexByte]
      rw [e2, decide_eq_true (by omega : (0 : Int) ≥ 0), decide_eq_true (by omega : (0 : Int) ≤ (a : Int)), decide_eq_true (by omega : (a : Int) ≤ (k : Int)), decide_eq_true (by omega : (k : Int) ≤ (s.size : Int))]
      simp only [Bool.and_self, cond_true]
      rw [decide_eq_true (by rw [room]; omega), cond_true, e1, lb_extract, impl_split hs d (k + 1) (k + 1) _ (by omega) (by omega) (by simp; omega), p1 hc]
    · have e2 : Lib.indexByte [c] ((bl s).getD k 0) = -1 := by
        have : (c == (bl s).getD k 0) = false := beq_eq_false_iff_ne.2 fun q => hc q.symm
        simp only [Lib.indexByte, this, Bool.false_eq_true, if_false]
        rfl
      rw [e2, decide_eq_false (by omega : ¬ (-1 : Int) ≥ 0), cond_false, e1, impl_split hs d (k + 1) a out (by omega) (by omega) (by omega), p2 hc]
theorem splitAny_i {s : ByteArray} {c : UInt8} (hs : s.size ≤ 1048576) : impl_SplitAny s (lb [c]) = some (sp c s) := by
  have h1 := impl_split (c := c) hs s.size 0 0 [] (by omega) (by omega) (Nat.zero_le _)
  have e : ([] ++ (pre (((bl s).drop 0).take (0 - 0)) (spl c ((bl s).drop 0))).map lb : List ByteArray) = sp c s := by
    rw [List.nil_append, Nat.sub_self, List.take_zero, pre_nil (spl_ne _ _)]; rfl
  rw [e] at h1
  rw [impl_SplitAny_eq]
  exact h1
/-- numbers read from the pieces, all of them or none -/
def pWords : List ByteArray → Option (List Int)
  | [] => some []
  | w :: ws => cond (pInt w).2 ((pWords ws).map fun l => (pInt w).1 :: l) none
def outW (acc : List Int) : Option (List Int) → List Int × Bool
  | some v => (acc ++ v, true)
  | none => ([], false)
theorem outW_step (acc : List Int) (w : ByteArray) (ws : List ByteArray) : outW acc (pWords (w :: ws)) = cond (pInt w).2 (outW (acc ++ [(pInt w).1]) (pWords ws)) ([], false) := by
  rw [pWords]
  cases (pInt w).2 with
  | false => rfl
  | true => cases pWords ws <;> simp [outW]
theorem impl_words {W : List ByteArray} (hW : W.length ≤ 2097152) (hs : ∀ w ∈ W, w.size ≤ 1048576) : ∀ (d k : Nat) (acc : List Int), k + d = W.length → acc.length ≤ k →
    impl_ParseDivisor_l0 acc W (W.length : Int) (k : Int) = some (outW acc (pWords (W.drop k)))
  | 0, k, acc, hk, ha => by
    have : k = W.length := by omega
    subst this
    rw [impl_ParseDivisor_l0_eq, dec_lt_f, List.drop_length]
    simp [outW, pWords]
  | d + 1, k, acc, hk, ha => by
    have hk' : k < W.length := by omega
    have hm := hs _ (getD_mem ByteArray.empty hk')
    rw [impl_ParseDivisor_l0_eq, dec_lt_t hk', inside_lt hk', toNat_n, impl_ParseInt_p (by omega), w64_succ hk' (by omega), drop_getD ByteArray.empty hk', outW_step]
    simp only [cond_true, Option.bind_some, List.length_cons, List.length_nil]
    cases (pInt (W.getD k ByteArray.empty)).2 with
    | false => rfl
    | true =>
      simp only [Bool.not_true, cond_false, cond_true]
      rw [decide_eq_true (by rw [room]; omega), cond_true, impl_words hW hs d (k + 1) _ (by omega) (by simp; omega)]
theorem pInt_cases (s : ByteArray) : (pInt s = (0, false) ∧ ∀ n, I64 n → s ≠ fi n) ∨ ∃ n, I64 n ∧ s = fi n ∧ pInt s = (n, true) := by
  by_cases c : ∃ n, I64 n ∧ s = fi n
  · obtain ⟨n, hn, h⟩ := c
    exact .inr ⟨n, hn, h, by rw [h, pInt_fi hn]⟩
  · exact .inl ⟨pInt_no fun n hn k => c ⟨n, hn, k⟩, fun n hn k => c ⟨n, hn, k⟩⟩
theorem pWords_some : ∀ {W : List ByteArray} {d : List Int}, pWords W = some d → W = d.map fi ∧ ∀ x ∈ d, I64 x
  | [], d, h => by
    cases h
    exact ⟨rfl, fun x hx => by cases hx⟩
  | w :: ws, d, h => by
    rw [pWords] at h
    rcases pInt_cases w with ⟨h1, _⟩ | ⟨n, hn, h1, h2⟩
    · rw [h1] at h; cases h
    · rw [h2, cond_true] at h
      cases h3 : pWords ws with
      | none => rw [h3] at h; cases h
      | some l =>
        rw [h3] at h
        simp only [Option.map_some, Option.some.injEq] at h
        subst h
        obtain ⟨g1, g2⟩ := pWords_some h3
        refine ⟨by rw [List.map_cons, ← h1, ← g1], fun x hx => ?_⟩
        rcases List.mem_cons.1 hx with rfl | hx
        · exact hn
        · exact g2 x hx
theorem pWords_fi : ∀ {d : List Int}, (∀ x ∈ d, I64 x) → pWords (d.map fi) = some d
  | [], _ => rfl
  | x :: d, h => by
    rw [List.map_cons, pWords, pInt_fi (h x List.mem_cons_self), pWords_fi fun y hy => h y (List.mem_cons_of_mem _ hy)]
    rfl
theorem jn_sp (c : UInt8) (s : ByteArray) : jn (sp c s) (lb [c]) = s := by
  unfold jn sp
  have : ((spl c (bl s)).map lb).map bl = spl c (bl s) := by
    rw [List.map_map]
    have : (bl ∘ lb) = id := funext fun l => bl_lb l
    rw [this, List.map_id]
  rw [this, bl_lb, join_spl, lb_bl]
theorem sp_ne (c : UInt8) (s : ByteArray) : sp c s ≠ [] := by
  unfold sp
  intro h
  exact spl_ne c (bl s) (List.map_eq_nil_iff.1 h)
theorem sp_len (c : UInt8) (s : ByteArray) : (sp c s).length ≤ s.size + 1 := by
  have := spl_len c (bl s)
  unfold sp
  rw [List.length_map, ← size_bl]; exact this
theorem sp_word (c : UInt8) (s : ByteArray) : ∀ w ∈ sp c s, w.size ≤ s.size := by
  intro w hw
  obtain ⟨v, hv, rfl⟩ := List.mem_map.1 hw
  have := spl_word c (bl s) v hv
  rw [size_lb, ← size_bl]; exact this
theorem sp_jn {c : UInt8} {ws : List ByteArray} (h : ws ≠ []) (hc : ∀ w ∈ ws, ∀ b ∈ bl w, b ≠ c) : sp c (jn ws (lb [c])) = ws := by
  unfold sp jn
  rw [bl_lb, bl_lb, spl_join c _ (by simpa using h) (fun w hw b hb => by
    obtain ⟨v, hv, rfl⟩ := List.mem_map.1 hw
    exact hc v hv b hb), List.map_map]
  have : (lb ∘ bl) = id := funext fun l => lb_bl l
  rw [this, List.map_id]
theorem fi_bytes {n : Int} : ∀ b ∈ bl (fi n), b = 45 ∨ IsDig b := by
  intro b hb
  by_cases c : n < 0
  · rw [fi_negb c] at hb
    rcases List.mem_cons.1 hb with h | h
    · exact .inl h
    · exact .inr (dd_dig _ b h)
  · rw [fi_pos (by omega)] at hb
    exact .inr (dd_dig _ b hb)
theorem fi_bl_ne {n : Int} : bl (fi n) ≠ [] := by
  by_cases c : n < 0
  · rw [fi_negb c]; simp
  · rw [fi_pos (by omega)]; exact dd_ne _
theorem fi_no {n : Int} {c : UInt8} (h : c.toNat < 45 ∨ 57 < c.toNat) : ∀ b ∈ bl (fi n), b ≠ c := fun b hb k => by
  subst k
  rcases fi_bytes b hb with h1 | h1
  · subst h1
    have : (45 : UInt8).toNat = 45 := rfl
    omega
  · unfold IsDig at h1; omega
/-- a divisor read -/
def pd (s : ByteArray) : List Int × Bool := cond (decide (s = ⟨#[110, 111, 110, 101]⟩)) ([], true) (outW [] (pWords (sp 32 s)))
theorem pd_true {s : ByteArray} (h : (pd s).2 = true) : s = fd (pd s).1 ∧ (∀ x ∈ (pd s).1, I64 x) ∧ (pd s).1.length ≤ s.size + 1 := by
  unfold pd at h ⊢
  by_cases c : s = ⟨#[110, 111, 110, 101]⟩
  · rw [decide_eq_true c]
    exact ⟨c, fun x hx => (by cases hx), Nat.zero_le _⟩
  · rw [decide_eq_false c, cond_false] at h ⊢
    cases hw : pWords (sp 32 s) with
    | none => rw [hw] at h; cases h
    | some d =>
      obtain ⟨h1, h2⟩ := pWords_some hw
      have h3 : d ≠ [] := fun k => sp_ne 32 s (by rw [h1, k]; rfl)
      have h4 := congrArg List.length h1
      rw [List.length_map] at h4
      have h5 := sp_len 32 s
      have e : outW [] (some d) = (d, true) := by simp [outW]
      rw [e]
      refine ⟨?_, h2, by simp only; omega⟩
      unfold fd
      rw [if_neg h3, ← h1]
      exact (jn_sp 32 s).symm
theorem pd_false {s : ByteArray} (h : (pd s).2 = false) : pd s = ([], false) := by
  unfold pd at h ⊢
  by_cases c : s = ⟨#[110, 111, 110, 101]⟩
  · rw [decide_eq_true c] at h; cases h
  · rw [decide_eq_false c, cond_false] at h ⊢
    cases hw : pWords (sp 32 s) with
    | none => rfl
    | some d => rw [hw] at h; cases h
theorem jn_head {x : ByteArray} {r : List ByteArray} {sep : ByteArray} (hx : bl x ≠ []) : (bl (jn (x :: r) sep)).head? = (bl x).head? := by
  unfold jn
  rw [bl_lb, List.map_cons, Lib.join_cons]
  cases h : bl x with
  | nil => exact absurd h hx
  | cons a l => rfl
theorem pd_fd {d : List Int} (h : ∀ x ∈ d, I64 x) : pd (fd d) = (d, true) := by
  unfold pd fd
  by_cases c : d = []
  · subst c
    rw [if_pos rfl, decide_eq_true rfl]; rfl
  · rw [if_neg c]
    have hne : jn (d.map fi) ⟨#[32]⟩ ≠ ⟨#[110, 111, 110, 101]⟩ := fun k => by
      cases d with
      | nil => exact c rfl
      | cons x r =>
        have h1 : (bl (jn (fi x :: r.map fi) ⟨#[32]⟩)).head? = (bl (fi x)).head? := jn_head fi_bl_ne
        rw [← List.map_cons, k] at h1
        have h2 : (bl (⟨#[110, 111, 110, 101]⟩ : ByteArray)).head? = some 110 := rfl
        rw [h2] at h1
        have h3 : (110 : UInt8) ∈ bl (fi x) := List.mem_of_mem_head? h1.symm
        exact fi_no (c := 110) (by decide) _ h3 rfl
    rw [decide_eq_false hne, cond_false]
    have e : sp 32 (jn (d.map fi) ⟨#[32]⟩) = d.map fi := sp_jn (c := 32) (by simpa using c) fun w hw b hb => by
      obtain ⟨x, _, rfl⟩ := List.mem_map.1 hw
      exact fi_no (by decide) b hb
    rw [e, pWords_fi h]
    simp [outW]
theorem impl_ParseDivisor_p {s : ByteArray} (hs : s.size ≤ 1048576) : impl_ParseDivisor s = some (pd s) := by
  rw [impl_ParseDivisor_eq, toList_eq]
  unfold pd
  cases decide (s = ⟨#[110, 111, 110, 101]⟩) with
  | true => rfl
  | false =>
    have e := splitAny_i (c := 32) hs
    have e' : impl_SplitAny s ⟨#[32]⟩ = some (sp 32 s) := e
    have := sp_len 32 s
    rw [cond_false, cond_false, e', Option.bind_some]
    exact impl_words (by omega) (fun w hw => Nat.le_trans (sp_word 32 s w hw) hs) (sp 32 s).length 0 [] (by omega) (Nat.zero_le _)
end Go.Proofs.YthmddgkpebneoaaGreatDoor.D

/-
  Texts: both programs write a polynomial alike.
-/
import Derived.Test.YtaapeofhcopajaaDoorPureS
namespace Go.Proofs.YtaapeofhcopajaaDoor.D
open Go Go.Den
set_option linter.unusedVariables false
set_option linter.unusedSimpArgs false
/-- how many numbers lie in all rows -/
def tl (T : List (List Int)) : Nat := (T.map List.length).sum
theorem tl_take_succ {T : List (List Int)} {k : Nat} (h : k < T.length) : tl (T.take (k + 1)) = tl (T.take k) + (T.getD k []).length := by
  unfold tl
  rw [take_succ [] h, List.map_append, List.sum_append]
  simp
theorem tl_take_le {T : List (List Int)} (k : Nat) : tl (T.take k) ≤ tl T := by
  have := congrArg tl (List.take_append_drop k T)
  unfold tl at this ⊢
  rw [List.map_append, List.sum_append] at this
  omega
theorem tl_mem {T : List (List Int)} {r : List Int} (h : r ∈ T) : r.length ≤ tl T := by
  obtain ⟨i, hi, rfl⟩ := List.mem_iff_getElem.1 h
  have h1 := tl_take_succ hi
  have h2 := tl_take_le (T := T) (i + 1)
  rw [getD_lt hi] at h1
  omega
theorem szIntSS_p {a : List (List Int)} (h : a.length ≤ 9223372036854775807) (h2 : ∀ r ∈ a, r.length ≤ 9223372036854775807) {m : Int} (h0 : 0 ≤ m) (hm : m ≤ 1048576) : ∃ r, laws_szIntSS a m = some r ∧ (0 ≤ r → (a.length : Int) ≤ 1048576 ∧ (tl a : Int) ≤ 1048576) := by
  rw [laws_szIntSS_eq, w64_id (by omega) (by omega)]
  by_cases c : m - (a.length : Int) < 0
  · rw [decide_eq_true c]; exact ⟨-1, rfl, fun k => by omega⟩
  · rw [decide_eq_false c, cond_false]
    have key : ∀ d k (r : Int), k + d = a.length → 0 ≤ r → r ≤ 1048576 → ∃ r', laws_szIntSS_l0 a r (k : Nat) = some r' ∧ (0 ≤ r' → (tl a : Int) ≤ (tl (a.take k) : Int) + r) := by
      intro d
      induction d with
      | zero =>
        intro k r hk h0 h1
        have : k = a.length := by omega
        subst this
        rw [laws_szIntSS_l0_eq, dec_lt_f]
        exact ⟨r, rfl, fun _ => by rw [List.take_length]; omega⟩
      | succ d ih =>
        intro k r hk h0 h1
        have hk' : k < a.length := by omega
        have ht := tl_take_succ hk'
        rw [laws_szIntSS_l0_eq, dec_lt_t hk', inside_lt hk', w64_succ hk' (by omega)]
        simp only [cond_true, Int.toNat_natCast]
        obtain ⟨q, e1, e2, e3⟩ := szIntS_p (a := a.getD k []) (h2 _ (getD_mem [] hk')) h0 h1
        rw [e1]
        simp only [Option.bind_some]
        by_cases c : q < 0
        · rw [decide_eq_true c]; exact ⟨-1, rfl, fun k => by omega⟩
        · rw [decide_eq_false c, cond_false]
          obtain ⟨r', f1, f2⟩ := ih (k + 1) q (by omega) (by omega) e3
          refine ⟨r', f1, fun h => ?_⟩
          have := e2 (by omega)
          have := f2 h
          omega
    obtain ⟨r', f1, f2⟩ := key a.length 0 _ (by omega) (Int.not_lt.1 c) (by omega)
    refine ⟨r', f1, fun h => ⟨by omega, ?_⟩⟩
    have := f2 h
    have e : tl (a.take 0) = 0 := rfl
    omega
theorem toIntSS_p {a : List (List Int)} (h : a.length ≤ 1048576) (h2 : ∀ r ∈ a, r.length ≤ 1048576) : laws_toIntSS a = some a := by
  rw [laws_toIntSS_eq, room_ok h]
  simp only [cond_true, Int.toNat_natCast]
  have := upFold (n := a.length) (f := fun s i => laws_toIntSS_l0 a s i) (g := fun k s => s.set k (a.getD k [])) (fun _ s => s.length = a.length) (fun k s hk hs => ⟨by
    rw [laws_toIntSS_l0_eq, dec_lt_t hk, inside_lt hk]
    simp only [cond_true, Int.toNat_natCast]
    rw [toIntS_p (h2 _ (getD_mem [] hk))]
    simp only [Option.bind_some]
    rw [hs, inside_lt hk, w64_succ hk (by omega)]
    rfl, by simp [hs]⟩) (s := List.replicate a.length []) (by simp)
  refine this.1.trans ?_
  rw [itr_fill (fun k => a.getD k []) a.length (by simp), laws_toIntSS_l0_eq, dec_lt_f, map_getD]
  simp
theorem eqIntSS_p {a b : List (List Int)} (h : a.length ≤ 9223372036854775807) (h2 : ∀ r ∈ a, r.length ≤ 9223372036854775807) : ∃ r, laws_eqIntSS a b = some r ∧ (r = true ↔ a = b) := by
  rw [laws_eqIntSS_eq]
  by_cases c : a.length = b.length
  · rw [eq_f (by omega), cond_false]
    obtain ⟨r, h1, h3⟩ := upAll (n := a.length) (f := fun i => laws_eqIntSS_l0 a b i) (p := fun k => decide (a.getD k [] = b.getD k [])) (fun k hk => by
      obtain ⟨q, e1, e2⟩ := eqIntS_p (a := a.getD k []) (b := b.getD k []) (h2 _ (getD_mem [] hk))
      rw [laws_eqIntSS_l0_eq, dec_lt_t hk, inside_lt hk, ← c, inside_lt hk, w64_succ hk h]
      simp only [cond_true, Int.toNat_natCast]
      rw [e1]
      simp only [Option.bind_some]
      by_cases g : a.getD k [] = b.getD k []
      · rw [e2.2 g, decide_eq_true g]; rfl
      · rw [show q = false by cases q with | false => rfl | true => exact absurd (e2.1 rfl) g, decide_eq_false g]; rfl) (by rw [laws_eqIntSS_l0_eq, dec_lt_f]; rfl)
    exact ⟨r, h1, h3.trans ⟨fun q => ext_getD c fun j hj => of_decide_eq_true (q j hj), fun q j hj => by rw [q]; exact decide_eq_true rfl⟩⟩
  · rw [ne_t (by omega), cond_true]
    exact ⟨false, rfl, ⟨fun k => (by cases k), fun k => absurd (congrArg List.length k) c⟩⟩
/-- a letter with its power -/
def pw (s : ByteArray) (n : Nat) : ByteArray := if n = 0 then ⟨#[]⟩ else if n = 1 then s else s ++ fi n
theorem pw_size {s : ByteArray} {n : Nat} (hs : s.size = 1) (hn : n ≤ 1048576) : (pw s n).size ≤ 21 := by
  have := fi_size (n := (n : Int)) ⟨by omega, by omega⟩
  have e0 : (⟨#[]⟩ : ByteArray).size = 0 := rfl
  unfold pw
  split
  · omega
  · split
    · omega
    · rw [size_app]; omega
theorem spec_Power_p {s : ByteArray} {n : Nat} (hs : s.size = 1) (hn : n ≤ 1048576) : spec_l18Power s (n : Int) = some (pw s n) := by
  have hi : I64 (n : Int) := ⟨by omega, by omega⟩
  have hf := fi_size hi
  rw [spec_l18Power_eq]
  unfold pw
  by_cases c : n = 0
  · subst c; rfl
  · rw [if_neg c, beq_eq_false_iff_ne.2 (by omega : (n : Int) ≠ 0), cond_false]
    by_cases c : n = 1
    · subst c; rfl
    · rw [if_neg c, beq_eq_false_iff_ne.2 (by omega : (n : Int) ≠ 1), cond_false, spec_FormatInt_p hi]
      simp only [Option.bind_some]
      rw [decide_eq_true (by omega)]; rfl
theorem impl_Power_p {s : ByteArray} {n : Nat} (hs : s.size = 1) (hn : n ≤ 1048576) : impl_powerText s (n : Int) = some (pw s n) := by
  have hi : I64 (n : Int) := ⟨by omega, by omega⟩
  have hf := fi_size hi
  rw [impl_powerText_eq]
  unfold pw
  by_cases c : n = 0
  · subst c; rfl
  · rw [if_neg c, beq_eq_false_iff_ne.2 (by omega : (n : Int) ≠ 0), cond_false]
    by_cases c : n = 1
    · subst c; rfl
    · rw [if_neg c, beq_eq_false_iff_ne.2 (by omega : (n : Int) ≠ 1), cond_false, impl_FormatInt_p hi]
      simp only [Option.bind_some]
      rw [decide_eq_true (by omega)]; rfl
/-- the text of one place, if any -/
def mono (i j : Nat) (n : Int) : List ByteArray :=
  if n = 0 then [] else if n = 1 ∧ pw ⟨#[120]⟩ i ++ pw ⟨#[121]⟩ j ≠ ⟨#[]⟩ then [pw ⟨#[120]⟩ i ++ pw ⟨#[121]⟩ j] else [fi n ++ (pw ⟨#[120]⟩ i ++ pw ⟨#[121]⟩ j)]
theorem mono_len {i j : Nat} {n : Int} : (mono i j n).length ≤ 1 := by
  unfold mono
  split
  · simp
  · split <;> simp
theorem toList_nil {s : ByteArray} : (s.toList == (⟨#[]⟩ : ByteArray).toList) = decide (s = ⟨#[]⟩) := by
  by_cases c : s = ⟨#[]⟩
  · subst c; simp
  · rw [decide_eq_false c]
    refine beq_eq_false_iff_ne.2 fun h => c ?_
    exact bl_inj (by rw [ByteArray.toList_eq, ByteArray.toList_eq] at h; exact h)
theorem app_nil (s : ByteArray) : s ++ (⟨#[]⟩ : ByteArray) = s := bl_inj (by rw [bl_app]; exact List.append_nil _)
theorem spec_row_step {x3 : List ByteArray} {i : Nat} {T : List (List Int)} {n x12 : Int} {row : List Int} {j : Nat} (hi : i ≤ 1048576) (hj : j < row.length) (hr : row.length ≤ 1048576) (h : ∀ x ∈ row, I64 x) (hx : x3.length ≤ 1099511627775) :
    spec_FormatPolynomial_l2 x3 (i : Int) T n x12 row (row.length : Int) (j : Int) = spec_FormatPolynomial_l2 (x3 ++ mono i j (row.getD j 0)) (i : Int) T n x12 row (row.length : Int) ((j + 1 : Nat) : Int) := by
  have hn := h _ (getD_mem 0 hj)
  have s1 := pw_size (s := ⟨#[120]⟩) rfl hi
  have s2 := pw_size (s := ⟨#[121]⟩) rfl (show j ≤ 1048576 by omega)
  have s3 := fi_size hn
  have hp : (pw ⟨#[120]⟩ i ++ pw ⟨#[121]⟩ j).size ≤ 42 := by rw [size_app]; omega
  rw [spec_FormatPolynomial_l2_eq, dec_lt_t hj, inside_lt hj, w64_succ hj (by omega)]
  simp only [cond_true, Int.toNat_natCast]
  rw [spec_Power_p rfl hi, spec_Power_p rfl (by omega)]
  simp only [Option.bind_some]
  rw [decide_eq_true (by omega), cond_true]
  unfold mono
  generalize pw ⟨#[120]⟩ i ++ pw ⟨#[121]⟩ j = p at *
  generalize row.getD j 0 = z at *
  by_cases c0 : z = 0
  · subst c0
    rw [if_pos rfl, List.append_nil]
    rfl
  · rw [if_neg c0, ne_t c0, cond_true]
    by_cases c1 : z = 1
    · rw [eq_f c1, cond_false, toList_nil]
      by_cases cp : p = ⟨#[]⟩
      · rw [decide_eq_true cp, if_neg (fun k => k.2 cp), cond_true, spec_FormatInt_p hn]
        simp only [Option.bind_some, List.length_cons, List.length_nil]
        rw [decide_eq_true (by omega), cond_true, cond_true, decide_eq_true (by rw [room]; omega)]
        rfl
      · rw [decide_eq_false cp, if_pos ⟨c1, cp⟩, cond_false, cond_true]
        simp only [List.length_cons, List.length_nil]
        rw [decide_eq_true (by rw [room]; omega)]
        rfl
    · rw [ne_t c1, if_neg (fun k => c1 k.1), cond_true, spec_FormatInt_p hn]
      simp only [Option.bind_some, List.length_cons, List.length_nil]
      rw [decide_eq_true (by omega), cond_true, cond_true, decide_eq_true (by rw [room]; omega)]
      rfl
theorem impl_row_step {x3 : List ByteArray} {i : Nat} {T : List (List Int)} {n x12 : Int} {row : List Int} {j : Nat} (hi : i ≤ 1048576) (hj : j < row.length) (hr : row.length ≤ 1048576) (h : ∀ x ∈ row, I64 x) (hx : x3.length ≤ 1099511627775) :
    impl_FormatPolynomial_l2 x3 (i : Int) T n x12 row (row.length : Int) (j : Int) = impl_FormatPolynomial_l2 (x3 ++ mono i j (row.getD j 0)) (i : Int) T n x12 row (row.length : Int) ((j + 1 : Nat) : Int) := by
  have hn := h _ (getD_mem 0 hj)
  have s1 := pw_size (s := ⟨#[120]⟩) rfl hi
  have s2 := pw_size (s := ⟨#[121]⟩) rfl (show j ≤ 1048576 by omega)
  have s3 := fi_size hn
  have hp : (pw ⟨#[120]⟩ i ++ pw ⟨#[121]⟩ j).size ≤ 42 := by rw [size_app]; omega
  rw [impl_FormatPolynomial_l2_eq, dec_lt_t hj, inside_lt hj, w64_succ hj (by omega)]
  simp only [cond_true, Int.toNat_natCast]
  rw [impl_Power_p rfl hi, impl_Power_p rfl (by omega)]
  simp only [Option.bind_some]
  rw [decide_eq_true (by omega : (pw ⟨#[120]⟩ i).size + (pw ⟨#[121]⟩ j).size ≤ 9223372036854775807), cond_true]
  unfold mono
  generalize pw ⟨#[120]⟩ i ++ pw ⟨#[121]⟩ j = p at *
  generalize row.getD j 0 = z at *
  by_cases c0 : z = 0
  · subst c0
    rw [if_pos rfl, List.append_nil]
    rfl
  · rw [if_neg c0, beq_eq_false_iff_ne.2 c0, cond_false]
    by_cases c1 : z = 1
    · rw [beq_iff_eq.2 c1, cond_true, toList_nil]
      by_cases cp : p = ⟨#[]⟩
      · rw [decide_eq_true cp, if_neg (fun k => k.2 cp), Bool.not_true, cond_false, impl_FormatInt_p hn]
        simp only [Option.bind_some, List.length_cons, List.length_nil]
        rw [decide_eq_true (by omega), cond_true, decide_eq_true (by rw [room]; omega)]
        rfl
      · rw [decide_eq_false cp, if_pos ⟨c1, cp⟩, Bool.not_false, cond_true]
        simp only [List.length_cons, List.length_nil]
        rw [decide_eq_true (by rw [room]; omega)]
        rfl
    · rw [beq_eq_false_iff_ne.2 c1, if_neg (fun k => c1 k.1), cond_false, impl_FormatInt_p hn]
      simp only [Option.bind_some, List.length_cons, List.length_nil]
      rw [decide_eq_true (by omega), cond_true, decide_eq_true (by rw [room]; omega)]
      rfl
/-- the rounds of one row -/
def rowText (i : Nat) (row : List Int) (s : List ByteArray) : List ByteArray := itr (fun j s => s ++ mono i j (row.getD j 0)) row.length s
theorem rowText_len (i : Nat) (row : List Int) (s : List ByteArray) : ∀ n, (itr (fun j s => s ++ mono i j (row.getD j 0)) n s).length ≤ s.length + n
  | 0 => Nat.le_refl _
  | n + 1 => by
    have := rowText_len i row s n
    have := mono_len (i := i) (j := n) (n := row.getD n 0)
    simp only [itr, List.length_append]
    omega
theorem mono_size {i j : Nat} {n : Int} (hi : i ≤ 1048576) (hj : j ≤ 1048576) (hn : I64 n) : ∀ s ∈ mono i j n, s.size ≤ 1000 := by
  have s1 := pw_size (s := ⟨#[120]⟩) rfl hi
  have s2 := pw_size (s := ⟨#[121]⟩) rfl hj
  have s3 := fi_size hn
  intro s hs
  unfold mono at hs
  split at hs
  · cases hs
  · split at hs
    · rw [List.mem_singleton] at hs; subst hs; rw [size_app]; omega
    · rw [List.mem_singleton] at hs; subst hs; rw [size_app, size_app]; omega
theorem rowText_size {i : Nat} {row : List Int} {s : List ByteArray} (hi : i ≤ 1048576) (hr : row.length ≤ 1048576) (h : ∀ x ∈ row, I64 x) (hs : ∀ t ∈ s, t.size ≤ 1000) : ∀ n, n ≤ row.length → ∀ t ∈ itr (fun j s => s ++ mono i j (row.getD j 0)) n s, t.size ≤ 1000
  | 0, _ => hs
  | n + 1, hn => by
    intro t ht
    simp only [itr, List.mem_append] at ht
    rcases ht with ht | ht
    · exact rowText_size hi hr h hs n (by omega) t ht
    · exact mono_size hi (by omega) (h _ (getD_mem 0 (by omega))) t ht
def allText (T : List (List Int)) : List ByteArray := itr (fun k s => rowText k (T.getD k []) s) T.length []
/-- a polynomial's text -/
def fp (T : List (List Int)) : ByteArray := if allText T = [] then ⟨#[48]⟩ else jn (allText T) ⟨#[32, 43, 32]⟩
theorem spec_rows {T : List (List Int)} (hT : T.length ≤ 1048576) (ht : tl T ≤ 1048576) (h : ∀ r ∈ T, ∀ x ∈ r, I64 x) : (spec_FormatPolynomial T = spec_FormatPolynomial_l0 (allText T) T (T.length : Int) (T.length : Nat)) ∧ (allText T).length ≤ tl (T.take T.length) ∧ ∀ t ∈ allText T, t.size ≤ 1000 := by
  rw [spec_FormatPolynomial_eq]
  exact upFold (n := T.length) (f := fun s i => spec_FormatPolynomial_l0 s T (T.length : Int) i) (g := fun k s => rowText k (T.getD k []) s) (fun k s => s.length ≤ tl (T.take k) ∧ ∀ t ∈ s, t.size ≤ 1000) (fun k s hk hs => by
    have hm := getD_mem [] hk
    have hrow := h _ hm
    have hlen := tl_mem hm
    have hl := rowText_len k (T.getD k []) s
    have ht1 := tl_take_succ hk
    have ht2 := tl_take_le (T := T) k
    refine ⟨?_, ?_, rowText_size (by omega) (by omega) hrow hs.2 _ (Nat.le_refl _)⟩
    · rw [spec_FormatPolynomial_l0_eq, dec_lt_t hk, inside_lt hk]
      simp only [cond_true, Int.toNat_natCast]
      have := upFold (n := (T.getD k []).length) (f := fun s i => spec_FormatPolynomial_l2 s (k : Int) T (T.length : Int) (k : Int) (T.getD k []) ((T.getD k []).length : Int) i) (g := fun j s => s ++ mono k j ((T.getD k []).getD j 0)) (fun j s' => s'.length ≤ s.length + j) (fun j s' hj hs' => ⟨spec_row_step (by omega) hj (by omega) hrow (by omega), by
        have := mono_len (i := k) (j := j) (n := (T.getD k []).getD j 0)
        simp only [List.length_append]; omega⟩) (s := s) (by omega)
      refine this.1.trans ?_
      rw [spec_FormatPolynomial_l2_eq, dec_lt_f, cond_false, w64_succ hk (by omega)]
      rfl
    · have := hl (T.getD k []).length
      have e : (rowText k (T.getD k []) s).length ≤ s.length + (T.getD k []).length := this
      omega) (s := ([] : List ByteArray)) ⟨Nat.zero_le _, fun t ht => by cases ht⟩
theorem impl_rows {T : List (List Int)} (hT : T.length ≤ 1048576) (ht : tl T ≤ 1048576) (h : ∀ r ∈ T, ∀ x ∈ r, I64 x) : (impl_FormatPolynomial T = impl_FormatPolynomial_l0 (allText T) T (T.length : Int) (T.length : Nat)) := by
  rw [impl_FormatPolynomial_eq]
  exact (upFold (n := T.length) (f := fun s i => impl_FormatPolynomial_l0 s T (T.length : Int) i) (g := fun k s => rowText k (T.getD k []) s) (fun k s => s.length ≤ tl (T.take k) ∧ ∀ t ∈ s, t.size ≤ 1000) (fun k s hk hs => by
    have hm := getD_mem [] hk
    have hrow := h _ hm
    have hlen := tl_mem hm
    have hl := rowText_len k (T.getD k []) s
    have ht1 := tl_take_succ hk
    have ht2 := tl_take_le (T := T) k
    refine ⟨?_, ?_, rowText_size (by omega) (by omega) hrow hs.2 _ (Nat.le_refl _)⟩
    · rw [impl_FormatPolynomial_l0_eq, dec_lt_t hk, inside_lt hk]
      simp only [cond_true, Int.toNat_natCast]
      have := upFold (n := (T.getD k []).length) (f := fun s i => impl_FormatPolynomial_l2 s (k : Int) T (T.length : Int) (k : Int) (T.getD k []) ((T.getD k []).length : Int) i) (g := fun j s => s ++ mono k j ((T.getD k []).getD j 0)) (fun j s' => s'.length ≤ s.length + j) (fun j s' hj hs' => ⟨impl_row_step (by omega) hj (by omega) hrow (by omega), by
        have := mono_len (i := k) (j := j) (n := (T.getD k []).getD j 0)
        simp only [List.length_append]; omega⟩) (s := s) (by omega)
      refine this.1.trans ?_
      rw [impl_FormatPolynomial_l2_eq, dec_lt_f, cond_false, w64_succ hk (by omega)]
      rfl
    · have := hl (T.getD k []).length
      have e : (rowText k (T.getD k []) s).length ≤ s.length + (T.getD k []).length := this
      omega) (s := ([] : List ByteArray)) ⟨Nat.zero_le _, fun t ht => by cases ht⟩).1
theorem formatPolynomial_p {T : List (List Int)} (hT : T.length ≤ 1048576) (ht : tl T ≤ 1048576) (h : ∀ r ∈ T, ∀ x ∈ r, I64 x) : spec_FormatPolynomial T = some (fp T) ∧ impl_FormatPolynomial T = some (fp T) := by
  obtain ⟨h1, h2, h3⟩ := spec_rows hT ht h
  have h4 := impl_rows hT ht h
  rw [List.take_length] at h2
  rw [h1, h4, spec_FormatPolynomial_l0_eq, impl_FormatPolynomial_l0_eq, dec_lt_f, cond_false, cond_false]
  unfold fp
  by_cases c : allText T = []
  · rw [c]; exact ⟨rfl, rfl⟩
  · have := List.length_pos_iff.2 c
    rw [if_neg c, beq_eq_false_iff_ne.2 (by omega), cond_false, cond_false, spec_Join_p (by omega) h3 (by decide), impl_Join_p (by omega) h3 (by decide)]
    exact ⟨rfl, rfl⟩
theorem law_FormatPolynomial {T : List (List Int)} (hl : T.length ≤ 9223372036854775807) (h : ∀ i, i < T.length → (T.getD i []).length ≤ maxLen ∧ ∀ j, j < (T.getD i []).length → IntKind.i64.min ≤ (T.getD i []).getD j 0 ∧ (T.getD i []).getD j 0 ≤ IntKind.i64.max) : laws_FnExactFormatPolynomial T = some true := by
  have hm : ∀ r ∈ T, r.length ≤ maxLen ∧ ∀ x ∈ r, I64 x := fun r hr => by
    obtain ⟨i, hi, rfl⟩ := List.mem_iff_getElem.1 hr
    have := h i hi
    rw [getD_lt hi] at this
    exact ⟨this.1, rng_all this.2⟩
  have hm1 : ∀ r ∈ T, r.length ≤ 9223372036854775807 := fun r hr => Nat.le_trans (hm r hr).1 (by decide)
  obtain ⟨r, k1, k2⟩ := szIntSS_p hl hm1 (m := 1048576) (by omega) (by omega)
  rw [laws_FnExactFormatPolynomial_eq, k1]
  simp only [Option.bind_some]
  by_cases c : r < 0
  · rw [decide_eq_true c]; rfl
  · rw [decide_eq_false c, cond_false]
    obtain ⟨c1, c2⟩ := k2 (by omega)
    obtain ⟨e1, e2⟩ := formatPolynomial_p (by omega) (by omega) fun r hr => (hm r hr).2
    obtain ⟨q, j1, j2⟩ := eqIntSS_p (a := T) (b := T) hl hm1
    have kr : q = true := j2.2 rfl
    subst kr
    rw [toIntSS_p (by omega) (fun r hr => Nat.le_trans (tl_mem hr) (by omega))]
    simp only [cond_false, Option.bind_some]
    rw [e1, e2, j1]
    simp
end Go.Proofs.YtaapeofhcopajaaDoor.D

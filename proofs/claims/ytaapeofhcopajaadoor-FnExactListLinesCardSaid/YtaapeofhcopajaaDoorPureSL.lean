/-
  Texts: rows of texts; both programs write a list of divisors alike.
-/
import Derived.Test.YtaapeofhcopajaaDoorPureSP
namespace Go.Proofs.YtaapeofhcopajaaDoor.D
open Go Go.Den
set_option linter.unusedVariables false
set_option linter.unusedSimpArgs false
theorem toList_eq {s t : ByteArray} : (s.toList == t.toList) = decide (s = t) := by
  by_cases c : s = t
  · subst c; simp
  · rw [decide_eq_false c]
    refine beq_eq_false_iff_ne.2 fun h => c ?_
    exact bl_inj (by rw [ByteArray.toList_eq, ByteArray.toList_eq] at h; exact h)
theorem eqStringS_p {a b : List ByteArray} (h : a.length ≤ 9223372036854775807) : ∃ r, laws_eqStringS a b = some r ∧ (r = true ↔ a = b) := by
  rw [laws_eqStringS_eq]
  by_cases c : a.length = b.length
  · rw [eq_f (by omega), cond_false]
    obtain ⟨r, h1, h3⟩ := upAll (n := a.length) (f := fun i => laws_eqStringS_l0 a b i) (p := fun k => decide (a.getD k ByteArray.empty = b.getD k ByteArray.empty)) (fun k hk => by
      rw [laws_eqStringS_l0_eq, dec_lt_t hk, inside_lt hk, ← c, inside_lt hk, w64_succ hk h]
      simp only [cond_true, Int.toNat_natCast]
      rw [toList_eq]
      cases decide (a.getD k ByteArray.empty = b.getD k ByteArray.empty) <;> rfl) (by rw [laws_eqStringS_l0_eq, dec_lt_f]; rfl)
    exact ⟨r, h1, h3.trans ⟨fun q => ext_getD c fun j hj => of_decide_eq_true (q j hj), fun q j hj => by rw [q]; exact decide_eq_true rfl⟩⟩
  · rw [ne_t (by omega), cond_true]
    exact ⟨false, rfl, ⟨fun k => (by cases k), fun k => absurd (congrArg List.length k) c⟩⟩
theorem markText_loop (m : Nat) (s : ByteArray) (h : m + s.size ≤ 9223372036854775806) : ∃ t, laws_markText_l0 (m : Int) s = some t := by
  induction m using Nat.strongRecOn generalizing s with
  | _ m ih =>
    rw [laws_markText_l0_eq]
    have e1 : (⟨#[109]⟩ : ByteArray).size = 1 := rfl
    by_cases c : m = 0
    · subst c
      rw [decide_eq_false (by omega), cond_false, decide_eq_true (by omega)]
      exact ⟨_, rfl⟩
    · have e1 : Int.tmod (m : Int) 10 = ((m % 10 : Nat) : Int) := (Int.ofNat_tmod m 10).symm
      have e2 : Int.tdiv (m : Int) 10 = ((m / 10 : Nat) : Int) := (Int.ofNat_tdiv m 10).symm
      rw [decide_eq_true (by omega : (m : Int) > 0), cond_true, e1, e2, digit rfl (by omega : m % 10 < 10), size_lb, w64_id (by omega) (by omega)]
      simp only [List.length_cons, List.length_nil]
      rw [decide_eq_true (by omega), cond_true]
      exact ih (m / 10) (by omega) _ (by rw [size_app, size_lb]; simp only [List.length_cons, List.length_nil]; omega)
noncomputable def mt (k : Int) : ByteArray := (laws_markText k).getD ⟨#[]⟩
theorem markText_p {k : Int} (h0 : 0 ≤ k) (h : k ≤ 9223372036854775806) : laws_markText k = some (mt k) := by
  have : ∃ t, laws_markText k = some t := by
    rw [laws_markText_eq]
    by_cases c : k ≤ 0
    · rw [decide_eq_true c]; exact ⟨_, rfl⟩
    · rw [decide_eq_false c, cond_false]
      have e1 : (⟨#[]⟩ : ByteArray).size = 0 := rfl
      have := markText_loop k.toNat ⟨#[]⟩ (by omega)
      rw [show (k.toNat : Int) = k by omega] at this
      exact this
  obtain ⟨t, ht⟩ := this
  unfold mt
  rw [ht]; rfl
noncomputable def runT (m : Int) (n : Nat) : List ByteArray := (List.range n).map fun (k : Nat) => mt (m + (k : Int))
theorem markStringS_p {a : List ByteArray} {m : Int} (h0 : 0 ≤ m) (h : m + (a.length : Int) ≤ 9223372036854775806) : laws_markStringS a m = some (m + (a.length : Int), runT m a.length) := by
  rw [laws_markStringS_eq]
  have := upFold (n := a.length) (f := fun (s : List ByteArray × Int) i => laws_markStringS_l0 s.1 s.2 i) (g := fun k s => (s.1.set k (mt s.2), w64 (s.2 + 1)))
    (fun k s => s.1 = runT m k ++ a.drop k ∧ s.2 = m + (k : Int)) (fun k s hk hs => by
      obtain ⟨x, y⟩ := s
      simp only at hs
      obtain ⟨h1, h2⟩ := hs
      have hl : x.length = a.length := by rw [h1]; simp [runT]; omega
      refine ⟨?_, ?_, ?_⟩
      · rw [laws_markStringS_l0_eq, hl, dec_lt_t hk, inside_lt hk, w64_succ hk (by omega), markText_p (by omega) (by omega)]
        simp only [cond_true, Int.toNat_natCast, Option.bind_some]
      · simp only
        rw [h1, h2]
        exact set_range_map (f := fun k => mt (m + (k : Int))) hk
      · simp only
        rw [h2, w64_id (by omega) (by omega)]; omega) (s := (a, m)) ⟨by simp [runT], by simp⟩
  obtain ⟨h1, h2, h3⟩ := this
  simp only at h1
  refine h1.trans ?_
  generalize itr (fun (k : Nat) (s : List ByteArray × Int) => (s.1.set k (mt s.2), w64 (s.2 + 1))) a.length (a, m) = s at h2 h3
  obtain ⟨x, y⟩ := s
  simp only at h2 h3 ⊢
  rw [List.drop_length, List.append_nil] at h2
  subst h2
  rw [laws_markStringS_l0_eq, show (runT m a.length).length = a.length by simp [runT], dec_lt_f, h3]
  rfl
theorem heldStringS_p {m : Int} {n : Nat} (h0 : 0 ≤ m) (h : m + (n : Int) ≤ 9223372036854775806) : laws_heldStringS (runT m n) m = some (m + (n : Int)) := by
  rw [laws_heldStringS_eq]
  have hl : (runT m n).length = n := by simp [runT]
  have := upFold (n := n) (f := fun (s : Int) i => laws_heldStringS_l0 (runT m n) s i) (g := fun k s => w64 (s + 1)) (fun k s => s = m + (k : Int)) (fun k s hk hs => by
    subst hs
    refine ⟨?_, ?_⟩
    · rw [laws_heldStringS_l0_eq, hl, dec_lt_t hk, inside_lt hk, w64_succ hk (by omega), markText_p (by omega) (by omega)]
      simp only [cond_true, Int.toNat_natCast, Option.bind_some]
      have : (runT m n).getD k ByteArray.empty = mt (m + (k : Int)) := getD_range_map _ hk
      rw [this]
      simp
    · rw [w64_id (by omega) (by omega)]; omega) (s := m) (by simp)
  obtain ⟨h1, h2⟩ := this
  refine h1.trans ?_
  rw [h2, laws_heldStringS_l0_eq, hl, dec_lt_f]
  rfl
theorem markIntSS_p {a : List (List Int)} {m : Int} (h0 : 0 ≤ m) (hl : a.length ≤ 9223372036854775807) (h : m + (tl a : Int) ≤ 9223372036854775806) : ∃ x, laws_markIntSS a m = some (m + (tl a : Int), x) := by
  rw [laws_markIntSS_eq]
  have := upFold (n := a.length) (f := fun (s : List (List Int) × Int) i => laws_markIntSS_l0 s.1 s.2 i) (g := fun k s => (s.1.set k (run s.2 (a.getD k []).length), s.2 + ((a.getD k []).length : Int)))
    (fun k s => s.1.length = a.length ∧ (∀ j, k ≤ j → s.1.getD j [] = a.getD j []) ∧ s.2 = m + (tl (a.take k) : Int)) (fun k s hk hs => by
      obtain ⟨x, y⟩ := s
      simp only at hs
      obtain ⟨h1, h2, h3⟩ := hs
      have t1 := tl_take_succ hk
      have t2 := tl_take_le (T := a) (k + 1)
      refine ⟨?_, ?_, fun j hj => ?_, ?_⟩
      · rw [laws_markIntSS_l0_eq, h1, dec_lt_t hk, inside_lt hk, w64_succ hk (by omega)]
        simp only [cond_true, Int.toNat_natCast]
        rw [h2 k (Nat.le_refl _), markIntS_p (by omega) (by omega)]
        rfl
      · simp [h1]
      · simp only
        rw [List.getD_eq_getElem?_getD, List.getElem?_set_ne (by omega), ← List.getD_eq_getElem?_getD]
        exact h2 j (by omega)
      · simp only
        rw [h3, t1]; omega) (s := (a, m)) ⟨rfl, fun _ _ => rfl, by simp [tl]⟩
  obtain ⟨h1, h2, h3, h4⟩ := this
  simp only at h1
  generalize itr (fun (k : Nat) (s : List (List Int) × Int) => (s.1.set k (run s.2 (a.getD k []).length), s.2 + ((a.getD k []).length : Int))) a.length (a, m) = z at h1 h2 h4
  exact ⟨z.1, h1.trans (by rw [laws_markIntSS_l0_eq, h2, dec_lt_f, h4, List.take_length]; rfl)⟩
theorem listLines_p {T : List (List Int)} (hT : T.length ≤ 1048576) (ht : tl T ≤ 1048576) (h : ∀ r ∈ T, ∀ x ∈ r, I64 x) : spec_ListLines T = some (T.map fd) ∧ impl_ListLines T = some (T.map fd) := by
  constructor
  · rw [spec_ListLines_eq]
    have := upFold (n := T.length) (f := fun s i => spec_ListLines_l0 s T (T.length : Int) i) (g := fun k s => s ++ [fd (T.getD k [])]) (fun k s => s.length = k) (fun k s hk hs => ⟨by
      have hm := getD_mem [] hk
      rw [spec_ListLines_l0_eq, dec_lt_t hk, inside_lt hk, w64_succ hk (by omega)]
      simp only [cond_true, Int.toNat_natCast]
      rw [spec_FormatDivisor_p (Nat.le_trans (tl_mem hm) ht) (h _ hm)]
      simp only [Option.bind_some, List.length_cons, List.length_nil]
      rw [decide_eq_true (by rw [room]; omega)]
      rfl, by simp [hs]⟩) (s := ([] : List ByteArray)) rfl
    refine this.1.trans ?_
    rw [itr_push (fun k => fd (T.getD k [])), map_getD', List.nil_append, spec_ListLines_l0_eq, dec_lt_f]
    rfl
  · rw [impl_ListLines_eq]
    have := upFold (n := T.length) (f := fun s i => impl_ListLines_l0 s T (T.length : Int) i) (g := fun k s => s ++ [fd (T.getD k [])]) (fun k s => s.length = k) (fun k s hk hs => ⟨by
      have hm := getD_mem [] hk
      rw [impl_ListLines_l0_eq, dec_lt_t hk, inside_lt hk, w64_succ hk (by omega)]
      simp only [cond_true, Int.toNat_natCast]
      rw [impl_FormatDivisor_p (Nat.le_trans (tl_mem hm) ht) (h _ hm)]
      simp only [Option.bind_some, List.length_cons, List.length_nil]
      rw [decide_eq_true (by rw [room]; omega)]
      rfl, by simp [hs]⟩) (s := ([] : List ByteArray)) rfl
    refine this.1.trans ?_
    rw [itr_push (fun k => fd (T.getD k [])), map_getD', List.nil_append, impl_ListLines_l0_eq, dec_lt_f]
    rfl
theorem law_ListLines {T : List (List Int)} (hl : T.length ≤ 9223372036854775807) (h : ∀ i, i < T.length → (T.getD i []).length ≤ maxLen ∧ ∀ j, j < (T.getD i []).length → IntKind.i64.min ≤ (T.getD i []).getD j 0 ∧ (T.getD i []).getD j 0 ≤ IntKind.i64.max) : laws_FnExactListLines T = some true := by
  have hm : ∀ r ∈ T, r.length ≤ maxLen ∧ ∀ x ∈ r, I64 x := fun r hr => by
    obtain ⟨i, hi, rfl⟩ := List.mem_iff_getElem.1 hr
    have := h i hi
    rw [getD_lt hi] at this
    exact ⟨this.1, rng_all this.2⟩
  have hm1 : ∀ r ∈ T, r.length ≤ 9223372036854775807 := fun r hr => Nat.le_trans (hm r hr).1 (by decide)
  obtain ⟨r, k1, k2⟩ := szIntSS_p hl hm1 (m := 1048576) (by omega) (by omega)
  rw [laws_FnExactListLines_eq, k1]
  simp only [Option.bind_some]
  by_cases c : r < 0
  · rw [decide_eq_true c]; rfl
  · rw [decide_eq_false c, cond_false]
    obtain ⟨c1, c2⟩ := k2 (by omega)
    obtain ⟨e1, e2⟩ := listLines_p (by omega) (by omega) fun r hr => (hm r hr).2
    have eT : laws_toIntSS T = some T := toIntSS_p (by omega) (fun r hr => Nat.le_trans (tl_mem hr) (by omega))
    have eq1 : laws_eqStringS (T.map fd) (T.map fd) = some true := true_of (eqStringS_p (by simpa using hl)) rfl
    have eq2 : laws_eqIntSS T T = some true := true_of (eqIntSS_p hl hm1) rfl
    obtain ⟨x, e3⟩ := markIntSS_p (a := T) (m := 1) (by omega) hl (by omega)
    have e4 := markStringS_p (a := T.map fd) (m := 1) (by omega) (by simp only [List.length_map]; omega)
    have e5 := heldStringS_p (m := 1) (n := (T.map fd).length) (by omega) (by simp only [List.length_map]; omega)
    have n1 : ¬ ((1 : Int) + (tl T : Int) < 0) := by omega
    have n2 : ¬ ((1 : Int) + ((T.map fd).length : Int) < 0) := by omega
    simp only [eT, Option.bind_some, e1, e2, eq1, eq2, Bool.not_true, cond_false, e3, decide_eq_false n1]
    rw [laws_FnExactListLines_c17_eq]
    simp only [e4, e5, Option.bind_some, decide_eq_false n2, cond_false, bne_self_eq_false, eT, e2, eq1, Bool.not_true]
end Go.Proofs.YtaapeofhcopajaaDoor.D

/-
  The spanning trees that the law file chooses from: there is one, and each of them is one.
-/
import Derived.Test.YthmddgkpebneoaaPureGi
import Derived.Test.YthmddgkpebneoaaPureR
namespace Go.Proofs.Ythmddgkpebneoaa.D
open Go Go.Den
set_option linter.unusedVariables false
set_option linter.unusedSimpArgs false
/-! ### a connected graph has a spanning tree -/
theorem conn_mem {es fs : List (Int × Int)} (h : ∀ e ∈ es, e ∈ fs) {v : Int} (c : Conn es v) : Conn fs v := Conn.mono h c
theorem mem_eds {g : Gr} {t : List Int} {i : Int} (h : i ∈ t) : ed g i.toNat ∈ eds g t := List.mem_map.2 ⟨i, h, rfl⟩
def ins (x : Int) : List Int → List Int
  | [] => [x]
  | y :: l => if x < y then x :: y :: l else y :: ins x l
theorem ins_mem {x z : Int} : ∀ {l : List Int}, z ∈ ins x l ↔ z = x ∨ z ∈ l
  | [] => by simp [ins]
  | y :: l => by
    unfold ins
    split
    · simp
    · simp only [List.mem_cons, ins_mem (l := l)]
      constructor
      · rintro (h | h | h)
        · exact .inr (.inl h)
        · exact .inl h
        · exact .inr (.inr h)
      · rintro (h | h | h)
        · exact .inr (.inl h)
        · exact .inl h
        · exact .inr (.inr h)
theorem ins_len {x : Int} : ∀ {l : List Int}, (ins x l).length = l.length + 1
  | [] => rfl
  | y :: l => by
    unfold ins
    split
    · rfl
    · simp [ins_len (l := l)]
theorem ins_incr {x : Int} : ∀ {l : List Int}, l.Pairwise (· < ·) → x ∉ l → (ins x l).Pairwise (· < ·)
  | [], _, _ => List.pairwise_singleton _ _
  | y :: l, h, hn => by
    rw [List.pairwise_cons] at h
    have hxy : x ≠ y := fun c => hn (c ▸ List.mem_cons_self)
    unfold ins
    split
    · rename_i c
      refine List.pairwise_cons.2 ⟨fun z hz => ?_, List.pairwise_cons.2 h⟩
      rcases List.mem_cons.1 hz with k | k
      · omega
      · have := h.1 z k; omega
    · rename_i c
      refine List.pairwise_cons.2 ⟨fun z hz => ?_, ins_incr h.2 fun c => hn (List.mem_cons_of_mem _ c)⟩
      rcases ins_mem.1 hz with k | k
      · omega
      · exact h.1 z k
/-- a part of the vertices, joined by as few edges as can be -/
structure Gw (g : Gr) (k : Nat) (s C : List Int) : Prop where
  len : s.length = k
  incr : s.Pairwise (· < ·)
  rng : ∀ i ∈ s, 0 ≤ i ∧ i < (g.2.length : Int)
  nd : C.Nodup
  clen : C.length = k + 1
  crng : ∀ v ∈ C, 0 ≤ v ∧ v < g.1
  zero : (0 : Int) ∈ C
  conn : ∀ v ∈ C, Conn (eds g s) v
  ends : ∀ i ∈ s, (ed g i.toNat).1 ∈ C ∧ (ed g i.toNat).2 ∈ C
theorem Gw.more {g : Gr} (hG : GOk g) {k : Nat} {s C : List Int} (W : Gw g k s C) (hk : (k : Int) + 1 < g.1) : ∃ s' C', Gw g (k + 1) s' C' := by
  have cross : ∃ j, j < g.2.length ∧ (((ed g j).1 ∈ C ∧ (ed g j).2 ∉ C) ∨ ((ed g j).2 ∈ C ∧ (ed g j).1 ∉ C)) := by
    apply Classical.byContradiction
    intro hno
    have all : ∀ v, Conn g.2 v → v ∈ C := by
      intro v h
      induction h with
      | zero => exact W.zero
      | @fwd j hj _ ih =>
        apply Classical.byContradiction
        intro c
        exact hno ⟨j, hj, .inl ⟨ih, c⟩⟩
      | @bwd j hj _ ih =>
        apply Classical.byContradiction
        intro c
        exact hno ⟨j, hj, .inr ⟨ih, c⟩⟩
    have hsub : ((List.range (N g)).map fun v : Nat => (v : Int)).length ≤ C.length := nodup_len (List.Pairwise.map _ (fun a b (h : a ≠ b) (c : (a : Int) = (b : Int)) => h (by omega)) List.nodup_range) fun x hx => by
      obtain ⟨v, hv, rfl⟩ := List.mem_map.1 hx
      have := gN hG
      rw [List.mem_range] at hv
      exact all _ (hG.2.2 _ (by omega) (by omega))
    have := gN hG
    have := W.clen
    simp at hsub
    omega
  obtain ⟨j, hj, hc⟩ := cross
  have hed := ed_ok hG hj
  have key : ∀ a b : Int, a ∈ C → b ∉ C → (0 ≤ b ∧ b < g.1) → ((ed g j).1 = a ∧ (ed g j).2 = b ∨ (ed g j).1 = b ∧ (ed g j).2 = a) → ∃ s' C', Gw g (k + 1) s' C' := by
    intro a b ha hb hbr hab
    have hjs : (j : Int) ∉ s := fun c => by
      have := W.ends _ c
      rw [Int.toNat_natCast] at this
      rcases hab with ⟨h1, h2⟩ | ⟨h1, h2⟩
      · rw [h2] at this; exact hb this.2
      · rw [h1] at this; exact hb this.1
    have hmono : ∀ v, Conn (eds g s) v → Conn (eds g (ins (j : Int) s)) v := fun v h => h.mono fun e he => by
      obtain ⟨i, hi, rfl⟩ := List.mem_map.1 he
      exact List.mem_map.2 ⟨i, ins_mem.2 (.inr hi), rfl⟩
    refine ⟨ins (j : Int) s, C ++ [b], ⟨by rw [ins_len, W.len], ins_incr W.incr hjs, fun i hi => ?_, ?_, by simp [W.clen], fun v hv => ?_, List.mem_append_left _ W.zero, fun v hv => ?_, fun i hi => ?_⟩⟩
    · rcases ins_mem.1 hi with rfl | hi
      · omega
      · exact W.rng i hi
    · rw [List.nodup_append]
      exact ⟨W.nd, by simp, fun x hx y hy e => hb (by rw [List.mem_singleton] at hy; rw [← hy, ← e]; exact hx)⟩
    · rcases List.mem_append.1 hv with hv | hv
      · exact W.crng v hv
      · rw [List.mem_singleton.1 hv]; exact hbr
    · rcases List.mem_append.1 hv with hv | hv
      · exact hmono v (W.conn v hv)
      · rw [List.mem_singleton.1 hv]
        have hm : ed g j ∈ eds g (ins (j : Int) s) := by
          have := mem_eds (g := g) (t := ins (j : Int) s) (i := (j : Int)) (ins_mem.2 (.inl rfl))
          rwa [Int.toNat_natCast] at this
        obtain ⟨i, hi, e⟩ := List.getElem_of_mem hm
        have hgi : (eds g (ins (j : Int) s)).getD i (0, 0) = ed g j := by rw [getD_lt hi]; exact e
        have ca := hmono a (W.conn a ha)
        rcases hab with ⟨h1, h2⟩ | ⟨h1, h2⟩
        · have := Conn.fwd (es := eds g (ins (j : Int) s)) hi (by rw [hgi, h1]; exact ca)
          rw [hgi, h2] at this
          exact this
        · have := Conn.bwd (es := eds g (ins (j : Int) s)) hi (by rw [hgi, h2]; exact ca)
          rw [hgi, h1] at this
          exact this
    · rcases ins_mem.1 hi with rfl | hi
      · rw [Int.toNat_natCast]
        rcases hab with ⟨h1, h2⟩ | ⟨h1, h2⟩
        · rw [h1, h2]; exact ⟨List.mem_append_left _ ha, by simp⟩
        · rw [h1, h2]; exact ⟨by simp, List.mem_append_left _ ha⟩
      · have := W.ends i hi
        exact ⟨List.mem_append_left _ this.1, List.mem_append_left _ this.2⟩
  rcases hc with ⟨h1, h2⟩ | ⟨h1, h2⟩
  · exact key _ _ h1 h2 (by omega) (.inl ⟨rfl, rfl⟩)
  · exact key _ _ h1 h2 (by omega) (.inr ⟨rfl, rfl⟩)
theorem tree_ex {g : Gr} (hG : GOk g) : ∃ s : List Int, (s.length : Int) = g.1 - 1 ∧ s.Pairwise (· < ·) ∧ (∀ i ∈ s, 0 ≤ i ∧ i < (g.2.length : Int)) ∧ All (g.1, eds g s) := by
  have hn := gN hG
  have key : ∀ k : Nat, (k : Int) + 1 ≤ g.1 → ∃ s C, Gw g k s C := by
    intro k
    induction k with
    | zero =>
      intro _
      exact ⟨[], [0], ⟨rfl, List.Pairwise.nil, fun i hi => absurd hi List.not_mem_nil, by simp, rfl, fun v hv => by rw [List.mem_singleton.1 hv]; omega, by simp, fun v hv => by rw [List.mem_singleton.1 hv]; exact .zero, fun i hi => absurd hi List.not_mem_nil⟩⟩
    | succ k ih =>
      intro hk
      obtain ⟨s, C, W⟩ := ih (by omega)
      exact W.more hG (by omega)
  obtain ⟨s, C, W⟩ := key (N g - 1) (by omega)
  refine ⟨s, by have := W.len; omega, W.incr, W.rng, fun v h0 h1 => ?_⟩
  have h1' : v < g.1 := h1
  apply Classical.byContradiction
  intro c
  have hv : v ∉ C := fun k => c (W.conn v k)
  have := rng_len (n := g.1) (l := v :: C) (List.nodup_cons.2 ⟨hv, W.nd⟩) fun x hx => by
    rcases List.mem_cons.1 hx with rfl | hx
    · exact ⟨h0, h1'⟩
    · exact W.crng x hx
  have := W.clen
  rcases this with _
  simp at *
  omega
/-! ### the sets of edges -/
def SetOk (n k : Nat) (s : List Int) : Prop := s.length = k ∧ s.Pairwise (· < ·) ∧ ∀ x ∈ s, 0 ≤ x ∧ x < (n : Int)
theorem set_last {n k : Nat} {s : List Int} (h : SetOk n (k + 1) s) : ∃ u x, s = u ++ [x] ∧ SetOk n k u ∧ (∀ y ∈ u, y < x) ∧ 0 ≤ x ∧ x < (n : Int) := by
  have hne : s ≠ [] := fun c => by rw [c] at h; exact absurd h.1 (by simp)
  refine ⟨s.dropLast, s.getLast hne, (List.dropLast_concat_getLast hne).symm, ?_, ?_, h.2.2 _ (List.getLast_mem hne)⟩
  · refine ⟨by rw [List.length_dropLast, h.1]; rfl, h.2.1.sublist (List.dropLast_sublist s), fun x hx => h.2.2 x ((List.dropLast_sublist s).subset hx)⟩
  · intro y hy
    have hp := h.2.1
    rw [← List.dropLast_concat_getLast hne, List.pairwise_append] at hp
    exact hp.2.2 y hy _ (by simp)
theorem sets2_p {n : Nat} (hn : n ≤ 12) {s : List Int} {S : List (List Int)} {j : Nat} (hs : s.length ≤ 12) (hj : j < S.length) (hSl : S.length ≤ 1000000) : ∀ (m i : Nat) (O : List (List Int)), (i + m = n ∨ (m = 0 ∧ n ≤ i)) → i ≤ 13 → O.length + m ≤ 20000000 →
    ∃ O', spec_l03Sets_l2 (n : Int) O s (i : Int) S (S.length : Int) (j : Int) = spec_l03Sets_l0 (n : Int) O' S (S.length : Int) ((j + 1 : Nat) : Int) ∧ O'.length ≤ O.length + m ∧ ∀ t, t ∈ O' ↔ t ∈ O ∨ ∃ x : Int, (i : Int) ≤ x ∧ x < (n : Int) ∧ t = s ++ [x] := by
  intro m
  induction m with
  | zero =>
    intro i O hi h12 hO
    rw [spec_l03Sets_l2_eq, decide_eq_false (by omega), cond_false, w64_succ hj (by omega)]
    exact ⟨O, rfl, by omega, fun t => ⟨fun h => .inl h, fun h => h.elim id fun ⟨x, h1, h2, _⟩ => by omega⟩⟩
  | succ m ih =>
    intro i O hi h12 hO
    have hi' : i < n := by omega
    rw [spec_l03Sets_l2_eq, dec_lt_t hi', cond_true, decide_eq_true (by rw [room]; simp only [List.length_nil]; omega), cond_true, decide_eq_true (by rw [room]; simp only [List.nil_append, List.length_singleton]; omega), cond_true, decide_eq_true (by rw [room]; simp only [List.length_singleton]; omega), cond_true, w64_succ hi' (by omega), List.nil_append]
    obtain ⟨O', h1, h2, h3⟩ := ih (i + 1) (O ++ [s ++ [(i : Int)]]) (by omega) (by omega) (by rw [List.length_append, List.length_singleton]; omega)
    rw [List.length_append, List.length_singleton] at h2
    refine ⟨O', h1, by omega, fun t => (h3 t).trans ?_⟩
    constructor
    · rintro (h | ⟨x, x1, x2, x3⟩)
      · rcases List.mem_append.1 h with h | h
        · exact .inl h
        · exact .inr ⟨(i : Int), by omega, by omega, List.mem_singleton.1 h⟩
      · exact .inr ⟨x, by omega, x2, x3⟩
    · rintro (h | ⟨x, x1, x2, x3⟩)
      · exact .inl (List.mem_append_left _ h)
      · by_cases c : x = (i : Int)
        · exact .inl (List.mem_append_right _ (List.mem_singleton.2 (by rw [x3, c])))
        · exact .inr ⟨x, by omega, x2, x3⟩
theorem incr_last {s : List Int} (h : s.Pairwise (· < ·)) (hn : 0 < s.length) {x : Int} : (∀ y ∈ s, y < x) ↔ s.getD (s.length - 1) 0 < x := by
  have hl : s.length - 1 < s.length := by omega
  rw [getD_lt hl]
  constructor
  · exact fun k => k _ (List.getElem_mem _)
  · intro k y hy
    obtain ⟨i, hi, rfl⟩ := List.getElem_of_mem hy
    by_cases c : i = s.length - 1
    · subst c; exact k
    · have := (List.pairwise_iff_getElem.1 h) i (s.length - 1) hi hl (by omega)
      omega
theorem sets0_p {n k : Nat} (hn : n ≤ 12) (hk : k ≤ 12) {S : List (List Int)} (hS : ∀ s ∈ S, SetOk n k s) (hSl : S.length ≤ 1000000) : ∀ (m j : Nat) (O : List (List Int)), j + m = S.length → O.length ≤ 12 * j →
    ∃ O', spec_l03Sets_l0 (n : Int) O S (S.length : Int) (j : Int) = some O' ∧ O'.length ≤ 12 * S.length ∧ ∀ t, t ∈ O' ↔ t ∈ O ∨ ∃ i, j ≤ i ∧ i < S.length ∧ ∃ x : Int, t = S.getD i [] ++ [x] ∧ (∀ y ∈ S.getD i [], y < x) ∧ 0 ≤ x ∧ x < (n : Int) := by
  intro m
  induction m with
  | zero =>
    intro j O hj hO
    have : j = S.length := by omega
    subst this
    rw [spec_l03Sets_l0_eq, dec_lt_f]
    exact ⟨O, rfl, hO, fun t => ⟨fun h => .inl h, fun h => h.elim id fun ⟨i, h1, h2, _⟩ => by omega⟩⟩
  | succ m ih =>
    intro j O hj hO
    have hj' : j < S.length := by omega
    have hs := hS _ (getD_mem [] hj')
    rw [spec_l03Sets_l0_eq, dec_lt_t hj', inside_lt hj', toNat_n]
    simp only [cond_true]
    generalize hsd : S.getD j [] = s at hs
    have fin : ∀ i : Nat, i ≤ 13 → (∀ x : Int, 0 ≤ x → (((i : Int) ≤ x) ↔ ∀ y ∈ s, y < x)) → ∃ O', spec_l03Sets_l2 (n : Int) O s (i : Int) S (S.length : Int) (j : Int) = some O' ∧ O'.length ≤ 12 * S.length ∧ ∀ t, t ∈ O' ↔ t ∈ O ∨ ∃ i, j ≤ i ∧ i < S.length ∧ ∃ x : Int, t = S.getD i [] ++ [x] ∧ (∀ y ∈ S.getD i [], y < x) ∧ 0 ≤ x ∧ x < (n : Int) := by
      intro i hi hx
      obtain ⟨O1, a1, a2, a3⟩ := sets2_p hn (s := s) (by rw [hs.1]; exact hk) hj' hSl (n - i) i O (by omega) hi (by omega)
      obtain ⟨O2, b1, b2, b3⟩ := ih (j + 1) O1 (by omega) (by omega)
      refine ⟨O2, by rw [a1, b1], b2, fun t => (b3 t).trans ?_⟩
      constructor
      · rintro (h | ⟨i', i1, i2, x, x1, x2, x3⟩)
        · rcases (a3 t).1 h with h | ⟨x, x1, x2, x3⟩
          · exact .inl h
          · have x0 : 0 ≤ x := by omega
            exact .inr ⟨j, Nat.le_refl _, hj', x, by rw [hsd]; exact x3, by rw [hsd]; exact (hx x x0).1 x1, x0, x2⟩
        · exact .inr ⟨i', by omega, i2, x, x1, x2, x3⟩
      · rintro (h | ⟨i', i1, i2, x, x1, x2, x3, x4⟩)
        · exact .inl ((a3 t).2 (.inl h))
        · by_cases c : i' = j
          · subst c
            rw [hsd] at x1 x2
            exact .inl ((a3 t).2 (.inr ⟨x, (hx x x3).2 x2, x4, x1⟩))
          · exact .inr ⟨i', by omega, i2, x, x1, x2, x3, x4⟩
    by_cases c : 0 < s.length
    · rw [decide_eq_true (by omega), cond_true, w64_id (n := (s.length : Int) - 1) (by omega) (by rw [hs.1]; omega), show (s.length : Int) - 1 = ((s.length - 1 : Nat) : Int) by omega, inside_lt (show s.length - 1 < s.length by omega), cond_true, toNat_n]
      have hr := hs.2.2 (s.getD (s.length - 1) 0) (getD_mem 0 (by omega))
      rw [w64_id (n := s.getD (s.length - 1) 0 + 1) (by omega) (by omega)]
      have e : s.getD (s.length - 1) 0 + 1 = (((s.getD (s.length - 1) 0).toNat + 1 : Nat) : Int) := by omega
      rw [e]
      refine fin _ (by omega) fun x hx => ?_
      rw [incr_last hs.2.1 c]
      omega
    · have hs0 : s = [] := List.eq_nil_of_length_eq_zero (by omega)
      rw [decide_eq_false (by omega), cond_false]
      exact fin 0 (by omega) fun x hx => ⟨fun _ y hy => by rw [hs0] at hy; exact absurd hy List.not_mem_nil, fun _ => by omega⟩
theorem sets_p {n : Nat} (hn : n ≤ 12) : ∀ k : Nat, k ≤ 5 → ∃ S, spec_l03Sets (n : Int) (k : Int) = some S ∧ S.length ≤ 12 ^ k ∧ ∀ s, s ∈ S ↔ SetOk n k s := by
  intro k
  induction k with
  | zero =>
    intro _
    refine ⟨[[]], by rw [spec_l03Sets_eq]; rfl, by decide, fun s => ?_⟩
    rw [List.mem_singleton]
    constructor
    · rintro rfl; exact ⟨rfl, List.Pairwise.nil, fun x hx => absurd hx List.not_mem_nil⟩
    · exact fun h => List.eq_nil_of_length_eq_zero h.1
  | succ k ih =>
    intro hk
    obtain ⟨S, s1, s2, s3⟩ := ih (by omega)
    have h5 : 12 ^ k ≤ 12 ^ 4 := Nat.pow_le_pow_right (by decide) (by omega)
    obtain ⟨O, o1, o2, o3⟩ := sets0_p hn (k := k) (by omega) (fun s hs => (s3 s).1 hs) (Nat.le_trans s2 (Nat.le_trans h5 (by decide))) S.length 0 [] (by omega) (by simp)
    refine ⟨O, ?_, by rw [Nat.pow_succ]; omega, fun s => ?_⟩
    · have o1' : spec_l03Sets_l0 (n : Int) [] S (S.length : Int) 0 = some O := o1
      rw [spec_l03Sets_eq, beq_f (by omega), cond_false, w64_id (n := ((k + 1 : Nat) : Int) - 1) (by omega) (by omega), show ((k + 1 : Nat) : Int) - 1 = (k : Int) by omega, s1, Option.bind_some, o1']
    · rw [o3 s]
      constructor
      · rintro (h | ⟨i, _, i2, x, x1, x2, x3, x4⟩)
        · exact absurd h List.not_mem_nil
        · have hu := (s3 _).1 (getD_mem [] i2)
          subst x1
          refine ⟨by rw [List.length_append, hu.1]; rfl, ?_, fun y hy => ?_⟩
          · rw [List.pairwise_append]
            exact ⟨hu.2.1, List.pairwise_singleton _ _, fun y hy z hz => by rw [List.mem_singleton.1 hz]; exact x2 y hy⟩
          · rcases List.mem_append.1 hy with hy | hy
            · exact hu.2.2 y hy
            · rw [List.mem_singleton.1 hy]; exact ⟨x3, x4⟩
      · intro h
        obtain ⟨u, x, rfl, u1, u2, u3, u4⟩ := set_last h
        obtain ⟨i, hi, e⟩ := List.getElem_of_mem ((s3 u).2 u1)
        refine .inr ⟨i, Nat.zero_le _, hi, x, ?_, ?_, u3, u4⟩
        · rw [getD_lt hi, e]
        · rw [getD_lt hi, e]; exact u2
/-! ### the trees of a graph -/
theorem trees0_p {g : Gr} (hG : GOk g) {k : Nat} (hk : k ≤ 12) {S : List (List Int)} (hS : ∀ s ∈ S, SetOk g.2.length k s) (hSl : S.length ≤ 1000000) : ∀ (m j : Nat) (O : List (List Int)), j + m = S.length → O.length ≤ j →
    ∃ T, spec_TreesOf_l0 g O S (S.length : Int) (j : Int) = some (T, true) ∧ T.length ≤ S.length ∧ (∀ t ∈ T, t ∈ O ∨ (t ∈ S ∧ All (g.1, eds g t))) ∧ (∀ t ∈ O, t ∈ T) ∧ ∀ i, j ≤ i → i < S.length → All (g.1, eds g (S.getD i [])) → S.getD i [] ∈ T := by
  intro m
  induction m with
  | zero =>
    intro j O hj hO
    have : j = S.length := by omega
    subst this
    rw [spec_TreesOf_l0_eq, dec_lt_f]
    exact ⟨O, rfl, hO, fun t h => .inl h, fun t h => h, fun i h1 h2 => by omega⟩
  | succ m ih =>
    intro j O hj hO
    have hj' : j < S.length := by omega
    have hs := hS _ (getD_mem [] hj')
    have hE : InE g (S.getD j []) := fun i hi => hs.2.2 _ (getD_mem 0 hi)
    obtain ⟨b, b1, b2⟩ := joins_p hG.1 hE (by rw [hs.1]; exact hk)
    rw [spec_TreesOf_l0_eq, dec_lt_t hj', inside_lt hj', toNat_n, b1, w64_succ hj' (by omega)]
    simp only [cond_true, Option.bind_some]
    cases b with
    | true =>
      rw [cond_true, decide_eq_true (by rw [room]; simp only [List.length_singleton]; omega), cond_true]
      obtain ⟨T, t1, t2, t3, t4, t5⟩ := ih (j + 1) (O ++ [S.getD j []]) (by omega) (by rw [List.length_append, List.length_singleton]; omega)
      refine ⟨T, t1, t2, fun t ht => ?_, fun t ht => t4 t (List.mem_append_left _ ht), fun i h1 h2 h3 => ?_⟩
      · rcases t3 t ht with h | h
        · rcases List.mem_append.1 h with h | h
          · exact .inl h
          · rw [List.mem_singleton.1 h]; exact .inr ⟨getD_mem [] hj', b2.1 rfl⟩
        · exact .inr h
      · by_cases c : i = j
        · subst c; exact t4 _ (by simp)
        · exact t5 i (by omega) h2 h3
    | false =>
      rw [cond_false]
      obtain ⟨T, t1, t2, t3, t4, t5⟩ := ih (j + 1) O (by omega) (by omega)
      refine ⟨T, t1, t2, t3, t4, fun i h1 h2 h3 => ?_⟩
      by_cases c : i = j
      · subst c
        have := b2.2 h3
        cases this
      · exact t5 i (by omega) h2 h3
end Go.Proofs.Ythmddgkpebneoaa.D

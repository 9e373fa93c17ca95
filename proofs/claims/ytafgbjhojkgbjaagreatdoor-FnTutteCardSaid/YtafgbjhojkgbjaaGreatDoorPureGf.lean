/-
  The law file's graphs and divisors are valid.
-/
import Derived.Test.YtafgbjhojkgbjaaGreatDoorPureGe
namespace Go.Proofs.YtafgbjhojkgbjaaGreatDoor.D
open Go Go.Den
set_option linter.unusedVariables false
set_option linter.unusedSimpArgs false
/-- each later vertex has one edge, to an earlier one -/
def Tr (es : List (Int × Int)) : Prop := ∀ j : Nat, j < es.length → (es.getD j (0, 0)).2 = (j : Int) + 1 ∧ 0 ≤ (es.getD j (0, 0)).1 ∧ (es.getD j (0, 0)).1 ≤ (j : Int)
theorem tree_mul {n : Nat} {es : List (Int × Int)} (ht : Tr es) (hl : es.length + 1 = n) (hn : n ≤ 6) {a b : Nat} (hab : a < b) (hb : b < n) : spec_Multiplicity ((n : Int), es) (a : Int) (b : Int) = some (if (es.getD (b - 1) (0, 0)).1 = (a : Int) then 1 else 0) := by
  have vert : ∀ v : Nat, v < n → spec_l02Vert ((n : Int), es) (v : Int) = some true := fun v hv => by
    rw [spec_l02Vert_eq, decide_eq_true (by omega), cond_true, decide_eq_true (by show (v : Int) < (n : Int); omega)]
  rw [spec_Multiplicity_eq, vert a (by omega), vert b hb]
  simp only [Option.bind_some, Bool.not_true, cond_false]
  rw [beq_f (show ¬ (a : Int) = (b : Int) by omega), cond_false]
  have := upFold (n := es.length) (f := fun s i => spec_Multiplicity_l0 (a : Int) (b : Int) s es (es.length : Int) i) (g := fun k s => if b ≤ k + 1 ∧ (es.getD (b - 1) (0, 0)).1 = (a : Int) then 1 else 0) (fun k s => s = if b ≤ k ∧ (es.getD (b - 1) (0, 0)).1 = (a : Int) then 1 else 0) (fun k s hk hs => ⟨by
    obtain ⟨q1, q2, q3⟩ := ht k hk
    subst hs
    rw [spec_Multiplicity_l0_eq, dec_lt_t hk, inside_lt hk, toNat_n, w64_succ hk (by omega), imin_n, imax_n, q1, show min a b = a by omega, show max a b = b by omega]
    simp only [cond_true]
    by_cases c1 : b = k + 1
    · have e : b - 1 = k := by omega
      rw [e, if_neg (show ¬ (b ≤ k ∧ (es.getD k (0, 0)).1 = (a : Int)) by omega)]
      by_cases c2 : (es.getD k (0, 0)).1 = (a : Int)
      · rw [beq_t c2, beq_t (show (k : Int) + 1 = (b : Int) by omega), if_pos ⟨by omega, c2⟩]; rfl
      · rw [beq_f c2, if_neg (fun h => c2 h.2)]; rfl
    · have e2 : (if b ≤ k + 1 ∧ (es.getD (b - 1) (0, 0)).1 = (a : Int) then (1 : Int) else 0) = if b ≤ k ∧ (es.getD (b - 1) (0, 0)).1 = (a : Int) then 1 else 0 := by
        by_cases c : b ≤ k
        · have : b ≤ k + 1 := by omega
          simp only [c, this]
        · have : ¬ b ≤ k + 1 := by omega
          simp only [c, this, false_and]
      rw [e2, beq_f (show ¬ (k : Int) + 1 = (b : Int) by omega)]
      cases (es.getD k (0, 0)).1 == (a : Int) <;> rfl, rfl⟩) (s := 0) (by rw [if_neg (by omega)])
  refine this.1.trans ?_
  rw [this.2, spec_Multiplicity_l0_eq, dec_lt_f, cond_false]
  congr 1
  have : b ≤ es.length := by omega
  simp only [this, true_and]
/-- the sorted copy, up to a pair -/
structure HI (es : List (Int × Int)) (n : Nat) (a b : Int) (hs : List (Int × Int)) : Prop where
  srt : hs.Pairwise Lt
  ok : ∀ e ∈ hs, EdOk n e ∧ Lt e (a, b)
  all : ∀ j : Nat, j < es.length → Lt (es.getD j (0, 0)) (a, b) → es.getD j (0, 0) ∈ hs
theorem HI.len {es : List (Int × Int)} {n : Nat} (hn : n ≤ 4) {a b : Int} {hs : List (Int × Int)} (h : HI es n a b hs) : hs.length ≤ 6 := by
  have hnd : hs.Nodup := List.Pairwise.imp (fun {a b} (hab : Lt a b) (e : a = b) => Lt.irrefl (a := b) (by rw [e] at hab; exact hab)) h.srt
  refine nodup_len (m := [(0, 1), (0, 2), (0, 3), (1, 2), (1, 3), (2, 3)]) hnd fun e he => ?_
  obtain ⟨h1, h2, h3⟩ := (h.ok e he).1
  obtain ⟨u, v⟩ := e
  simp only at h1 h2 h3
  have hu : u = 0 ∨ u = 1 ∨ u = 2 := by omega
  have hv : v = 1 ∨ v = 2 ∨ v = 3 := by omega
  rcases hu with rfl | rfl | rfl <;> rcases hv with rfl | rfl | rfl <;> first | (exfalso; omega) | simp
theorem HI.skip {es : List (Int × Int)} {n : Nat} {a b : Nat} {hs : List (Int × Int)} (ht : Tr es) (h : HI es n a b hs) (hb : 1 ≤ b) (hne : ¬ (es.getD (b - 1) (0, 0)).1 = (a : Int)) : HI es n a ((b : Int) + 1) hs := by
  refine ⟨h.srt, fun e he => ⟨(h.ok e he).1, ?_⟩, fun j hj hlt => h.all j hj ?_⟩
  · have := (h.ok e he).2
    unfold Lt at *; simp only at *; omega
  · obtain ⟨q1, q2, q3⟩ := ht j hj
    unfold Lt at *
    simp only at *
    rcases hlt with k | ⟨k1, k2⟩
    · exact .inl k
    · refine .inr ⟨k1, ?_⟩
      by_cases c : j = b - 1
      · subst c; exact absurd k1 hne
      · omega
theorem HI.put {es : List (Int × Int)} {n : Nat} {a b : Nat} {hs : List (Int × Int)} (ht : Tr es) (h : HI es n a b hs) (hab : a < b) (hb : b < n) (he : (es.getD (b - 1) (0, 0)).1 = (a : Int)) : HI es n a ((b : Int) + 1) (hs ++ [((a : Int), (b : Int))]) := by
  refine ⟨?_, fun e he => ?_, fun j hj hlt => ?_⟩
  · rw [List.pairwise_append]
    exact ⟨h.srt, List.pairwise_singleton _ _, fun x hx y hy => by rw [List.mem_singleton.1 hy]; exact (h.ok x hx).2⟩
  · rcases List.mem_append.1 he with he | he
    · refine ⟨(h.ok e he).1, ?_⟩
      have := (h.ok e he).2
      unfold Lt at *; simp only at *; omega
    · rw [List.mem_singleton.1 he]
      exact ⟨⟨by show (0 : Int) ≤ (a : Int); omega, by show (a : Int) < (b : Int); omega, by show (b : Int) < (n : Int); omega⟩, .inr ⟨rfl, by show (b : Int) < (b : Int) + 1; omega⟩⟩
  · obtain ⟨q1, q2, q3⟩ := ht j hj
    by_cases c : j = b - 1
    · subst c
      refine List.mem_append_right _ (List.mem_singleton.2 (Prod.ext he ?_))
      rw [q1]; show ((b - 1 : Nat) : Int) + 1 = (b : Int); omega
    · refine List.mem_append_left _ (h.all j hj ?_)
      unfold Lt at *
      simp only at *
      rcases hlt with k | ⟨k1, k2⟩
      · exact .inl k
      · exact .inr ⟨k1, by omega⟩
theorem HI.row {es : List (Int × Int)} {n : Nat} {a : Nat} {hs : List (Int × Int)} (ht : Tr es) (hl : es.length + 1 = n) (h : HI es n a n hs) : HI es n ((a + 1 : Nat) : Int) (((a + 1 : Nat) : Int) + 1) hs := by
  refine ⟨h.srt, fun e he => ⟨(h.ok e he).1, ?_⟩, fun j hj hlt => h.all j hj ?_⟩
  · have := (h.ok e he).2
    unfold Lt at *; simp only at *; omega
  · obtain ⟨q1, q2, q3⟩ := ht j hj
    unfold Lt at *
    simp only at *
    omega
theorem draw4 {c : Cur} {x4 : Gr} {es : List (Int × Int)} {n : Nat} (ht : Tr es) (hl : es.length + 1 = n) (hn : n ≤ 4) {a : Nat} : ∀ (m b : Nat) (hs : List (Int × Int)), b + m = n → a < b → HI es n a b hs →
    ∃ hs', spec_l02Draw_l4 c x4 ((n : Int), es) (n : Int) ((n : Int), hs) (a : Int) (b : Int) = spec_l02Draw_l4 c x4 ((n : Int), es) (n : Int) ((n : Int), hs') (a : Int) (n : Int) ∧ HI es n a n hs' := by
  intro m
  induction m with
  | zero =>
    intro b hs hb hab h
    have : b = n := by omega
    subst this
    exact ⟨hs, rfl, h⟩
  | succ m ih =>
    intro b hs hb hab h
    have hb' : b < n := by omega
    have hlen := h.len hn
    rw [spec_l02Draw_l4_eq, dec_lt_t hb', cond_true, tree_mul ht hl (by omega) hab hb', Option.bind_some]
    by_cases c1 : (es.getD (b - 1) (0, 0)).1 = (a : Int)
    · rw [if_pos c1, spec_l02Draw_l6_eq, show (decide ((1 : Int) > 0)) = true from rfl, cond_true, decide_eq_true (by rw [room]; simp only [List.length_singleton]; omega), cond_true, show w64 ((1 : Int) - 1) = 0 from rfl, spec_l02Draw_l6_eq, show (decide ((0 : Int) > 0)) = false from rfl, cond_false, w64_succ hb' (by omega)]
      exact ih (b + 1) _ (by omega) (by omega) (h.put ht hab hb' c1)
    · rw [if_neg c1, spec_l02Draw_l6_eq, show (decide ((0 : Int) > 0)) = false from rfl, cond_false, w64_succ hb' (by omega)]
      exact ih (b + 1) _ (by omega) (by omega) (h.skip ht (by omega) c1)
theorem draw2 {c : Cur} {x4 : Gr} {es : List (Int × Int)} {n : Nat} (ht : Tr es) (hl : es.length + 1 = n) (hn : n ≤ 4) : ∀ (m a : Nat) (hs : List (Int × Int)), a + m = n → HI es n a ((a : Int) + 1) hs →
    ∃ hs', spec_l02Draw_l2 c x4 ((n : Int), es) (n : Int) ((n : Int), hs) (a : Int) = spec_l02Draw_l2 c x4 ((n : Int), es) (n : Int) ((n : Int), hs') (n : Int) ∧ HI es n n ((n : Int) + 1) hs' := by
  intro m
  induction m with
  | zero =>
    intro a hs ha h
    have : a = n := by omega
    subst this
    exact ⟨hs, rfl, h⟩
  | succ m ih =>
    intro a hs ha h
    have ha' : a < n := by omega
    rw [spec_l02Draw_l2_eq, dec_lt_t ha', cond_true, w64_succ ha' (by omega)]
    obtain ⟨hs1, e1, h1⟩ := draw4 (c := c) (x4 := x4) ht hl hn (n - (a + 1)) (a + 1) hs (by omega) (by omega) h
    rw [e1, spec_l02Draw_l4_eq, dec_lt_f, cond_false, w64_succ ha' (by omega)]
    exact ih (a + 1) hs1 (by omega) (h1.row ht hl)
theorem draw8 {x4 : Gr} {n : Nat} (hn1 : 2 ≤ n) (hn : n ≤ 4) : ∀ (k : Nat) (c : Cur) (g : Gr), k ≤ 100 → CurOk c → GOk g → g.1 = (n : Int) → ∃ g' c', spec_l02Draw_l8 c x4 (n : Int) g (k : Int) = some (g', c') ∧ GOk g' ∧ g'.1 = (n : Int) ∧ CurOk c' := by
  intro k
  induction k with
  | zero =>
    intro c g _ hc hg hgn
    rw [spec_l02Draw_l8_eq, decide_eq_false (by omega)]
    exact ⟨g, c, rfl, hg, hgn, hc⟩
  | succ k ih =>
    intro c g hk hc hg hgn
    obtain ⟨x, c1, a1, a2, a3⟩ := below_p hc (n := (n : Int)) (by omega) (by omega)
    obtain ⟨y, c2, b1, b2, b3⟩ := below_p a3 (n := w64 ((n : Int) - 1)) (by rw [w64_id (by omega) (by omega)]; omega) (by rw [w64_id (by omega) (by omega)]; omega)
    rw [spec_l02Draw_l8_eq, decide_eq_true (by omega), cond_true, a1, Option.bind_some]
    simp only
    rw [b1, Option.bind_some, decide_eq_false (by omega), cond_false]
    obtain ⟨r, r1, r2⟩ := addEdge_p hg (a := x) (b := Int.tmod (w64 ((w64 (x + 1)) + y)) (n : Int))
    simp only
    rw [r1, Option.bind_some, w64_id (n := ((k + 1 : Nat) : Int) - 1) (by omega) (by omega), show ((k + 1 : Nat) : Int) - 1 = (k : Int) by omega]
    cases hr : r.2 with
    | true =>
      obtain ⟨q1, q2⟩ := r2 hr
      exact ih c2 r.1 (by omega) b3 q1 (by rw [q2, hgn])
    | false => exact ih c2 g (by omega) b3 hg hgn
theorem small_p {l : List Int} (h : l.length ≤ 1048576) : ∃ g, spec_MakeSmall l = some g ∧ GOk g ∧ 2 ≤ g.1 ∧ g.1 ≤ 4 := by
  obtain ⟨c, c1, c2⟩ := new_p h
  obtain ⟨r, c', r1, r2, r3⟩ := below_p c2 (n := 3) (by omega) (by omega)
  rw [spec_MakeSmall_eq, c1, Option.bind_some, spec_l02Draw_eq, show w64 ((4 : Int) - 1) = 3 from rfl, r1, Option.bind_some]
  obtain ⟨n, hn⟩ : ∃ n : Nat, 2 + r = (n : Int) := ⟨(2 + r).toNat, by omega⟩
  simp only
  rw [w64_id (by omega) (by omega), hn]
  have tree : ∀ (m k : Nat) (c : Cur) (es : List (Int × Int)), k + m = n → 1 ≤ k → CurOk c → Tr es → es.length + 1 = k → ∃ c' es', spec_l02Draw_l0 c (0, []) ((k : Int), es) (n : Int) (k : Int) = spec_l02Draw_l2 c' (0, []) ((n : Int), es') (n : Int) ((n : Int), []) 0 ∧ CurOk c' ∧ Tr es' ∧ es'.length + 1 = n := by
    intro m
    induction m with
    | zero =>
      intro k c es hk hk1 hc ht hl
      have : k = n := by omega
      subst this
      rw [spec_l02Draw_l0_eq, dec_lt_f]
      exact ⟨c, es, rfl, hc, ht, hl⟩
    | succ m ih =>
      intro k c es hk hk1 hc ht hl
      have hk' : k < n := by omega
      obtain ⟨x, c', a1, a2, a3⟩ := below_p hc (n := (k : Int)) (by omega) (by omega)
      rw [spec_l02Draw_l0_eq, dec_lt_t hk', cond_true, a1, Option.bind_some, decide_eq_true (by rw [room]; simp only [List.length_singleton]; omega), cond_true, w64_succ hk' (by omega)]
      refine ih (k + 1) c' _ (by omega) (by omega) a3 (fun j hj => ?_) (by rw [List.length_append]; simp only [List.length_singleton]; omega)
      have hj : j < es.length + 1 := by simpa using hj
      rcases Nat.lt_or_ge j es.length with q | q
      · rw [getD_appL q]; exact ht j q
      · have : j = es.length := by omega
        subst this
        rw [List.getD_eq_getElem?_getD, List.getElem?_append_right (Nat.le_refl _), Nat.sub_self]
        refine ⟨by show (k : Int) = _; omega, by show 0 ≤ x; omega, by show x ≤ _; omega⟩
  obtain ⟨c2', es, e1, e2, e3, e4⟩ := tree (n - 1) 1 c' [] (by omega) (Nat.le_refl _) r3 (fun j hj => absurd hj (Nat.not_lt_zero j)) rfl
  obtain ⟨hs, h1, h2⟩ := draw2 (c := c2') (x4 := (0, [])) e3 e4 (by omega) n 0 [] (by omega) ⟨List.Pairwise.nil, fun e he => (List.not_mem_nil he).elim, fun j hj hlt => by
    obtain ⟨q1, q2, q3⟩ := e3 j hj
    unfold Lt at hlt
    simp only at hlt
    omega⟩
  have hG : GOk ((n : Int), hs) := by
    refine ⟨⟨⟨by show 1 ≤ (n : Int); omega, by show (n : Int) ≤ 6; omega⟩, Nat.le_trans (h2.len (by omega)) (by decide), fun j hj => (h2.ok _ (getD_mem (0, 0) hj)).1⟩, pair_srt (h2.srt.imp fun {a b} hab k => Lt.irrefl (Lt.trans hab k)), fun v h0 hv => ?_⟩
    have key : ∀ (m v : Nat), v ≤ m → v < n → Conn hs (v : Int) := by
      intro m
      induction m with
      | zero => intro v hv _; rw [show v = 0 by omega]; exact .zero
      | succ m ih =>
        intro v hv hvn
        rcases Nat.eq_zero_or_pos v with k | k
        · rw [k]; exact .zero
        · obtain ⟨q1, q2, q3⟩ := e3 (v - 1) (by omega)
          have hm := h2.all (v - 1) (by omega) (by unfold Lt; simp only; omega)
          obtain ⟨i, hi, e⟩ := List.getElem_of_mem hm
          have hgi : hs.getD i (0, 0) = es.getD (v - 1) (0, 0) := by rw [getD_lt hi]; exact e
          have hu := ih (es.getD (v - 1) (0, 0)).1.toNat (by omega) (by omega)
          rw [show (((es.getD (v - 1) (0, 0)).1.toNat : Nat) : Int) = (es.getD (v - 1) (0, 0)).1 by omega, ← hgi] at hu
          have := Conn.fwd hi hu
          rw [hgi, q1, show ((v - 1 : Nat) : Int) + 1 = (v : Int) by omega] at this
          exact this
    have := key v.toNat v.toNat (Nat.le_refl _) (by show v.toNat < n; have : v < (n : Int) := hv; omega)
    rwa [show ((v.toNat : Nat) : Int) = v by omega] at this
  obtain ⟨x, c3, a1, a2, a3⟩ := below_p e2 (n := 5) (by omega) (by omega)
  obtain ⟨g', c4, b1, b2, b3, b4⟩ := draw8 (x4 := (0, [])) (n := n) (by omega) (by omega) x.toNat c3 _ (by omega) a3 hG rfl
  rw [show ((x.toNat : Nat) : Int) = x by omega] at b1
  have e1' : spec_l02Draw_l0 c' (0, []) (1, []) (n : Int) 1 = _ := e1
  have h1' : spec_l02Draw_l2 c2' (0, []) ((n : Int), es) (n : Int) ((n : Int), []) 0 = _ := h1
  rw [e1', h1', spec_l02Draw_l2_eq, dec_lt_f, cond_false, a1, Option.bind_some]
  simp only
  rw [b1]
  exact ⟨g', rfl, b2, by rw [b3]; omega, by rw [b3]; omega⟩
/-! ### divisors -/
end Go.Proofs.YtafgbjhojkgbjaaGreatDoor.D

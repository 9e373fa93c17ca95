/-
  What the law file draws for morphisms: numbers; graphs of up to five vertices and eight edges.
-/
import Derived.Test.YtgncajnfphlgeaaPureRb
import Derived.Test.YtgncajnfphlgeaaPureH
namespace Go.Proofs.Ytgncajnfphlgeaa.D
open Go Go.Den
set_option linter.unusedVariables false
set_option linter.unusedSimpArgs false
theorem getD_appL {α : Type} {d : α} {l t : List α} {i : Nat} (h : i < l.length) : (l ++ t).getD i d = l.getD i d := by
  rw [List.getD_eq_getElem?_getD, List.getD_eq_getElem?_getD, List.getElem?_append_left h]
theorem take_succ {α : Type} (d : α) {l : List α} {k : Nat} (h : k < l.length) : l.take (k + 1) = l.take k ++ [l.getD k d] := by
  rw [List.take_add_one, List.getD_eq_getElem?_getD, List.getElem?_eq_getElem h]; rfl
abbrev Cur : Type := List Int × Int × Int
def CurOk (c : Cur) : Prop := 0 ≤ c.2.1 ∧ c.2.1 ≤ (c.1.length : Int) ∧ c.1.length ≤ 1048576
theorem and255 (x : Int) : 0 ≤ bits .and .i64 x 255 ∧ bits .and .i64 x 255 ≤ 255 := by
  have e : bits .and .i64 x 255 = (((BitVec.ofInt 64 x &&& BitVec.ofInt 64 255).toNat : Nat) : Int) := by
    have h : (BitVec.ofInt 64 x &&& BitVec.ofInt 64 255).toNat ≤ 255 := by
      rw [BitVec.toNat_and]
      have : (BitVec.ofInt 64 255).toNat = 255 := by decide
      rw [this]
      exact Nat.and_le_right
    show ((bitsD .and .i64 x 255).getD 0) = _
    simp only [bitsD, Option.getD_some]
    show IntKind.i64.wrap ((((BitVec.ofInt 64 x) &&& (BitVec.ofInt 64 255)).toNat : Nat) : Int) = _
    exact w64_id (by omega) (by omega)
  have h : (BitVec.ofInt 64 x &&& BitVec.ofInt 64 255).toNat ≤ 255 := by
    rw [BitVec.toNat_and]
    have : (BitVec.ofInt 64 255).toNat = 255 := by decide
    rw [this]
    exact Nat.and_le_right
  rw [e]; omega
theorem byte_p {c : Cur} (hc : CurOk c) : ∃ x c', spec_l01Byte c = some (x, c') ∧ (0 ≤ x ∧ x ≤ 255) ∧ CurOk c' := by
  obtain ⟨h1, h2, h3⟩ := hc
  rw [spec_l01Byte_eq]
  by_cases k : c.2.1 < (c.1.length : Int)
  · rw [decide_eq_true k, cond_true, inside_int h1 k, cond_true, spec_l01Byte_c5_eq]
    refine ⟨_, _, rfl, and255 _, ?_⟩
    simp only
    rw [w64_id (by omega) (by omega)]
    exact ⟨by show 0 ≤ c.2.1 + 1; omega, by show c.2.1 + 1 ≤ (c.1.length : Int); omega, h3⟩
  · rw [decide_eq_false k, cond_false]
    exact ⟨_, _, rfl, and255 _, h1, h2, h3⟩
theorem below_p {c : Cur} (hc : CurOk c) {n : Int} (h1 : 1 ≤ n) (h2 : n ≤ 256) : ∃ x c', spec_l01Below c n = some (x, c') ∧ (0 ≤ x ∧ x < n) ∧ CurOk c' := by
  obtain ⟨x, c', k1, k2, k3⟩ := byte_p hc
  rw [spec_l01Below_eq, decide_eq_false (by omega), decide_eq_true h2, k1]
  simp only [cond_false, cond_true, Option.bind_some]
  rw [decide_eq_false (by omega)]
  exact ⟨_, _, rfl, ⟨Int.tmod_nonneg _ k2.1, Int.tmod_lt_of_pos _ (by omega)⟩, k3⟩
theorem new_p {l : List Int} (h : l.length ≤ 1048576) : ∃ c, spec_l01New l = some c ∧ CurOk c := by
  rw [spec_l01New_eq]
  have key : ∀ (m k : Nat) (x : Int), k + m = l.length → ∃ c, spec_l01New_l0 l x (k : Int) = some c ∧ CurOk c := by
    intro m
    induction m with
    | zero =>
      intro k x hk
      have : k = l.length := by omega
      subst this
      rw [spec_l01New_l0_eq, dec_lt_f]
      exact ⟨_, rfl, by show (0 : Int) ≤ 0; omega, by show (0 : Int) ≤ _; omega, h⟩
    | succ m ih =>
      intro k x hk
      have hk' : k < l.length := by omega
      rw [spec_l01New_l0_eq, dec_lt_t hk', cond_true, inside_lt hk', w64_succ hk' (by omega)]
      cases decide ((k : Int) < 4000) with
      | false => exact ⟨_, rfl, by show (0 : Int) ≤ 0; omega, by show (0 : Int) ≤ _; omega, h⟩
      | true => exact ih (k + 1) _ (by omega)
  exact key l.length 0 _ (by omega)
theorem skip_p {l : List Int} (h : l.length ≤ 1048576) {n : Nat} (hn : n ≤ 1000) : ∃ c, spec_l21New l (n : Int) = some c ∧ CurOk c := by
  obtain ⟨c, c1, c2⟩ := new_p h
  rw [spec_l21New_eq, c1, Option.bind_some]
  have key : ∀ (m k : Nat) (c : Cur), k + m = n → CurOk c → ∃ c', spec_l21New_l0 (n : Int) (k : Int) c = some c' ∧ CurOk c' := by
    intro m
    induction m with
    | zero =>
      intro k c hk hc
      have : k = n := by omega
      subst this
      rw [spec_l21New_l0_eq, dec_lt_f]
      exact ⟨c, rfl, hc⟩
    | succ m ih =>
      intro k c hk hc
      have hk' : k < n := by omega
      obtain ⟨x, c', k1, _, k3⟩ := byte_p hc
      rw [spec_l21New_l0_eq, dec_lt_t hk', cond_true, k1, Option.bind_some, w64_succ hk' (by omega)]
      exact ih (k + 1) c' (by omega) k3
  exact key n 0 c (by omega) c2
theorem Lt.trans {a b c : Int × Int} (h1 : Lt a b) (h2 : Lt b c) : Lt a c := by
  unfold Lt at *; omega
theorem Lt.irrefl {a : Int × Int} : ¬ Lt a a := by unfold Lt; omega
theorem Lt.not {a b c : Int × Int} (h1 : ¬ Lt b a) (h2 : ¬ Lt c b) : ¬ Lt c a := by
  unfold Lt at *; omega
theorem srt_pair {l : List (Int × Int)} (h : Srt l) : l.Pairwise fun a b => ¬ Lt b a := by
  rw [List.pairwise_iff_getElem]
  intro i j hi hj hij
  have key : ∀ d i, (hi : i < l.length) → (hj : i + d + 1 < l.length) → ¬ Lt l[i + d + 1] l[i] := fun d => by
    induction d with
    | zero =>
      intro i hi hj
      have := h i hj
      rw [getD_lt hj, getD_lt hi] at this
      exact this
    | succ d ih =>
      intro i hi hj
      have h1 := ih i hi (by omega)
      have h2 := h (i + d + 1) (by omega)
      rw [getD_lt (show i + d + 1 + 1 < l.length by omega), getD_lt (show i + d + 1 < l.length by omega)] at h2
      exact Lt.not h1 h2
  have := key (j - i - 1) i hi (by omega)
  have e : i + (j - i - 1) + 1 = j := by omega
  simp only [e] at this
  exact this
theorem pair_srt {l : List (Int × Int)} (h : l.Pairwise fun a b => ¬ Lt b a) : Srt l := fun j hj => by
  rw [List.pairwise_iff_getElem] at h
  rw [getD_lt hj, getD_lt (show j < l.length by omega)]
  exact h j (j + 1) (by omega) hj (by omega)
theorem Conn.mono {es fs : List (Int × Int)} (h : ∀ e ∈ es, e ∈ fs) {v : Int} (c : Conn es v) : Conn fs v := by
  have step : ∀ j, j < es.length → ∃ i, i < fs.length ∧ fs.getD i (0, 0) = es.getD j (0, 0) := fun j hj => by
    obtain ⟨i, hi, e⟩ := List.getElem_of_mem (h _ (getD_mem (0, 0) hj))
    exact ⟨i, hi, by rw [getD_lt hi]; exact e⟩
  induction c with
  | zero => exact .zero
  | fwd hj _ ih =>
    obtain ⟨i, hi, e⟩ := step _ hj
    rw [← e] at ih ⊢
    exact .fwd hi ih
  | bwd hj _ ih =>
    obtain ⟨i, hi, e⟩ := step _ hj
    rw [← e] at ih ⊢
    exact .bwd hi ih
/-- a graph with one more edge -/
theorem addEdge_p {g : Gr} (hg : GOk g) {a b : Int} : ∃ r, spec_AddEdge g a b = some r ∧ (r.2 = true → GOk r.1 ∧ r.1.1 = g.1 ∧ r.1.2.length ≤ g.2.length + 1) := by
  have hn := gN hg
  have h12 := hg.1.2.1
  obtain ⟨q, p1, p2, p3⟩ := graphOk_p (g := g) (by omega)
  have hq := p3.2 hg
  subst hq
  rw [spec_AddEdge_eq, p1]
  simp only [Option.bind_some, Bool.not_true, cond_false, in_p]
  rw [w64_id (n := g.1 - 1) (by omega) (by omega)]
  by_cases c1 : 0 ≤ a ∧ a ≤ g.1 - 1
  · rw [decide_eq_true c1]
    by_cases c2 : 0 ≤ b ∧ b ≤ g.1 - 1
    · rw [decide_eq_true c2]
      by_cases c3 : a = b
      · rw [beq_t c3]; exact ⟨_, rfl, fun h => by cases h⟩
      · rw [beq_f c3]
        by_cases c4 : (g.2.length : Int) = 12
        · rw [beq_t c4]; exact ⟨_, rfl, fun h => by cases h⟩
        · rw [beq_f c4, spec_AddEdge_c4_eq]
          simp only [Bool.not_true, cond_false]
          let e : Int × Int := (imin a b, imax a b)
          have he : EdOk g.1 e := by
            show 0 ≤ imin a b ∧ imin a b < imax a b ∧ imax a b < g.1
            unfold imin imax
            split <;> split <;> omega
          have hs := srt_pair hg.2.1
          have fin : ∀ p, p ≤ g.2.length → (∀ j, j < p → ¬ Lt e (g.2.getD j (0, 0))) → (p < g.2.length → Lt e (g.2.getD p (0, 0))) → GOk (g.1, g.2.take p ++ e :: g.2.drop p) := fun p hp hlo hhi => by
            have mem : ∀ x ∈ g.2.take p ++ e :: g.2.drop p, x = e ∨ x ∈ g.2 := fun x hx => by
              rcases List.mem_append.1 hx with hx | hx
              · exact .inr (List.mem_of_mem_take hx)
              · rcases List.mem_cons.1 hx with hx | hx
                · exact .inl hx
                · exact .inr (List.mem_of_mem_drop hx)
            refine ⟨⟨hg.1.1, ?_, fun j hj => ?_⟩, pair_srt ?_, fun v h0 h1 => (hg.2.2 v h0 h1).mono fun x hx => ?_⟩
            · show (g.2.take p ++ e :: g.2.drop p).length ≤ 12
              rw [List.length_append, List.length_cons, List.length_take, List.length_drop]; omega
            · rcases mem _ (getD_mem (0, 0) hj) with k | k
              · rw [k]; exact he
              · obtain ⟨i, hi, e'⟩ := List.getElem_of_mem k
                have := hg.1.2.2 i hi
                rw [getD_lt hi, e'] at this
                exact this
            · show (g.2.take p ++ e :: g.2.drop p).Pairwise fun a b => ¬ Lt b a
              rw [List.pairwise_append, List.pairwise_cons]
              have htake : ∀ x ∈ g.2.take p, ¬ Lt e x := fun x hx => by
                obtain ⟨i, hi, e'⟩ := List.getElem_of_mem hx
                rw [List.length_take] at hi
                rw [List.getElem_take] at e'
                have := hlo i (by omega)
                rw [getD_lt (by omega), e'] at this
                exact this
              have hdrop : ∀ x ∈ g.2.drop p, Lt e x := fun x hx => by
                obtain ⟨i, hi, e'⟩ := List.getElem_of_mem hx
                rw [List.length_drop] at hi
                rw [List.getElem_drop] at e'
                have h1 := hhi (by omega)
                rw [getD_lt (by omega)] at h1
                rcases Nat.eq_zero_or_pos i with k | k
                · subst k; simp only [Nat.add_zero] at e'; rw [← e']; exact h1
                · have h2 := (List.pairwise_iff_getElem.1 hs) p (p + i) (by omega) (by omega) (by omega)
                  rw [e'] at h2
                  generalize g.2[p]'(by omega) = y at h1 h2
                  unfold Lt at *; omega
              refine ⟨hs.sublist (List.take_sublist _ _), ⟨fun x hx k => Lt.irrefl (Lt.trans (hdrop x hx) k), hs.sublist (List.drop_sublist _ _)⟩, fun x hx y hy => ?_⟩
              rcases List.mem_cons.1 hy with hy | hy
              · subst hy; exact htake x hx
              · intro k
                exact htake x hx (Lt.trans (hdrop y hy) k)
            · by_cases c : x ∈ g.2.take p
              · exact List.mem_append_left _ c
              · refine List.mem_append_right _ (List.mem_cons_of_mem _ ?_)
                have : x ∈ g.2.take p ++ g.2.drop p := by rw [List.take_append_drop]; exact hx
                exact (List.mem_append.1 this).resolve_left c
          have key : ∀ (m k : Nat) (o : List (Int × Int)) (z : Bool), k + m = g.2.length → ((z = false ∧ o = g.2.take k ∧ ∀ j, j < k → ¬ Lt e (g.2.getD j (0, 0))) ∨ (z = true ∧ ∃ p, p < k ∧ o = g.2.take p ++ e :: (g.2.drop p).take (k - p) ∧ (∀ j, j < p → ¬ Lt e (g.2.getD j (0, 0))) ∧ Lt e (g.2.getD p (0, 0)))) →
              ∃ r, spec_AddEdge_l0 (0, []) e (g.1, o) z g.2 (g.2.length : Int) (k : Int) = some r ∧ (r.2 = true → GOk r.1 ∧ r.1.1 = g.1 ∧ r.1.2.length ≤ g.2.length + 1) := by
            intro m
            induction m with
            | zero =>
              intro k o z hk ho
              have : k = g.2.length := by omega
              subst this
              rw [spec_AddEdge_l0_eq, dec_lt_f, cond_false]
              rcases ho with ⟨rfl, rfl, h3⟩ | ⟨rfl, p, h1, rfl, h3, h4⟩
              · rw [Bool.not_false, cond_true, decide_eq_true (by rw [room]; simp only [List.length_take, List.length_singleton]; omega)]
                refine ⟨_, rfl, fun _ => ⟨?_, rfl, by show (g.2.take g.2.length ++ [e]).length ≤ _; rw [List.length_append, List.length_take, List.length_singleton]; omega⟩⟩
                have := fin g.2.length (Nat.le_refl _) h3 (fun h => by omega)
                rw [List.drop_length] at this
                exact this
              · rw [Bool.not_true, cond_false]
                refine ⟨_, rfl, fun _ => ⟨?_, rfl, by show (g.2.take p ++ e :: (g.2.drop p).take (g.2.length - p)).length ≤ _; rw [List.length_append, List.length_cons, List.length_take, List.length_take, List.length_drop]; omega⟩⟩
                have := fin p (by omega) h3 (fun _ => h4)
                rw [show (g.2.drop p).take (g.2.length - p) = g.2.drop p from List.take_of_length_le (by simp)]
                exact this
            | succ m ih =>
              intro k o z hk ho
              have hk' : k < g.2.length := by omega
              have hol : o.length ≤ 100 := by
                rcases ho with ⟨_, rfl, _⟩ | ⟨_, p, h1, rfl, _⟩
                · rw [List.length_take]; omega
                · rw [List.length_append, List.length_cons, List.length_take, List.length_take, List.length_drop]; omega
              rw [spec_AddEdge_l0_eq, dec_lt_t hk', inside_lt hk', toNat_n]
              simp only [cond_true]
              rw [decide_eq_true (show o.length + ([e] : List (Int × Int)).length ≤ room by rw [room]; simp only [List.length_singleton]; omega), decide_eq_true (show (o ++ ([e] : List (Int × Int))).length + ([g.2.getD k (0, 0)] : List (Int × Int)).length ≤ room by rw [room, List.length_append]; simp only [List.length_singleton]; omega),
                decide_eq_true (show o.length + ([g.2.getD k (0, 0)] : List (Int × Int)).length ≤ room by rw [room]; simp only [List.length_singleton]; omega)]
              simp only [cond_true, spec_AddEdge_c13_eq, w64_succ hk' (show g.2.length ≤ 9223372036854775807 by omega)]
              have hgk : g.2.getD k (0, 0) = g.2[k] := getD_lt hk'
              rcases ho with ⟨rfl, rfl, h3⟩ | ⟨rfl, p, h1, rfl, h3, h4⟩
              · have ins : Lt e (g.2.getD k (0, 0)) → ∃ r, spec_AddEdge_l0 (0, []) e (g.1, (g.2.take k ++ [e]) ++ [g.2.getD k (0, 0)]) true g.2 (g.2.length : Int) ((k + 1 : Nat) : Int) = some r ∧ (r.2 = true → GOk r.1 ∧ r.1.1 = g.1 ∧ r.1.2.length ≤ g.2.length + 1) := fun hlt =>
                  ih (k + 1) _ _ (by omega) (.inr ⟨rfl, k, by omega, by
                    rw [show k + 1 - k = 1 by omega, hgk, List.append_assoc, List.drop_eq_getElem_cons hk']; rfl, h3, hlt⟩)
                have nin : ¬ Lt e (g.2.getD k (0, 0)) → ∃ r, spec_AddEdge_l0 (0, []) e (g.1, g.2.take k ++ [g.2.getD k (0, 0)]) false g.2 (g.2.length : Int) ((k + 1 : Nat) : Int) = some r ∧ (r.2 = true → GOk r.1 ∧ r.1.1 = g.1 ∧ r.1.2.length ≤ g.2.length + 1) := fun hlt =>
                  ih (k + 1) _ _ (by omega) (.inl ⟨rfl, by rw [take_succ (0, 0) hk'], fun j hj => by
                    rcases Nat.lt_or_ge j k with q | q
                    · exact h3 j q
                    · rw [show j = k by omega]; exact hlt⟩)
                simp only [Bool.not_false, cond_true]
                by_cases d1 : (g.2.getD k (0, 0)).1 > e.1
                · rw [decide_eq_true d1]
                  exact ins (.inl d1)
                · rw [decide_eq_false d1, cond_false]
                  by_cases d2 : (g.2.getD k (0, 0)).1 = e.1
                  · rw [beq_t d2, cond_true]
                    by_cases d3 : (g.2.getD k (0, 0)).2 > e.2
                    · rw [decide_eq_true d3]
                      exact ins (.inr ⟨d2.symm, d3⟩)
                    · rw [decide_eq_false d3]
                      exact nin fun k => by unfold Lt at k; omega
                  · rw [beq_f d2]
                    exact nin fun k => by unfold Lt at k; omega
              · simp only [Bool.not_true, cond_false]
                refine ih (k + 1) _ _ (by omega) (.inr ⟨rfl, p, by omega, ?_, h3, h4⟩)
                have hd : k - p < (g.2.drop p).length := by rw [List.length_drop]; omega
                rw [show k + 1 - p = k - p + 1 by omega, take_succ (0, 0) hd, List.append_assoc, List.cons_append]
                congr 3
                rw [getD_lt hd, List.getElem_drop, hgk]
                simp only [show p + (k - p) = k by omega]
          exact key g.2.length 0 [] false (by omega) (.inl ⟨rfl, by simp, fun j h => by omega⟩)
    · rw [decide_eq_false c2]; exact ⟨_, rfl, fun h => by cases h⟩
  · rw [decide_eq_false c1]; exact ⟨_, rfl, fun h => by cases h⟩
/-- each later vertex has one edge, to an earlier one -/
def TrE (es : List (Int × Int)) : Prop := ∀ j : Nat, j < es.length → (es.getD j (0, 0)).2 = (j : Int) + 1 ∧ 0 ≤ (es.getD j (0, 0)).1 ∧ (es.getD j (0, 0)).1 ≤ (j : Int)
theorem tree_mul {n : Nat} {es : List (Int × Int)} (ht : TrE es) (hl : es.length + 1 = n) (hn : n ≤ 6) {a b : Nat} (hab : a < b) (hb : b < n) : spec_Multiplicity ((n : Int), es) (a : Int) (b : Int) = some (if (es.getD (b - 1) (0, 0)).1 = (a : Int) then 1 else 0) := by
  have vert : ∀ v : Nat, v < n → spec_l02Vert ((n : Int), es) (v : Int) = some true := fun v hv => by
    rw [spec_l02Vert_eq, decide_eq_true (by omega), cond_true, decide_eq_true (by show (v : Int) < (n : Int); omega)]
  rw [spec_Multiplicity_eq, vert a (by omega), vert b hb]
  simp only [Option.bind_some, Bool.not_true, cond_false]
  rw [beq_f (show ¬ (a : Int) = (b : Int) by omega), cond_false]
  have := upFold (n := es.length) (f := fun s i => spec_Multiplicity_l0 (a : Int) (b : Int) s es (es.length : Int) i) (g := fun k s => if b ≤ k + 1 ∧ (es.getD (b - 1) (0, 0)).1 = (a : Int) then 1 else 0) (fun k s => s = if b ≤ k ∧ (es.getD (b - 1) (0, 0)).1 = (a : Int) then 1 else 0) (fun k s hk hs => ⟨by
    obtain ⟨q1, q2, q3⟩ := ht k hk
    subst hs
    rw [spec_Multiplicity_l0_eq, dec_lt_t hk, inside_lt hk, toNat_n, w64_succ hk (by omega), imin_n, imax_n, q1, show min a b = a by omega, show max a b = b by omega]
    simp only [cond_true]
    by_cases c1 : b = k + 1
    · have e : b - 1 = k := by omega
      rw [e, if_neg (show ¬ (b ≤ k ∧ (es.getD k (0, 0)).1 = (a : Int)) by omega)]
      by_cases c2 : (es.getD k (0, 0)).1 = (a : Int)
      · rw [beq_t c2, beq_t (show (k : Int) + 1 = (b : Int) by omega), if_pos ⟨by omega, c2⟩]; rfl
      · rw [beq_f c2, if_neg (fun h => c2 h.2)]; rfl
    · have e2 : (if b ≤ k + 1 ∧ (es.getD (b - 1) (0, 0)).1 = (a : Int) then (1 : Int) else 0) = if b ≤ k ∧ (es.getD (b - 1) (0, 0)).1 = (a : Int) then 1 else 0 := by
        by_cases c : b ≤ k
        · have : b ≤ k + 1 := by omega
          simp only [c, this]
        · have : ¬ b ≤ k + 1 := by omega
          simp only [c, this, false_and]
      rw [e2, beq_f (show ¬ (k : Int) + 1 = (b : Int) by omega)]
      cases (es.getD k (0, 0)).1 == (a : Int) <;> rfl, rfl⟩) (s := 0) (by rw [if_neg (by omega)])
  refine this.1.trans ?_
  rw [this.2, spec_Multiplicity_l0_eq, dec_lt_f, cond_false]
  congr 1
  have : b ≤ es.length := by omega
  simp only [this, true_and]
/-- the sorted copy, up to a pair -/
structure HI (es : List (Int × Int)) (n : Nat) (a b : Int) (hs : List (Int × Int)) : Prop where
  srt : hs.Pairwise Lt
  ok : ∀ e ∈ hs, EdOk n e ∧ Lt e (a, b)
  all : ∀ j : Nat, j < es.length → Lt (es.getD j (0, 0)) (a, b) → es.getD j (0, 0) ∈ hs
  sub : ∀ e ∈ hs, e ∈ es
theorem HI.len {es : List (Int × Int)} {n : Nat} (hn : n ≤ 5) {a b : Int} {hs : List (Int × Int)} (h : HI es n a b hs) : hs.length ≤ 10 := by
  have hnd : hs.Nodup := List.Pairwise.imp (fun {a b} (hab : Lt a b) (e : a = b) => Lt.irrefl (a := b) (by rw [e] at hab; exact hab)) h.srt
  refine nodup_len (m := [(0, 1), (0, 2), (0, 3), (0, 4), (1, 2), (1, 3), (1, 4), (2, 3), (2, 4), (3, 4)]) hnd fun e he => ?_
  obtain ⟨h1, h2, h3⟩ := (h.ok e he).1
  obtain ⟨u, v⟩ := e
  simp only at h1 h2 h3
  have hu : u = 0 ∨ u = 1 ∨ u = 2 ∨ u = 3 := by omega
  have hv : v = 1 ∨ v = 2 ∨ v = 3 ∨ v = 4 := by omega
  rcases hu with rfl | rfl | rfl | rfl <;> rcases hv with rfl | rfl | rfl | rfl <;> first | (exfalso; omega) | simp
theorem HI.len2 {es : List (Int × Int)} {n : Nat} {a b : Int} {hs : List (Int × Int)} (h : HI es n a b hs) : hs.length ≤ es.length := by
  have hnd : hs.Nodup := List.Pairwise.imp (fun {a b} (hab : Lt a b) (e : a = b) => Lt.irrefl (a := b) (by rw [e] at hab; exact hab)) h.srt
  exact nodup_len hnd h.sub
theorem HI.skip {es : List (Int × Int)} {n : Nat} {a b : Nat} {hs : List (Int × Int)} (ht : TrE es) (h : HI es n a b hs) (hb : 1 ≤ b) (hne : ¬ (es.getD (b - 1) (0, 0)).1 = (a : Int)) : HI es n a ((b : Int) + 1) hs := by
  refine ⟨h.srt, fun e he => ⟨(h.ok e he).1, ?_⟩, fun j hj hlt => h.all j hj ?_, h.sub⟩
  · have := (h.ok e he).2
    unfold Lt at *; simp only at *; omega
  · obtain ⟨q1, q2, q3⟩ := ht j hj
    unfold Lt at *
    simp only at *
    rcases hlt with k | ⟨k1, k2⟩
    · exact .inl k
    · refine .inr ⟨k1, ?_⟩
      by_cases c : j = b - 1
      · subst c; exact absurd k1 hne
      · omega
theorem HI.put {es : List (Int × Int)} {n : Nat} {a b : Nat} {hs : List (Int × Int)} (ht : TrE es) (h : HI es n a b hs) (hl : es.length + 1 = n) (hab : a < b) (hb : b < n) (he : (es.getD (b - 1) (0, 0)).1 = (a : Int)) : HI es n a ((b : Int) + 1) (hs ++ [((a : Int), (b : Int))]) := by
  have hmem : ((a : Int), (b : Int)) ∈ es := by
    have hj : b - 1 < es.length := by omega
    have e : es.getD (b - 1) (0, 0) = ((a : Int), (b : Int)) := Prod.ext he (by rw [(ht (b - 1) hj).1]; show ((b - 1 : Nat) : Int) + 1 = (b : Int); omega)
    rw [← e]; exact getD_mem (0, 0) hj
  refine ⟨?_, fun e he => ?_, fun j hj hlt => ?_, fun e he => (List.mem_append.1 he).elim (h.sub e) fun k => by rw [List.mem_singleton.1 k]; exact hmem⟩
  · rw [List.pairwise_append]
    exact ⟨h.srt, List.pairwise_singleton _ _, fun x hx y hy => by rw [List.mem_singleton.1 hy]; exact (h.ok x hx).2⟩
  · rcases List.mem_append.1 he with he | he
    · refine ⟨(h.ok e he).1, ?_⟩
      have := (h.ok e he).2
      unfold Lt at *; simp only at *; omega
    · rw [List.mem_singleton.1 he]
      exact ⟨⟨by show (0 : Int) ≤ (a : Int); omega, by show (a : Int) < (b : Int); omega, by show (b : Int) < (n : Int); omega⟩, .inr ⟨rfl, by show (b : Int) < (b : Int) + 1; omega⟩⟩
  · obtain ⟨q1, q2, q3⟩ := ht j hj
    by_cases c : j = b - 1
    · subst c
      refine List.mem_append_right _ (List.mem_singleton.2 (Prod.ext he ?_))
      rw [q1]; show ((b - 1 : Nat) : Int) + 1 = (b : Int); omega
    · refine List.mem_append_left _ (h.all j hj ?_)
      unfold Lt at *
      simp only at *
      rcases hlt with k | ⟨k1, k2⟩
      · exact .inl k
      · exact .inr ⟨k1, by omega⟩
theorem HI.row {es : List (Int × Int)} {n : Nat} {a : Nat} {hs : List (Int × Int)} (ht : TrE es) (hl : es.length + 1 = n) (h : HI es n a n hs) : HI es n ((a + 1 : Nat) : Int) (((a + 1 : Nat) : Int) + 1) hs := by
  refine ⟨h.srt, fun e he => ⟨(h.ok e he).1, ?_⟩, fun j hj hlt => h.all j hj ?_, h.sub⟩
  · have := (h.ok e he).2
    unfold Lt at *; simp only at *; omega
  · obtain ⟨q1, q2, q3⟩ := ht j hj
    unfold Lt at *
    simp only at *
    omega
theorem draw4 {c : Cur} {x4 : Gr} {es : List (Int × Int)} {n : Nat} (ht : TrE es) (hl : es.length + 1 = n) (hn : n ≤ 5) {a : Nat} : ∀ (m b : Nat) (hs : List (Int × Int)), b + m = n → a < b → HI es n a b hs →
    ∃ hs', spec_l02Draw_l4 c x4 ((n : Int), es) (n : Int) ((n : Int), hs) (a : Int) (b : Int) = spec_l02Draw_l4 c x4 ((n : Int), es) (n : Int) ((n : Int), hs') (a : Int) (n : Int) ∧ HI es n a n hs' := by
  intro m
  induction m with
  | zero =>
    intro b hs hb hab h
    have : b = n := by omega
    subst this
    exact ⟨hs, rfl, h⟩
  | succ m ih =>
    intro b hs hb hab h
    have hb' : b < n := by omega
    have hlen := h.len hn
    rw [spec_l02Draw_l4_eq, dec_lt_t hb', cond_true, tree_mul ht hl (by omega) hab hb', Option.bind_some]
    by_cases c1 : (es.getD (b - 1) (0, 0)).1 = (a : Int)
    · rw [if_pos c1, spec_l02Draw_l6_eq, show (decide ((1 : Int) > 0)) = true from rfl, cond_true, decide_eq_true (by rw [room]; simp only [List.length_singleton]; omega), cond_true, show w64 ((1 : Int) - 1) = 0 from rfl, spec_l02Draw_l6_eq, show (decide ((0 : Int) > 0)) = false from rfl, cond_false, w64_succ hb' (by omega)]
      exact ih (b + 1) _ (by omega) (by omega) (h.put ht hl hab hb' c1)
    · rw [if_neg c1, spec_l02Draw_l6_eq, show (decide ((0 : Int) > 0)) = false from rfl, cond_false, w64_succ hb' (by omega)]
      exact ih (b + 1) _ (by omega) (by omega) (h.skip ht (by omega) c1)
theorem draw2 {c : Cur} {x4 : Gr} {es : List (Int × Int)} {n : Nat} (ht : TrE es) (hl : es.length + 1 = n) (hn : n ≤ 5) : ∀ (m a : Nat) (hs : List (Int × Int)), a + m = n → HI es n a ((a : Int) + 1) hs →
    ∃ hs', spec_l02Draw_l2 c x4 ((n : Int), es) (n : Int) ((n : Int), hs) (a : Int) = spec_l02Draw_l2 c x4 ((n : Int), es) (n : Int) ((n : Int), hs') (n : Int) ∧ HI es n n ((n : Int) + 1) hs' := by
  intro m
  induction m with
  | zero =>
    intro a hs ha h
    have : a = n := by omega
    subst this
    exact ⟨hs, rfl, h⟩
  | succ m ih =>
    intro a hs ha h
    have ha' : a < n := by omega
    rw [spec_l02Draw_l2_eq, dec_lt_t ha', cond_true, w64_succ ha' (by omega)]
    obtain ⟨hs1, e1, h1⟩ := draw4 (c := c) (x4 := x4) ht hl hn (n - (a + 1)) (a + 1) hs (by omega) (by omega) h
    rw [e1, spec_l02Draw_l4_eq, dec_lt_f, cond_false, w64_succ ha' (by omega)]
    exact ih (a + 1) hs1 (by omega) (h1.row ht hl)
theorem draw8 {x4 : Gr} {n : Nat} (hn1 : 2 ≤ n) (hn : n ≤ 5) : ∀ (k : Nat) (c : Cur) (g : Gr), k ≤ 100 → CurOk c → GOk g → g.1 = (n : Int) → ∃ g' c', spec_l02Draw_l8 c x4 (n : Int) g (k : Int) = some (g', c') ∧ GOk g' ∧ g'.1 = (n : Int) ∧ CurOk c' ∧ g'.2.length ≤ g.2.length + k := by
  intro k
  induction k with
  | zero =>
    intro c g _ hc hg hgn
    rw [spec_l02Draw_l8_eq, decide_eq_false (by omega)]
    exact ⟨g, c, rfl, hg, hgn, hc, Nat.le_refl _⟩
  | succ k ih =>
    intro c g hk hc hg hgn
    obtain ⟨x, c1, a1, a2, a3⟩ := below_p hc (n := (n : Int)) (by omega) (by omega)
    obtain ⟨y, c2, b1, b2, b3⟩ := below_p a3 (n := w64 ((n : Int) - 1)) (by rw [w64_id (by omega) (by omega)]; omega) (by rw [w64_id (by omega) (by omega)]; omega)
    rw [spec_l02Draw_l8_eq, decide_eq_true (by omega), cond_true, a1, Option.bind_some]
    simp only
    rw [b1, Option.bind_some, decide_eq_false (by omega), cond_false]
    obtain ⟨r, r1, r2⟩ := addEdge_p hg (a := x) (b := Int.tmod (w64 ((w64 (x + 1)) + y)) (n : Int))
    simp only
    rw [r1, Option.bind_some, w64_id (n := ((k + 1 : Nat) : Int) - 1) (by omega) (by omega), show ((k + 1 : Nat) : Int) - 1 = (k : Int) by omega]
    cases hr : r.2 with
    | true =>
      obtain ⟨q1, q2, q3⟩ := r2 hr
      obtain ⟨g', c', z1, z2, z3, z4, z5⟩ := ih c2 r.1 (by omega) b3 q1 (by rw [q2, hgn])
      exact ⟨g', c', z1, z2, z3, z4, by omega⟩
    | false =>
      obtain ⟨g', c', z1, z2, z3, z4, z5⟩ := ih c2 g (by omega) b3 hg hgn
      exact ⟨g', c', z1, z2, z3, z4, by omega⟩
end Go.Proofs.Ytgncajnfphlgeaa.D

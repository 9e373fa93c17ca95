/-
  What the law file draws from a code: numbers, a valid graph, a valid divisor.
-/
import Derived.Test.YtafgbjhojkgbjaaGreatDoorPureY
namespace Go.Proofs.YtafgbjhojkgbjaaGreatDoor.D
open Go Go.Den
set_option linter.unusedVariables false
set_option linter.unusedSimpArgs false
abbrev Cur : Type := List Int × Int × Int
def CurOk (c : Cur) : Prop := 0 ≤ c.2.1 ∧ c.2.1 ≤ (c.1.length : Int) ∧ c.1.length ≤ 1048576
theorem and255 (x : Int) : 0 ≤ bits .and .i64 x 255 ∧ bits .and .i64 x 255 ≤ 255 := by
  have e : bits .and .i64 x 255 = (((BitVec.ofInt 64 x &&& BitVec.ofInt 64 255).toNat : Nat) : Int) := by
    have h : (BitVec.ofInt 64 x &&& BitVec.ofInt 64 255).toNat ≤ 255 := by
      rw [BitVec.toNat_and]
      have : (BitVec.ofInt 64 255).toNat = 255 := by decide
      rw [this]
      exact Nat.and_le_right
    show ((bitsD .and .i64 x 255).getD 0) = _
    simp only [bitsD, Option.getD_some]
    show IntKind.i64.wrap ((((BitVec.ofInt 64 x) &&& (BitVec.ofInt 64 255)).toNat : Nat) : Int) = _
    exact w64_id (by omega) (by omega)
  have h : (BitVec.ofInt 64 x &&& BitVec.ofInt 64 255).toNat ≤ 255 := by
    rw [BitVec.toNat_and]
    have : (BitVec.ofInt 64 255).toNat = 255 := by decide
    rw [this]
    exact Nat.and_le_right
  rw [e]; omega
theorem byte_p {c : Cur} (hc : CurOk c) : ∃ x c', spec_l01Byte c = some (x, c') ∧ (0 ≤ x ∧ x ≤ 255) ∧ CurOk c' := by
  obtain ⟨h1, h2, h3⟩ := hc
  rw [spec_l01Byte_eq]
  by_cases k : c.2.1 < (c.1.length : Int)
  · rw [decide_eq_true k, cond_true, inside_int h1 k, cond_true, spec_l01Byte_c5_eq]
    refine ⟨_, _, rfl, and255 _, ?_⟩
    simp only
    rw [w64_id (by omega) (by omega)]
    exact ⟨by show 0 ≤ c.2.1 + 1; omega, by show c.2.1 + 1 ≤ (c.1.length : Int); omega, h3⟩
  · rw [decide_eq_false k, cond_false]
    exact ⟨_, _, rfl, and255 _, h1, h2, h3⟩
theorem below_p {c : Cur} (hc : CurOk c) {n : Int} (h1 : 1 ≤ n) (h2 : n ≤ 256) : ∃ x c', spec_l01Below c n = some (x, c') ∧ (0 ≤ x ∧ x < n) ∧ CurOk c' := by
  obtain ⟨x, c', k1, k2, k3⟩ := byte_p hc
  rw [spec_l01Below_eq, decide_eq_false (by omega), decide_eq_true h2, k1]
  simp only [cond_false, cond_true, Option.bind_some]
  rw [decide_eq_false (by omega)]
  exact ⟨_, _, rfl, ⟨Int.tmod_nonneg _ k2.1, Int.tmod_lt_of_pos _ (by omega)⟩, k3⟩
theorem new_p {l : List Int} (h : l.length ≤ 1048576) : ∃ c, spec_l01New l = some c ∧ CurOk c := by
  rw [spec_l01New_eq]
  have key : ∀ (m k : Nat) (x : Int), k + m = l.length → ∃ c, spec_l01New_l0 l x (k : Int) = some c ∧ CurOk c := by
    intro m
    induction m with
    | zero =>
      intro k x hk
      have : k = l.length := by omega
      subst this
      rw [spec_l01New_l0_eq, dec_lt_f]
      exact ⟨_, rfl, by show (0 : Int) ≤ 0; omega, by show (0 : Int) ≤ _; omega, h⟩
    | succ m ih =>
      intro k x hk
      have hk' : k < l.length := by omega
      rw [spec_l01New_l0_eq, dec_lt_t hk', cond_true, inside_lt hk', w64_succ hk' (by omega)]
      cases decide ((k : Int) < 4000) with
      | false => exact ⟨_, rfl, by show (0 : Int) ≤ 0; omega, by show (0 : Int) ≤ _; omega, h⟩
      | true => exact ih (k + 1) _ (by omega)
  exact key l.length 0 _ (by omega)
theorem skip_p {l : List Int} (h : l.length ≤ 1048576) {n : Nat} (hn : n ≤ 1000) : ∃ c, spec_l21New l (n : Int) = some c ∧ CurOk c := by
  obtain ⟨c, c1, c2⟩ := new_p h
  rw [spec_l21New_eq, c1, Option.bind_some]
  have key : ∀ (m k : Nat) (c : Cur), k + m = n → CurOk c → ∃ c', spec_l21New_l0 (n : Int) (k : Int) c = some c' ∧ CurOk c' := by
    intro m
    induction m with
    | zero =>
      intro k c hk hc
      have : k = n := by omega
      subst this
      rw [spec_l21New_l0_eq, dec_lt_f]
      exact ⟨c, rfl, hc⟩
    | succ m ih =>
      intro k c hk hc
      have hk' : k < n := by omega
      obtain ⟨x, c', k1, _, k3⟩ := byte_p hc
      rw [spec_l21New_l0_eq, dec_lt_t hk', cond_true, k1, Option.bind_some, w64_succ hk' (by omega)]
      exact ih (k + 1) c' (by omega) k3
  exact key n 0 c (by omega) c2
theorem num_p {l : List Int} (h : l.length ≤ 1048576) {n : Nat} (hn : n ≤ 1000) : ∃ x, spec_MakeNum l (n : Int) = some x ∧ 0 ≤ x ∧ x ≤ 65535 := by
  obtain ⟨c, c1, c2⟩ := skip_p h hn
  obtain ⟨x, c', k1, k2, k3⟩ := byte_p c2
  obtain ⟨y, c'', j1, j2, j3⟩ := byte_p k3
  rw [spec_MakeNum_eq, c1, Option.bind_some, k1, Option.bind_some, j1, Option.bind_some, w64_id (n := x * 256) (by omega) (by omega), w64_id (by omega) (by omega)]
  exact ⟨_, rfl, by omega, by omega⟩
/-! ### edges in order -/
theorem Lt.trans {a b c : Int × Int} (h1 : Lt a b) (h2 : Lt b c) : Lt a c := by
  unfold Lt at *; omega
theorem Lt.irrefl {a : Int × Int} : ¬ Lt a a := by unfold Lt; omega
theorem Lt.not {a b c : Int × Int} (h1 : ¬ Lt b a) (h2 : ¬ Lt c b) : ¬ Lt c a := by
  unfold Lt at *; omega
theorem srt_pair {l : List (Int × Int)} (h : Srt l) : l.Pairwise fun a b => ¬ Lt b a := by
  rw [List.pairwise_iff_getElem]
  intro i j hi hj hij
  have key : ∀ d i, (hi : i < l.length) → (hj : i + d + 1 < l.length) → ¬ Lt l[i + d + 1] l[i] := fun d => by
    induction d with
    | zero =>
      intro i hi hj
      have := h i hj
      rw [getD_lt hj, getD_lt hi] at this
      exact this
    | succ d ih =>
      intro i hi hj
      have h1 := ih i hi (by omega)
      have h2 := h (i + d + 1) (by omega)
      rw [getD_lt (show i + d + 1 + 1 < l.length by omega), getD_lt (show i + d + 1 < l.length by omega)] at h2
      exact Lt.not h1 h2
  have := key (j - i - 1) i hi (by omega)
  have e : i + (j - i - 1) + 1 = j := by omega
  simp only [e] at this
  exact this
theorem pair_srt {l : List (Int × Int)} (h : l.Pairwise fun a b => ¬ Lt b a) : Srt l := fun j hj => by
  rw [List.pairwise_iff_getElem] at h
  rw [getD_lt hj, getD_lt (show j < l.length by omega)]
  exact h j (j + 1) (by omega) hj (by omega)
theorem Conn.mono {es fs : List (Int × Int)} (h : ∀ e ∈ es, e ∈ fs) {v : Int} (c : Conn es v) : Conn fs v := by
  have step : ∀ j, j < es.length → ∃ i, i < fs.length ∧ fs.getD i (0, 0) = es.getD j (0, 0) := fun j hj => by
    obtain ⟨i, hi, e⟩ := List.getElem_of_mem (h _ (getD_mem (0, 0) hj))
    exact ⟨i, hi, by rw [getD_lt hi]; exact e⟩
  induction c with
  | zero => exact .zero
  | fwd hj _ ih =>
    obtain ⟨i, hi, e⟩ := step _ hj
    rw [← e] at ih ⊢
    exact .fwd hi ih
  | bwd hj _ ih =>
    obtain ⟨i, hi, e⟩ := step _ hj
    rw [← e] at ih ⊢
    exact .bwd hi ih
/-- a graph with one more edge -/
theorem addEdge_p {g : Gr} (hg : GOk g) {a b : Int} : ∃ r, spec_AddEdge g a b = some r ∧ (r.2 = true → GOk r.1 ∧ r.1.1 = g.1) := by
  have hn := gN hg
  have h12 := hg.1.2.1
  obtain ⟨q, p1, p2, p3⟩ := graphOk_p (g := g) (by omega)
  have hq := p3.2 hg
  subst hq
  rw [spec_AddEdge_eq, p1]
  simp only [Option.bind_some, Bool.not_true, cond_false, in_p]
  rw [w64_id (n := g.1 - 1) (by omega) (by omega)]
  by_cases c1 : 0 ≤ a ∧ a ≤ g.1 - 1
  · rw [decide_eq_true c1]
    by_cases c2 : 0 ≤ b ∧ b ≤ g.1 - 1
    · rw [decide_eq_true c2]
      by_cases c3 : a = b
      · rw [beq_t c3]; exact ⟨_, rfl, fun h => by cases h⟩
      · rw [beq_f c3]
        by_cases c4 : (g.2.length : Int) = 12
        · rw [beq_t c4]; exact ⟨_, rfl, fun h => by cases h⟩
        · rw [beq_f c4, spec_AddEdge_c4_eq]
          simp only [Bool.not_true, cond_false]
          let e : Int × Int := (imin a b, imax a b)
          have he : EdOk g.1 e := by
            show 0 ≤ imin a b ∧ imin a b < imax a b ∧ imax a b < g.1
            unfold imin imax
            split <;> split <;> omega
          have hs := srt_pair hg.2.1
          have fin : ∀ p, p ≤ g.2.length → (∀ j, j < p → ¬ Lt e (g.2.getD j (0, 0))) → (p < g.2.length → Lt e (g.2.getD p (0, 0))) → GOk (g.1, g.2.take p ++ e :: g.2.drop p) := fun p hp hlo hhi => by
            have mem : ∀ x ∈ g.2.take p ++ e :: g.2.drop p, x = e ∨ x ∈ g.2 := fun x hx => by
              rcases List.mem_append.1 hx with hx | hx
              · exact .inr (List.mem_of_mem_take hx)
              · rcases List.mem_cons.1 hx with hx | hx
                · exact .inl hx
                · exact .inr (List.mem_of_mem_drop hx)
            refine ⟨⟨hg.1.1, ?_, fun j hj => ?_⟩, pair_srt ?_, fun v h0 h1 => (hg.2.2 v h0 h1).mono fun x hx => ?_⟩
            · show (g.2.take p ++ e :: g.2.drop p).length ≤ 12
              rw [List.length_append, List.length_cons, List.length_take, List.length_drop]; omega
            · rcases mem _ (getD_mem (0, 0) hj) with k | k
              · rw [k]; exact he
              · obtain ⟨i, hi, e'⟩ := List.getElem_of_mem k
                have := hg.1.2.2 i hi
                rw [getD_lt hi, e'] at this
                exact this
            · show (g.2.take p ++ e :: g.2.drop p).Pairwise fun a b => ¬ Lt b a
              rw [List.pairwise_append, List.pairwise_cons]
              have htake : ∀ x ∈ g.2.take p, ¬ Lt e x := fun x hx => by
                obtain ⟨i, hi, e'⟩ := List.getElem_of_mem hx
                rw [List.length_take] at hi
                rw [List.getElem_take] at e'
                have := hlo i (by omega)
                rw [getD_lt (by omega), e'] at this
                exact this
              have hdrop : ∀ x ∈ g.2.drop p, Lt e x := fun x hx => by
                obtain ⟨i, hi, e'⟩ := List.getElem_of_mem hx
                rw [List.length_drop] at hi
                rw [List.getElem_drop] at e'
                have h1 := hhi (by omega)
                rw [getD_lt (by omega)] at h1
                rcases Nat.eq_zero_or_pos i with k | k
                · subst k; simp only [Nat.add_zero] at e'; rw [← e']; exact h1
                · have h2 := (List.pairwise_iff_getElem.1 hs) p (p + i) (by omega) (by omega) (by omega)
                  rw [e'] at h2
                  generalize g.2[p]'(by omega) = y at h1 h2
                  unfold Lt at *; omega
              refine ⟨hs.sublist (List.take_sublist _ _), ⟨fun x hx k => Lt.irrefl (Lt.trans (hdrop x hx) k), hs.sublist (List.drop_sublist _ _)⟩, fun x hx y hy => ?_⟩
              rcases List.mem_cons.1 hy with hy | hy
              · subst hy; exact htake x hx
              · intro k
                exact htake x hx (Lt.trans (hdrop y hy) k)
            · by_cases c : x ∈ g.2.take p
              · exact List.mem_append_left _ c
              · refine List.mem_append_right _ (List.mem_cons_of_mem _ ?_)
                have : x ∈ g.2.take p ++ g.2.drop p := by rw [List.take_append_drop]; exact hx
                exact (List.mem_append.1 this).resolve_left c
          have key : ∀ (m k : Nat) (o : List (Int × Int)) (z : Bool), k + m = g.2.length → ((z = false ∧ o = g.2.take k ∧ ∀ j, j < k → ¬ Lt e (g.2.getD j (0, 0))) ∨ (z = true ∧ ∃ p, p < k ∧ o = g.2.take p ++ e :: (g.2.drop p).take (k - p) ∧ (∀ j, j < p → ¬ Lt e (g.2.getD j (0, 0))) ∧ Lt e (g.2.getD p (0, 0)))) →
              ∃ r, spec_AddEdge_l0 (0, []) e (g.1, o) z g.2 (g.2.length : Int) (k : Int) = some r ∧ (r.2 = true → GOk r.1 ∧ r.1.1 = g.1) := by
            intro m
            induction m with
            | zero =>
              intro k o z hk ho
              have : k = g.2.length := by omega
              subst this
              rw [spec_AddEdge_l0_eq, dec_lt_f, cond_false]
              rcases ho with ⟨rfl, rfl, h3⟩ | ⟨rfl, p, h1, rfl, h3, h4⟩
              · rw [Bool.not_false, cond_true, decide_eq_true (by rw [room]; simp only [List.length_take, List.length_singleton]; omega)]
                refine ⟨_, rfl, fun _ => ⟨?_, rfl⟩⟩
                have := fin g.2.length (Nat.le_refl _) h3 (fun h => by omega)
                rw [List.drop_length] at this
                exact this
              · rw [Bool.not_true, cond_false]
                refine ⟨_, rfl, fun _ => ⟨?_, rfl⟩⟩
                have := fin p (by omega) h3 (fun _ => h4)
                rw [show (g.2.drop p).take (g.2.length - p) = g.2.drop p from List.take_of_length_le (by simp)]
                exact this
            | succ m ih =>
              intro k o z hk ho
              have hk' : k < g.2.length := by omega
              have hol : o.length ≤ 100 := by
                rcases ho with ⟨_, rfl, _⟩ | ⟨_, p, h1, rfl, _⟩
                · rw [List.length_take]; omega
                · rw [List.length_append, List.length_cons, List.length_take, List.length_take, List.length_drop]; omega
              rw [spec_AddEdge_l0_eq, dec_lt_t hk', inside_lt hk', toNat_n]
              simp only [cond_true]
              rw [decide_eq_true (show o.length + ([e] : List (Int × Int)).length ≤ room by rw [room]; simp only [List.length_singleton]; omega), decide_eq_true (show (o ++ ([e] : List (Int × Int))).length + ([g.2.getD k (0, 0)] : List (Int × Int)).length ≤ room by rw [room, List.length_append]; simp only [List.length_singleton]; omega),
                decide_eq_true (show o.length + ([g.2.getD k (0, 0)] : List (Int × Int)).length ≤ room by rw [room]; simp only [List.length_singleton]; omega)]
              simp only [cond_true, spec_AddEdge_c13_eq, w64_succ hk' (show g.2.length ≤ 9223372036854775807 by omega)]
              have hgk : g.2.getD k (0, 0) = g.2[k] := getD_lt hk'
              rcases ho with ⟨rfl, rfl, h3⟩ | ⟨rfl, p, h1, rfl, h3, h4⟩
              · have ins : Lt e (g.2.getD k (0, 0)) → ∃ r, spec_AddEdge_l0 (0, []) e (g.1, (g.2.take k ++ [e]) ++ [g.2.getD k (0, 0)]) true g.2 (g.2.length : Int) ((k + 1 : Nat) : Int) = some r ∧ (r.2 = true → GOk r.1 ∧ r.1.1 = g.1) := fun hlt =>
                  ih (k + 1) _ _ (by omega) (.inr ⟨rfl, k, by omega, by
                    rw [show k + 1 - k = 1 by omega, hgk, List.append_assoc, List.drop_eq_getElem_cons hk']; rfl, h3, hlt⟩)
                have nin : ¬ Lt e (g.2.getD k (0, 0)) → ∃ r, spec_AddEdge_l0 (0, []) e (g.1, g.2.take k ++ [g.2.getD k (0, 0)]) false g.2 (g.2.length : Int) ((k + 1 : Nat) : Int) = some r ∧ (r.2 = true → GOk r.1 ∧ r.1.1 = g.1) := fun hlt =>
                  ih (k + 1) _ _ (by omega) (.inl ⟨rfl, by rw [take_succ (0, 0) hk'], fun j hj => by
                    rcases Nat.lt_or_ge j k with q | q
                    · exact h3 j q
                    · rw [show j = k by omega]; exact hlt⟩)
                simp only [Bool.not_false, cond_true]
                by_cases d1 : (g.2.getD k (0, 0)).1 > e.1
                · rw [decide_eq_true d1]
                  exact ins (.inl d1)
                · rw [decide_eq_false d1, cond_false]
                  by_cases d2 : (g.2.getD k (0, 0)).1 = e.1
                  · rw [beq_t d2, cond_true]
                    by_cases d3 : (g.2.getD k (0, 0)).2 > e.2
                    · rw [decide_eq_true d3]
                      exact ins (.inr ⟨d2.symm, d3⟩)
                    · rw [decide_eq_false d3]
                      exact nin fun k => by unfold Lt at k; omega
                  · rw [beq_f d2]
                    exact nin fun k => by unfold Lt at k; omega
              · simp only [Bool.not_true, cond_false]
                refine ih (k + 1) _ _ (by omega) (.inr ⟨rfl, p, by omega, ?_, h3, h4⟩)
                have hd : k - p < (g.2.drop p).length := by rw [List.length_drop]; omega
                rw [show k + 1 - p = k - p + 1 by omega, take_succ (0, 0) hd, List.append_assoc, List.cons_append]
                congr 3
                rw [getD_lt hd, List.getElem_drop, hgk]
                simp only [show p + (k - p) = k by omega]
          exact key g.2.length 0 [] false (by omega) (.inl ⟨rfl, by simp, fun j h => by omega⟩)
    · rw [decide_eq_false c2]; exact ⟨_, rfl, fun h => by cases h⟩
  · rw [decide_eq_false c1]; exact ⟨_, rfl, fun h => by cases h⟩
end Go.Proofs.YtafgbjhojkgbjaaGreatDoor.D

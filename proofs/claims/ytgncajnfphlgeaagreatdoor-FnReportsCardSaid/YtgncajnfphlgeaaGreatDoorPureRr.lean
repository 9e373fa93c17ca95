/-
  The theorem of Riemann and Roch for graphs: orders of the vertices, and what they tell of ranks.
-/
import Derived.Test.YtgncajnfphlgeaaGreatDoorPureV
namespace Go.Proofs.YtgncajnfphlgeaaGreatDoor.D
open Go Go.Den
set_option linter.unusedVariables false
set_option linter.unusedSimpArgs false
/-- an order of the vertices, the last one first: each but the first has fewer chips than edges to earlier ones -/
def OrdL (E : Es) (d : Nat → Int) (q : Nat) : List Nat → Prop
  | [] => False
  | a :: L => (L = [] ∧ a = q) ∨ (d a < outd E (cmp L) a ∧ OrdL E d q L)
/-- edges to earlier vertices, less one -/
def nu (E : Es) : List Nat → Nat → Int
  | [], _ => -1
  | a :: L, v => if v = a then outd E (cmp L) v - 1 else nu E L v
theorem ord_ex {n q : Nat} {E : Es} {d : Nat → Int} (hq : q < n) (h : Red n E q d) : ∀ k, k < n → ∃ L : List Nat, L.length = k + 1 ∧ L.Nodup ∧ (∀ v ∈ L, v < n) ∧ q ∈ L ∧ OrdL E d q L
  | 0, _ => ⟨[q], rfl, by simp, fun v hv => by rw [List.mem_singleton.1 hv]; exact hq, List.mem_singleton.2 rfl, .inl ⟨rfl, rfl⟩⟩
  | k + 1, hk => by
    obtain ⟨L, h1, h2, h3, h4, h5⟩ := ord_ex hq h k (by omega)
    have hex : ∃ v, v < n ∧ cmp L v = true := by
      refine Classical.byContradiction fun hc => ?_
      have hall : ∀ v ∈ List.range n, v ∈ L := fun v hv => by
        refine Classical.byContradiction fun c => hc ⟨v, List.mem_range.1 hv, cmp_t.2 c⟩
      have := nodup_len List.nodup_range hall
      rw [List.length_range] at this
      omega
    obtain ⟨v, v1, v2, v3⟩ := h.no (cmp L) hex (cmp_f.2 h4)
    refine ⟨v :: L, by rw [List.length_cons, h1], List.nodup_cons.2 ⟨cmp_t.1 v2, h2⟩, fun w hw => ?_, List.mem_cons_of_mem _ h4, .inr ⟨v3, h5⟩⟩
    rcases List.mem_cons.1 hw with hw | hw
    · rw [hw]; exact v1
    · exact h3 w hw
theorem full {n : Nat} {L : List Nat} (hl : L.length = n) (hn : L.Nodup) (hL : ∀ v ∈ L, v < n) : ∀ v, v < n → v ∈ L := fun v hv => by
  refine Classical.byContradiction fun c => ?_
  have := nodup_len (l := v :: L) (m := List.range n) (List.nodup_cons.2 ⟨c, hn⟩) fun w hw => by
    rcases List.mem_cons.1 hw with hw | hw
    · rw [hw]; exact List.mem_range.2 hv
    · exact List.mem_range.2 (hL w hw)
  rw [List.length_cons, List.length_range] at this
  omega
theorem nu_ge {E : Es} {d : Nat → Int} {q : Nat} (hd : d q < 0) : ∀ {L : List Nat}, OrdL E d q L → ∀ v ∈ L, d v ≤ nu E L v
  | a :: L, h, v, hv => by
    simp only [nu]
    by_cases c : v = a
    · subst c
      rw [if_pos rfl]
      have h0 := outd_nonneg (cmp L) v E
      rcases h with ⟨h1, h2⟩ | ⟨h1, h2⟩
      · rw [h2] at h0 ⊢; omega
      · omega
    · rw [if_neg c]
      have hm : v ∈ L := (List.mem_cons.1 hv).resolve_left c
      rcases h with ⟨h1, _⟩ | ⟨_, h2⟩
      · rw [h1] at hm; cases hm
      · exact nu_ge hd h2 v hm
/-- of a set the first in the list -/
theorem first_in (A : Nat → Bool) : ∀ {L : List Nat}, (∃ v ∈ L, A v = true) → ∃ L1 a L2, L = L1 ++ a :: L2 ∧ A a = true ∧ ∀ v ∈ L1, A v = false
  | [], h => by obtain ⟨v, hv, _⟩ := h; cases hv
  | b :: L, h => by
    cases c : A b with
    | true => exact ⟨[], b, L, rfl, c, fun v hv => by cases hv⟩
    | false =>
      obtain ⟨v, hv, hA⟩ := h
      have hm : v ∈ L := (List.mem_cons.1 hv).resolve_left fun e => by rw [e, c] at hA; cases hA
      obtain ⟨L1, a, L2, e, h1, h2⟩ := first_in A ⟨v, hm, hA⟩
      refine ⟨b :: L1, a, L2, by rw [e]; rfl, h1, fun w hw => ?_⟩
      rcases List.mem_cons.1 hw with hw | hw
      · rw [hw]; exact c
      · exact h2 w hw
theorem nu_at {E : Es} {a : Nat} {L2 : List Nat} : ∀ {L1 : List Nat}, a ∉ L1 → nu E (L1 ++ a :: L2) a = outd E (cmp L2) a - 1
  | [], _ => by simp [nu]
  | b :: L1, h => by
    rw [List.mem_cons, not_or] at h
    rw [List.cons_append, nu, if_neg h.1, nu_at h.2]
theorem val_split {n a : Nat} {L2 : List Nat} {A : Nat → Bool} (h : ∀ w, w < n → w ≠ a → w ∈ L2 ∨ A w = false) : ∀ {E : Es}, GE n E → val E a ≤ outd E (cmp L2) a + outd E A a
  | [], _ => by simp [val, outd]
  | e :: E, hE => by
    obtain ⟨h1, h2⟩ := hE e List.mem_cons_self
    have := val_split h hE.tail
    rw [val_cons, outd_cons, outd_cons]
    have key : ends e a ≤ (if a = e.1 then cond (cmp L2 e.2) 0 1 else if a = e.2 then cond (cmp L2 e.1) 0 1 else 0) + (if a = e.1 then cond (A e.2) 0 1 else if a = e.2 then cond (A e.1) 0 1 else 0 : Int) := by
      have one : ∀ w, w < n → w ≠ a → (1 : Int) ≤ cond (cmp L2 w) 0 1 + cond (A w) 0 1 := fun w hw hwa => by
        rcases h w hw hwa with k | k
        · rw [cmp_f.2 k]; cases A w <;> decide
        · rw [k]; cases cmp L2 w <;> decide
      unfold ends
      by_cases c : a = e.1
      · rw [if_pos c, if_pos c, if_pos c]
        exact one e.2 h2 (by omega)
      · rw [if_neg c, if_neg c, if_neg c]
        by_cases c2 : a = e.2
        · rw [if_pos c2, if_pos c2, if_pos c2]
          exact one e.1 (by omega) (by omega)
        · rw [if_neg c2, if_neg c2, if_neg c2]; decide
    omega
/-- the edges to later vertices, less one: never won -/
theorem nu_lost {g : Gr} (hg : GOk g) {L : List Nat} (hl : L.length = N g) (hn : L.Nodup) (hL : ∀ v ∈ L, v < N g) (S : Nat → Int) : ¬ ∀ v, v < N g → 0 ≤ Kn g v - nu (Eg g) L v - lap (Eg g) S v := fun h => by
  have hN := gN hg
  have gE1 := (gE hg).1
  obtain ⟨M, hM, w, hw, hwM⟩ := max_of S (N g) (by omega)
  let A : Nat → Bool := fun v => decide (S v = M)
  have hA : ∀ w, w < N g → (A w = true ↔ S w = M) := fun w _ => decide_eq_true_iff
  obtain ⟨L1, a, L2, e, h1, h2⟩ := first_in A ⟨w, full hl hn hL w hw, decide_eq_true hwM⟩
  have han : a < N g := hL a (by rw [e]; simp)
  have ha1 : a ∉ L1 := fun c => by have := h2 a c; rw [h1] at this; cases this
  have hmem : ∀ v, v < N g → v ≠ a → v ∈ L2 ∨ A v = false := fun v hv hva => by
    have := full hl hn hL v hv
    rw [e] at this
    rcases List.mem_append.1 this with k | k
    · exact .inr (h2 v k)
    · exact .inl ((List.mem_cons.1 k).resolve_left hva)
  have q1 := val_split hmem gE1
  have q2 := lap_top han hA hM h1 gE1
  have q3 := h a han
  rw [e, nu_at ha1] at q3
  unfold Kn at q3
  omega
/-! ### degrees -/
theorem sl_sm {f : Nat → Int} {n : Nat} : ∀ {L : List Nat}, L.Nodup → (∀ v ∈ L, v < n) → sl L f = sm n (fun v => if v ∈ L then f v else 0)
  | [], _, _ => by
    have : sm n (fun v => if v ∈ ([] : List Nat) then f v else 0) = sm n (fun _ => 0) := sm_congr fun v _ => if_neg (List.not_mem_nil)
    rw [this, sm_zero]; rfl
  | a :: L, hn, hL => by
    rw [List.nodup_cons] at hn
    have e : sm n (fun v => if v ∈ a :: L then f v else 0) = sm n (fun v => (if v = a then f a else 0) + (if v ∈ L then f v else 0)) := sm_congr fun v _ => by
      by_cases c : v = a
      · subst c; rw [if_pos List.mem_cons_self, if_pos rfl, if_neg hn.1]; omega
      · have : (v ∈ a :: L) ↔ v ∈ L := by simp [c]
        simp only [this, if_neg c]; omega
    rw [e, sm_add, sm_one, if_pos (hL a List.mem_cons_self), sl_cons, sl_sm hn.2 fun v hv => hL v (List.mem_cons_of_mem _ hv)]
/-- all edges to earlier vertices -/
def so (E : Es) : List Nat → Int
  | [] => 0
  | a :: L => outd E (cmp L) a + so E L
def so1 (e : Nat × Nat) : List Nat → Int
  | [] => 0
  | a :: L => (if a = e.1 then cond (cmp L e.2) 0 1 else if a = e.2 then cond (cmp L e.1) 0 1 else 0) + so1 e L
theorem nu_sl {E : Es} : ∀ {L : List Nat}, L.Nodup → sl L (nu E L) = so E L - (L.length : Int)
  | [], _ => rfl
  | a :: L, h => by
    rw [List.nodup_cons] at h
    have : sl L (nu E (a :: L)) = sl L (nu E L) := sl_congr fun v hv => by
      have hne : ¬ v = a := fun c => h.1 (by rw [← c]; exact hv)
      rw [nu, if_neg hne]
    rw [sl_cons, this, nu_sl h.2, so, nu, if_pos rfl, List.length_cons]
    omega
theorem so_cons (e : Nat × Nat) (E : Es) : ∀ L, so (e :: E) L = so1 e L + so E L
  | [] => rfl
  | a :: L => by rw [so, so1, so, so_cons e E L, outd_cons]; omega
theorem so_nil : ∀ L, so [] L = 0
  | [] => rfl
  | a :: L => by rw [so, so_nil L]; rfl
theorem so1_eq {e : Nat × Nat} (he : e.1 ≠ e.2) : ∀ {L : List Nat}, L.Nodup → so1 e L = if e.1 ∈ L ∧ e.2 ∈ L then 1 else 0
  | [], _ => by simp [so1]
  | a :: L, h => by
    rw [List.nodup_cons] at h
    rw [so1, so1_eq he h.2]
    by_cases c1 : a = e.1
    · have n1 : e.1 ∉ L := fun k => h.1 (c1 ▸ k)
      rw [if_pos c1, if_neg (fun k => n1 k.1)]
      by_cases c2 : e.2 ∈ L
      · rw [cmp_f.2 c2, if_pos ⟨by rw [c1]; exact List.mem_cons_self, List.mem_cons_of_mem _ c2⟩]; rfl
      · rw [cmp_t.2 c2, if_neg]
        · rfl
        · intro k
          rcases List.mem_cons.1 k.2 with q | q
          · exact he (c1 ▸ q.symm)
          · exact c2 q
    · rw [if_neg c1]
      by_cases c3 : a = e.2
      · have n2 : e.2 ∉ L := fun k => h.1 (c3 ▸ k)
        rw [if_pos c3, if_neg (fun k => n2 k.2)]
        by_cases c2 : e.1 ∈ L
        · rw [cmp_f.2 c2, if_pos ⟨List.mem_cons_of_mem _ c2, by rw [c3]; exact List.mem_cons_self⟩]; rfl
        · rw [cmp_t.2 c2, if_neg]
          · rfl
          · intro k
            rcases List.mem_cons.1 k.1 with q | q
            · exact c1 q.symm
            · exact c2 q
      · rw [if_neg c3]
        have m1 : (e.1 ∈ a :: L) ↔ e.1 ∈ L := by
          rw [List.mem_cons]
          exact ⟨fun k => k.resolve_left fun q => c1 q.symm, .inr⟩
        have m2 : (e.2 ∈ a :: L) ↔ e.2 ∈ L := by
          rw [List.mem_cons]
          exact ⟨fun k => k.resolve_left fun q => c3 q.symm, .inr⟩
        simp only [m1, m2]; omega
theorem so_all {n : Nat} {L : List Nat} (hn : L.Nodup) (hL : ∀ v, v < n → v ∈ L) : ∀ {E : Es}, GE n E → so E L = (E.length : Int)
  | [], _ => by rw [so_nil]; rfl
  | e :: E, hE => by
    obtain ⟨h1, h2⟩ := hE e List.mem_cons_self
    rw [so_cons, so_all hn hL hE.tail, so1_eq (by omega) hn, if_pos ⟨hL _ (by omega), hL _ h2⟩, List.length_cons]
    omega
theorem nu_deg {n : Nat} {L : List Nat} {E : Es} (hE : GE n E) (hl : L.length = n) (hn : L.Nodup) (hL : ∀ v ∈ L, v < n) : sm n (nu E L) = (E.length : Int) - (n : Int) := by
  have hf := full hl hn hL
  have e1 := sl_sm (f := nu E L) hn hL
  have e2 : sm n (fun v => if v ∈ L then nu E L v else 0) = sm n (nu E L) := sm_congr fun v hv => if_pos (hf v hv)
  rw [← e2, ← e1, nu_sl hn, so_all hn hf hE, hl]
theorem val_deg {n : Nat} : ∀ {E : Es}, GE n E → sm n (val E) = 2 * (E.length : Int)
  | [], _ => by
    have : sm n (val []) = sm n (fun _ => 0) := sm_congr fun v _ => rfl
    rw [this, sm_zero]; rfl
  | e :: E, hE => by
    obtain ⟨h1, h2⟩ := hE e List.mem_cons_self
    have e1 : sm n (val (e :: E)) = sm n (fun v => (if v = e.1 then 1 else if v = e.2 then 1 else 0) + val E v) := sm_congr fun v _ => by rw [val_cons]; rfl
    rw [e1, sm_add, sm_pair (by omega) (by omega) h2, val_deg hE.tail, List.length_cons]
    omega
theorem sm_const (c : Int) : ∀ n, sm n (fun _ => c) = (n : Int) * c
  | 0 => by simp [sm]
  | n + 1 => by rw [sm, sm_const c n, Int.natCast_succ, Int.add_mul, Int.one_mul]
/-- the canonical divisor's degree -/
theorem canon_deg {g : Gr} (hg : GOk g) : sm (N g) (Kn g) = 2 * (g.2.length : Int) - 2 * (N g : Int) := by
  obtain ⟨gE1, gE2, gE3⟩ := gE hg
  have e : sm (N g) (Kn g) = sm (N g) (fun v => val (Eg g) v + (-2)) := sm_congr fun v _ => by unfold Kn; omega
  rw [e, sm_add, val_deg gE1, sm_const, gE3]; omega
theorem sm_sub (f h : Nat → Int) (n : Nat) : sm n (fun v => f v - h v) = sm n f - sm n h := by
  have e : sm n (fun v => f v - h v) = sm n (fun v => f v + - h v) := sm_congr fun v _ => by omega
  rw [e, sm_add, sm_neg]; omega
/-- the theorem's one half -/
theorem rr_half {g : Gr} (hg : GOk g) {D1 D2 : Nat → Int} (hK : ∀ v, v < N g → D1 v + D2 v = Kn g v) (hB : Bd (N g) 900 D2) {r1 r2 : Nat} {w1 w2 : List Int} (h1 : RK g D1 r1 w1) (h2 : RK g D2 r2 w2) (h9 : r2 ≤ 9) : (r1 : Int) ≤ sm (N g) D1 + (N g : Int) - (g.2.length : Int) + (r2 : Int) := by
  have hn := gN hg
  obtain ⟨gE1, gE2, gE3⟩ := gE hg
  have hw := eff_Sd hg h9 h2.mem
  have hz : vec (N g) ((List.range (N g)).map (Mi D2 w2)) (Mi D2 w2) := ⟨by simp, fun w hw => getD_range_map _ hw⟩
  obtain ⟨x, y, O, S, _, h3⟩ := reduce_i (q := 0) hg (by omega) hz (fun v hv => by
    have := hB v hv
    have := hw.vec.2 v hv
    unfold Mi; omega)
  have hO : O 0 < 0 := by
    refine Int.not_le.1 fun c => h2.bad ⟨x, h3.in hg (by omega) c⟩
  obtain ⟨L, l1, l2, l3, l4, l5⟩ := ord_ex (q := 0) (by omega) h3.red (N g - 1) (by omega)
  have hl : L.length = N g := by omega
  have hf := full hl l2 l3
  have hge : ∀ v, v < N g → O v ≤ nu (Eg g) L v := fun v hv => nu_ge hO l5 v (hf v hv)
  let f : List Int := (List.range (N g)).map fun v => nu (Eg g) L v - O v
  have hfl : f.length = N g := by simp [f]
  have hfv : ∀ v, v < N g → f.getD v 0 = nu (Eg g) L v - O v := fun v hv => getD_range_map _ hv
  have hfs : f.sum = sm (N g) (nu (Eg g) L) - sm (N g) O := by
    have := sm_list f
    rw [hfl] at this
    rw [← this, ← sm_sub]
    exact sm_congr hfv
  have hfp : ∀ x ∈ f, 0 ≤ x := fun x hx => by
    obtain ⟨j, hj, e⟩ := mem_getD hx
    rw [← e, hfv j (by omega)]
    have := hge j (by omega)
    omega
  have hOs : sm (N g) O = sm (N g) D2 - (r2 : Int) := by
    rw [h3.sum hg, Mi_sum hw.1, eff_sum h2.mem]
  have hKs : sm (N g) D1 + sm (N g) D2 = 2 * (g.2.length : Int) - 2 * (N g : Int) := by
    rw [← canon_deg hg, ← sm_add]
    exact sm_congr hK
  have hns := nu_deg gE1 hl l2 l3
  rw [gE3] at hns
  have hpos : 0 ≤ f.sum := by
    rw [← sm_list, hfl]
    exact sm_nonneg fun v hv => by rw [hfv v hv]; have := hge v hv; omega
  have hmem : f ∈ eff (N g - 1) f.sum.toNat := eff_in (by omega) hfp (by omega)
  have hle : r1 ≤ f.sum.toNat := by
    rcases Nat.lt_or_ge f.sum.toNat r1 with c | c
    · exfalso
      obtain ⟨r, q1, q2, T, q3⟩ := h1.up _ c f hmem
      refine nu_lost hg hl l2 l3 (fun v => S v + T v) fun v hv => ?_
      have a1 := q2 v hv
      have a2 := q3 v hv
      have a3 := h3.out v hv
      have a4 := hK v hv
      have a5 := (hw.vec.2 v hv).1
      have a6 := hfv v hv
      rw [lap_add]
      unfold Mi at a2 a3
      omega
    · exact c
  omega
/-- Riemann and Roch: ranks are counted from 0 here, so one more than the program tells -/
theorem rr {g : Gr} (hg : GOk g) {D1 D2 : Nat → Int} (hK : ∀ v, v < N g → D1 v + D2 v = Kn g v) (hB1 : Bd (N g) 900 D1) (hB2 : Bd (N g) 900 D2) {r1 r2 : Nat} {w1 w2 : List Int} (h1 : RK g D1 r1 w1) (h2 : RK g D2 r2 w2) (k1 : r1 ≤ 9) (k2 : r2 ≤ 9) : (r1 : Int) - (r2 : Int) = sm (N g) D1 + (N g : Int) - (g.2.length : Int) := by
  have a1 := rr_half hg hK hB2 h1 h2 k2
  have a2 := rr_half hg (fun v hv => by rw [Int.add_comm]; exact hK v hv) hB1 h2 h1 k1
  have hKs : sm (N g) D1 + sm (N g) D2 = 2 * (g.2.length : Int) - 2 * (N g : Int) := by
    rw [← canon_deg hg, ← sm_add]
    exact sm_congr hK
  omega
end Go.Proofs.YtgncajnfphlgeaaGreatDoor.D

/-
  Graphs: the reference's list of what is reached.
-/
import Derived.Test.YtafgbjhojkgbjaaGreatDoorPureC
namespace Go.Proofs.YtafgbjhojkgbjaaGreatDoor.D
open Go Go.Den
set_option linter.unusedVariables false
set_option linter.unusedSimpArgs false
/-- reached from 0 -/
inductive Conn (es : List (Int × Int)) : Int → Prop where
  | zero : Conn es 0
  | fwd {j : Nat} : j < es.length → Conn es (es.getD j (0, 0)).1 → Conn es (es.getD j (0, 0)).2
  | bwd {j : Nat} : j < es.length → Conn es (es.getD j (0, 0)).2 → Conn es (es.getD j (0, 0)).1
def All (g : Gr) : Prop := ∀ v : Int, 0 ≤ v → v < g.1 → Conn g.2 v
theorem has_p {l : List Int} {v : Int} (h : l.length ≤ 9223372036854775807) : spec_l02Has l v = some (decide (v ∈ l)) := by
  rw [spec_l02Has_eq]
  obtain ⟨b, h1, h2⟩ := upAny (n := l.length) (f := fun i => spec_l02Has_l0 v l (l.length : Int) i) (p := fun k => l.getD k 0 == v) (fun k hk => by
    rw [spec_l02Has_l0_eq, dec_lt_t hk, inside_lt hk, w64_succ hk h]
    simp only [cond_true, Int.toNat_natCast]) (by rw [spec_l02Has_l0_eq, dec_lt_f]; rfl)
  refine h1.trans ?_
  congr 1
  rw [Bool.eq_iff_iff, h2, decide_eq_true_iff, List.mem_iff_getElem]
  constructor
  · rintro ⟨j, q1, q2⟩
    rw [getD_lt q1] at q2
    exact ⟨j, q1, by simpa using q2⟩
  · rintro ⟨j, q1, q2⟩
    exact ⟨j, q1, by rw [getD_lt q1, q2]; simp⟩
def add (l : List Int) (v : Int) : List Int := if v ∈ l then l else l ++ [v]
theorem mem_add {l : List Int} {v x : Int} : x ∈ add l v ↔ x ∈ l ∨ x = v := by
  unfold add
  split
  · rename_i h; exact ⟨.inl, fun k => k.elim id fun k => k ▸ h⟩
  · simp
theorem add_pre (l : List Int) (v : Int) : ∃ t, add l v = l ++ t := by
  unfold add
  split
  · exact ⟨[], by simp⟩
  · exact ⟨[v], rfl⟩
/-- one edge is looked at from the i-th of those that were reached -/
def stp (i : Nat) (l : List Int) (e : Int × Int) : List Int :=
  let l1 := if e.1 = l.getD i 0 then add l e.2 else l
  if e.2 = l1.getD i 0 then add l1 e.1 else l1
theorem getD_app {l t : List Int} {i : Nat} (h : i < l.length) : (l ++ t).getD i 0 = l.getD i 0 := by
  rw [List.getD_eq_getElem?_getD, List.getD_eq_getElem?_getD, List.getElem?_append_left h]
structure Good' (g : Gr) (l : List Int) : Prop where
  nd : l.Nodup
  zero : 0 ∈ l
  rng : ∀ v ∈ l, 0 ≤ v ∧ v < g.1
  conn : ∀ v ∈ l, Conn g.2 v
theorem rng_len {n : Int} {l : List Int} (hn : l.Nodup) (h : ∀ v ∈ l, 0 ≤ v ∧ v < n) : (l.length : Int) ≤ n ∨ l = [] := by
  rcases Int.lt_or_le n 0 with c | c
  · right
    cases l with
    | nil => rfl
    | cons a l => have := h a List.mem_cons_self; omega
  · left
    have := nodup_len (m := (List.range n.toNat).map Int.ofNat) hn fun x hx => by
      have := h x hx
      rw [List.mem_map]
      exact ⟨x.toNat, by rw [List.mem_range]; omega, by simp; omega⟩
    simp at this
    omega
theorem Good'.len {g : Gr} {l : List Int} (G : Good' g l) (h : g.1 ≤ 6) : l.length ≤ 6 := by
  rcases rng_len G.nd G.rng with k | k
  · omega
  · rw [k]; simp
theorem Good'.add {g : Gr} {l : List Int} (G : Good' g l) {v : Int} (h1 : 0 ≤ v ∧ v < g.1) (h2 : Conn g.2 v) : Good' g (add l v) := by
  unfold D.add
  split
  · exact G
  · rename_i hv
    refine ⟨?_, List.mem_append_left _ G.zero, fun x hx => ?_, fun x hx => ?_⟩
    · rw [List.nodup_append]
      refine ⟨G.nd, List.nodup_cons.2 ⟨List.not_mem_nil, List.nodup_nil⟩, fun a ha b hb => ?_⟩
      rw [List.mem_singleton.1 hb]
      exact fun c => hv (c ▸ ha)
    · rcases List.mem_append.1 hx with hx | hx
      · exact G.rng x hx
      · rw [List.mem_singleton.1 hx]; exact h1
    · rcases List.mem_append.1 hx with hx | hx
      · exact G.conn x hx
      · rw [List.mem_singleton.1 hx]; exact h2
theorem stp_p {g : Gr} (hg : EOk g) {l : List Int} (G : Good' g l) {i j : Nat} (hi : i < l.length) (hj : j < g.2.length) :
    Good' g (stp i l (g.2.getD j (0, 0))) ∧ (∃ t, stp i l (g.2.getD j (0, 0)) = l ++ t) ∧ ((g.2.getD j (0, 0)).1 = l.getD i 0 → (g.2.getD j (0, 0)).2 ∈ stp i l (g.2.getD j (0, 0))) ∧ ((g.2.getD j (0, 0)).2 = l.getD i 0 → (g.2.getD j (0, 0)).1 ∈ stp i l (g.2.getD j (0, 0))) := by
  have he := hg.2.2 j hj
  have hmem : l.getD i 0 ∈ l := by rw [getD_lt hi]; exact List.getElem_mem _
  have h1 : ∃ t, (if (g.2.getD j (0, 0)).1 = l.getD i 0 then D.add l (g.2.getD j (0, 0)).2 else l) = l ++ t := by
    split
    · exact add_pre _ _
    · exact ⟨[], by simp⟩
  have G1 : Good' g (if (g.2.getD j (0, 0)).1 = l.getD i 0 then D.add l (g.2.getD j (0, 0)).2 else l) := by
    split
    · rename_i c
      exact G.add ⟨by have := he.1; have := he.2.1; omega, he.2.2⟩ (.fwd hj (c ▸ G.conn _ hmem))
    · exact G
  have m1 : (g.2.getD j (0, 0)).1 = l.getD i 0 → (g.2.getD j (0, 0)).2 ∈ (if (g.2.getD j (0, 0)).1 = l.getD i 0 then D.add l (g.2.getD j (0, 0)).2 else l) := fun c => by
    rw [if_pos c, mem_add]; exact .inr rfl
  unfold stp
  simp only
  generalize (if (g.2.getD j (0, 0)).1 = l.getD i 0 then D.add l (g.2.getD j (0, 0)).2 else l) = l1 at h1 G1 m1
  obtain ⟨t, rfl⟩ := h1
  rw [getD_app hi]
  by_cases c : (g.2.getD j (0, 0)).2 = l.getD i 0
  · rw [if_pos c]
    obtain ⟨t2, ht2⟩ := add_pre (l ++ t) (g.2.getD j (0, 0)).1
    refine ⟨G1.add ⟨he.1, by have := he.2.1; have := he.2.2; omega⟩ (.bwd hj (c ▸ G.conn _ hmem)), ⟨t ++ t2, by rw [ht2, List.append_assoc]⟩, fun q => by rw [mem_add]; exact .inl (m1 q), fun _ => by rw [mem_add]; exact .inr rfl⟩
  · rw [if_neg c]
    exact ⟨G1, ⟨t, rfl⟩, m1, fun q => absurd q c⟩
theorem beq_t {a b : Int} (h : a = b) : (a == b) = true := by rw [h]; simp
theorem beq_f {a b : Int} (h : ¬ a = b) : (a == b) = false := by simpa using h
theorem room1 {l : List Int} {v : Int} (h : l.length ≤ 1048576) : decide (l.length + ([v] : List Int).length ≤ room) = true := by
  apply decide_eq_true
  unfold room
  simp only [List.length_cons, List.length_nil]
  omega
theorem c12_p {g : Gr} {l : List Int} {i : Int} {j : Nat} (hj : j < g.2.length) (hl : g.2.length ≤ 12) : spec_l02Reach_c12 g l i g.2 (g.2.length : Int) j = spec_l02Reach_l2 g l i g.2 (g.2.length : Int) ((j + 1 : Nat) : Int) := by
  rw [spec_l02Reach_c12_eq, w64_succ hj (by omega)]
theorem l2_p {g : Gr} (hl : g.2.length ≤ 12) {l : List Int} (h6 : l.length ≤ 1000) {i j : Nat} (hi : i < l.length) (hj : j < g.2.length) :
    spec_l02Reach_l2 g l i g.2 (g.2.length : Int) (j : Nat) = spec_l02Reach_l2 g (stp i l (g.2.getD j (0, 0))) i g.2 (g.2.length : Int) ((j + 1 : Nat) : Int) := by
  rw [spec_l02Reach_l2_eq, dec_lt_t hj, inside_lt hj]
  simp only [cond_true, Int.toNat_natCast]
  obtain ⟨⟨a, b⟩, hab⟩ : ∃ e, g.2.getD j (0, 0) = e := ⟨_, rfl⟩
  simp only [hab]
  rw [inside_lt hi]
  simp only [cond_true]
  unfold stp
  simp only
  by_cases c1 : a = l.getD i 0
  · rw [beq_t c1, if_pos c1, has_p (by omega)]
    simp only [cond_true, Option.bind_some]
    unfold D.add
    by_cases d1 : b ∈ l
    · rw [decide_eq_true d1, if_pos d1]
      simp only [Bool.not_true, cond_false]
      by_cases c2 : b = l.getD i 0
      · rw [beq_t c2, if_pos c2, has_p (by omega)]
        simp only [cond_true, Option.bind_some]
        by_cases d2 : a ∈ l
        · rw [decide_eq_true d2, if_pos d2]
          simp only [Bool.not_true, cond_false]
          exact c12_p hj hl
        · rw [decide_eq_false d2, if_neg d2]
          simp only [Bool.not_false, cond_true]
          rw [spec_l02Reach_c11_eq, room1 (by omega)]
          exact c12_p hj hl
      · rw [beq_f c2, if_neg c2]
        exact c12_p hj hl
    · rw [decide_eq_false d1, if_neg d1]
      simp only [Bool.not_false, cond_true]
      rw [room1 (by omega), inside_lt (show i < (l ++ [b]).length by simp; omega), getD_app hi]
      simp only [cond_true]
      by_cases c2 : b = l.getD i 0
      · rw [beq_t c2, if_pos c2, has_p (by simp; omega)]
        simp only [cond_true, Option.bind_some]
        by_cases d2 : a ∈ l ++ [b]
        · rw [decide_eq_true d2, if_pos d2]
          simp only [Bool.not_true, cond_false]
          exact c12_p hj hl
        · rw [decide_eq_false d2, if_neg d2]
          simp only [Bool.not_false, cond_true]
          rw [spec_l02Reach_c11_eq, room1 (by simp; omega)]
          exact c12_p hj hl
      · rw [beq_f c2, if_neg c2]
        exact c12_p hj hl
  · rw [beq_f c1, if_neg c1]
    simp only [cond_false]
    unfold D.add
    by_cases c2 : b = l.getD i 0
    · rw [beq_t c2, if_pos c2, has_p (by omega)]
      simp only [cond_true, Option.bind_some]
      by_cases d2 : a ∈ l
      · rw [decide_eq_true d2, if_pos d2]
        simp only [Bool.not_true, cond_false]
        exact c12_p hj hl
      · rw [decide_eq_false d2, if_neg d2]
        simp only [Bool.not_false, cond_true]
        rw [spec_l02Reach_c11_eq, room1 (by omega)]
        exact c12_p hj hl
    · rw [beq_f c2, if_neg c2]
      exact c12_p hj hl
/-- all edges at the first so many were looked at -/
def Cl (g : Gr) (l : List Int) (n : Nat) : Prop := ∀ i, i < n → ∀ j, j < g.2.length → ((g.2.getD j (0, 0)).1 = l.getD i 0 → (g.2.getD j (0, 0)).2 ∈ l) ∧ ((g.2.getD j (0, 0)).2 = l.getD i 0 → (g.2.getD j (0, 0)).1 ∈ l)
theorem reach_l0 {g : Gr} (hg : EOk g) : ∀ (d i : Nat) (l : List Int), i + d = 7 → i ≤ l.length → Good' g l → Cl g l i → ∃ l', spec_l02Reach_l0 g l i = some l' ∧ Good' g l' ∧ Cl g l' l'.length
  | 0, i, l, h1, h2, G, _ => by
    have := G.len hg.1.2
    omega
  | d + 1, i, l, h1, h2, G, hc => by
    have h6 := G.len hg.1.2
    rw [spec_l02Reach_l0_eq]
    by_cases hi : i < l.length
    · rw [dec_lt_t hi]
      simp only [cond_true]
      obtain ⟨k1, k2, ⟨t, k3⟩, k4⟩ := upFold (n := g.2.length) (f := fun s j => spec_l02Reach_l2 g s i g.2 (g.2.length : Int) j) (g := fun j s => stp i s (g.2.getD j (0, 0)))
        (fun j s => Good' g s ∧ (∃ t, s = l ++ t) ∧ ∀ j', j' < j → ((g.2.getD j' (0, 0)).1 = l.getD i 0 → (g.2.getD j' (0, 0)).2 ∈ s) ∧ ((g.2.getD j' (0, 0)).2 = l.getD i 0 → (g.2.getD j' (0, 0)).1 ∈ s)) (fun j s hj hs => by
          obtain ⟨Gs, ⟨t, ht⟩, hs⟩ := hs
          have hi' : i < s.length := by rw [ht]; simp; omega
          have hgi : s.getD i 0 = l.getD i 0 := by rw [ht, getD_app hi]
          obtain ⟨q1, ⟨t', q2⟩, q3, q4⟩ := stp_p hg Gs hi' hj
          refine ⟨l2_p hg.2.1 (by have := Gs.len hg.1.2; omega) hi' hj, q1, ⟨t ++ t', by rw [q2, ht, List.append_assoc]⟩, fun j' hj' => ?_⟩
          rcases Nat.lt_or_ge j' j with c | c
          · have hsub : ∀ x, x ∈ s → x ∈ stp i s (g.2.getD j (0, 0)) := fun x hx => by rw [q2]; exact List.mem_append_left _ hx
            exact ⟨fun k => hsub _ ((hs j' c).1 k), fun k => hsub _ ((hs j' c).2 k)⟩
          · have : j' = j := by omega
            subst this
            rw [hgi] at q3 q4
            exact ⟨q3, q4⟩) (s := l) ⟨G, ⟨[], by simp⟩, fun j' hj' => by omega⟩
      rw [show ((0 : Nat) : Int) = 0 from rfl] at k1
      rw [k1]
      generalize itr (fun j s => stp i s (g.2.getD j (0, 0))) g.2.length l = l' at k2 k3 k4
      have h6' := k2.len hg.1.2
      rw [spec_l02Reach_l2_eq, dec_lt_f]
      simp only [cond_false]
      rw [w64_succ hi (by omega)]
      refine reach_l0 hg d (i + 1) l' (by omega) (by rw [k3]; simp; omega) k2 fun i' hi' j hj => ?_
      rcases Nat.lt_or_ge i' i with c | c
      · have hgi : l'.getD i' 0 = l.getD i' 0 := by rw [k3, getD_app (by omega)]
        rw [hgi]
        obtain ⟨r1, r2⟩ := hc i' c j hj
        exact ⟨fun q => by rw [k3]; exact List.mem_append_left _ (r1 q), fun q => by rw [k3]; exact List.mem_append_left _ (r2 q)⟩
      · have : i' = i := by omega
        subst this
        have hgi : l'.getD i' 0 = l.getD i' 0 := by rw [k3, getD_app hi]
        rw [hgi]
        exact k4 j hj
    · have : i = l.length := by omega
      subst this
      rw [dec_lt_f]
      exact ⟨l, rfl, G, hc⟩
theorem reach_p {g : Gr} (hg : EOk g) : ∃ l, spec_l02Reach g = some l ∧ ((((l.length : Int) : Int) == g.1) = true ↔ All g) := by
  rw [spec_l02Reach_eq]
  obtain ⟨l, h1, G, hc⟩ := reach_l0 hg 7 0 [0] rfl (by simp) ⟨by simp, by simp, fun v hv => by
    rw [List.mem_singleton.1 hv]; exact ⟨by omega, by have := hg.1.1; omega⟩, fun v hv => by rw [List.mem_singleton.1 hv]; exact .zero⟩ fun i hi => by omega
  refine ⟨l, h1, ?_⟩
  have hall : ∀ v, Conn g.2 v → v ∈ l := fun v hv => by
    induction hv with
    | zero => exact G.zero
    | fwd hj _ ih =>
      obtain ⟨i, hi, h2⟩ := List.mem_iff_getElem.1 ih
      exact (hc i hi _ hj).1 (by rw [getD_lt hi, h2])
    | bwd hj _ ih =>
      obtain ⟨i, hi, h2⟩ := List.mem_iff_getElem.1 ih
      exact (hc i hi _ hj).2 (by rw [getD_lt hi, h2])
  have hle : (l.length : Int) ≤ g.1 := by
    rcases rng_len G.nd G.rng with k | k
    · exact k
    · rw [k]; have := hg.1.1; simp; omega
  rw [beq_iff_eq]
  constructor
  · intro hl v h0 hv
    rcases Decidable.em (v ∈ l) with c | c
    · exact G.conn v c
    · exfalso
      have := rng_len (n := g.1) (l := v :: l) (List.nodup_cons.2 ⟨c, G.nd⟩) fun x hx => by
        rcases List.mem_cons.1 hx with hx | hx
        · rw [hx]; exact ⟨h0, hv⟩
        · exact G.rng x hx
      rcases this with k | k
      · simp only [List.length_cons] at k; omega
      · cases k
  · intro hA
    have := nodup_len (l := (List.range g.1.toNat).map Int.ofNat) (m := l) (by
      rw [List.Nodup, List.pairwise_map]
      exact List.nodup_range.imp fun h c => h (Int.ofNat.inj c)) fun x hx => by
      obtain ⟨k, hk, rfl⟩ := List.mem_map.1 hx
      rw [List.mem_range] at hk
      exact hall _ (hA _ (by simp) (by simp; omega))
    simp at this
    omega
end Go.Proofs.YtafgbjhojkgbjaaGreatDoor.D

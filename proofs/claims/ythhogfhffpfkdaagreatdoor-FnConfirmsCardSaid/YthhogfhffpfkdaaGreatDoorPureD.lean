/-
  Graphs: the reference's list of what is reached.
-/
import Derived.Test.YthhogfhffpfkdaaGreatDoorPureC
namespace Go.Proofs.YthhogfhffpfkdaaGreatDoor.D
open Go Go.Den
set_option linter.unusedVariables false
set_option linter.unusedSimpArgs false
/-- reached from 0 -/
inductive Conn (es : List (Int × Int)) : Int → Prop where
  | zero : Conn es 0
  | fwd {j : Nat} : j < es.length → Conn es (es.getD j (0, 0)).1 → Conn es (es.getD j (0, 0)).2
  | bwd {j : Nat} : j < es.length → Conn es (es.getD j (0, 0)).2 → Conn es (es.getD j (0, 0)).1
def All (g : Gr) : Prop := ∀ v : Int, 0 ≤ v → v < g.1 → Conn g.2 v
def add (l : List Int) (v : Int) : List Int := if v ∈ l then l else l ++ [v]
theorem mem_add {l : List Int} {v x : Int} : x ∈ add l v ↔ x ∈ l ∨ x = v := by
  unfold add
  split
  · rename_i h; exact ⟨.inl, fun k => k.elim id fun k => k ▸ h⟩
  · simp
theorem add_pre (l : List Int) (v : Int) : ∃ t, add l v = l ++ t := by
  unfold add
  split
  · exact ⟨[], by simp⟩
  · exact ⟨[v], rfl⟩
/-- one edge is looked at from the i-th of those that were reached -/
def stp (i : Nat) (l : List Int) (e : Int × Int) : List Int :=
  let l1 := if e.1 = l.getD i 0 then add l e.2 else l
  if e.2 = l1.getD i 0 then add l1 e.1 else l1
theorem getD_app {l t : List Int} {i : Nat} (h : i < l.length) : (l ++ t).getD i 0 = l.getD i 0 := by
  rw [List.getD_eq_getElem?_getD, List.getD_eq_getElem?_getD, List.getElem?_append_left h]
structure Good' (g : Gr) (l : List Int) : Prop where
  nd : l.Nodup
  zero : 0 ∈ l
  rng : ∀ v ∈ l, 0 ≤ v ∧ v < g.1
  conn : ∀ v ∈ l, Conn g.2 v
theorem rng_len {n : Int} {l : List Int} (hn : l.Nodup) (h : ∀ v ∈ l, 0 ≤ v ∧ v < n) : (l.length : Int) ≤ n ∨ l = [] := by
  rcases Int.lt_or_le n 0 with c | c
  · right
    cases l with
    | nil => rfl
    | cons a l => have := h a List.mem_cons_self; omega
  · left
    have := nodup_len (m := (List.range n.toNat).map Int.ofNat) hn fun x hx => by
      have := h x hx
      rw [List.mem_map]
      exact ⟨x.toNat, by rw [List.mem_range]; omega, by simp; omega⟩
    simp at this
    omega
theorem Good'.len {g : Gr} {l : List Int} (G : Good' g l) (h : g.1 ≤ 6) : l.length ≤ 6 := by
  rcases rng_len G.nd G.rng with k | k
  · omega
  · rw [k]; simp
theorem Good'.add {g : Gr} {l : List Int} (G : Good' g l) {v : Int} (h1 : 0 ≤ v ∧ v < g.1) (h2 : Conn g.2 v) : Good' g (add l v) := by
  unfold D.add
  split
  · exact G
  · rename_i hv
    refine ⟨?_, List.mem_append_left _ G.zero, fun x hx => ?_, fun x hx => ?_⟩
    · rw [List.nodup_append]
      refine ⟨G.nd, List.nodup_cons.2 ⟨List.not_mem_nil, List.nodup_nil⟩, fun a ha b hb => ?_⟩
      rw [List.mem_singleton.1 hb]
      exact fun c => hv (c ▸ ha)
    · rcases List.mem_append.1 hx with hx | hx
      · exact G.rng x hx
      · rw [List.mem_singleton.1 hx]; exact h1
    · rcases List.mem_append.1 hx with hx | hx
      · exact G.conn x hx
      · rw [List.mem_singleton.1 hx]; exact h2
theorem stp_p {g : Gr} (hg : EOk g) {l : List Int} (G : Good' g l) {i j : Nat} (hi : i < l.length) (hj : j < g.2.length) :
    Good' g (stp i l (g.2.getD j (0, 0))) ∧ (∃ t, stp i l (g.2.getD j (0, 0)) = l ++ t) ∧ ((g.2.getD j (0, 0)).1 = l.getD i 0 → (g.2.getD j (0, 0)).2 ∈ stp i l (g.2.getD j (0, 0))) ∧ ((g.2.getD j (0, 0)).2 = l.getD i 0 → (g.2.getD j (0, 0)).1 ∈ stp i l (g.2.getD j (0, 0))) := by
  have he := hg.2.2 j hj
  have hmem : l.getD i 0 ∈ l := by rw [getD_lt hi]; exact List.getElem_mem _
  have h1 : ∃ t, (if (g.2.getD j (0, 0)).1 = l.getD i 0 then D.add l (g.2.getD j (0, 0)).2 else l) = l ++ t := by
    split
    · exact add_pre _ _
    · exact ⟨[], by simp⟩
  have G1 : Good' g (if (g.2.getD j (0, 0)).1 = l.getD i 0 then D.add l (g.2.getD j (0, 0)).2 else l) := by
    split
    · rename_i c
      exact G.add ⟨by have := he.1; have := he.2.1; omega, he.2.2⟩ (.fwd hj (c ▸ G.conn _ hmem))
    · exact G
  have m1 : (g.2.getD j (0, 0)).1 = l.getD i 0 → (g.2.getD j (0, 0)).2 ∈ (if (g.2.getD j (0, 0)).1 = l.getD i 0 then D.add l (g.2.getD j (0, 0)).2 else l) := fun c => by
    rw [if_pos c, mem_add]; exact .inr rfl
  unfold stp
  simp only
  generalize (if (g.2.getD j (0, 0)).1 = l.getD i 0 then D.add l (g.2.getD j (0, 0)).2 else l) = l1 at h1 G1 m1
  obtain ⟨t, rfl⟩ := h1
  rw [getD_app hi]
  by_cases c : (g.2.getD j (0, 0)).2 = l.getD i 0
  · rw [if_pos c]
    obtain ⟨t2, ht2⟩ := add_pre (l ++ t) (g.2.getD j (0, 0)).1
    refine ⟨G1.add ⟨he.1, by have := he.2.1; have := he.2.2; omega⟩ (.bwd hj (c ▸ G.conn _ hmem)), ⟨t ++ t2, by rw [ht2, List.append_assoc]⟩, fun q => by rw [mem_add]; exact .inl (m1 q), fun _ => by rw [mem_add]; exact .inr rfl⟩
  · rw [if_neg c]
    exact ⟨G1, ⟨t, rfl⟩, m1, fun q => absurd q c⟩
theorem beq_t {a b : Int} (h : a = b) : (a == b) = true := by rw [h]; simp
theorem beq_f {a b : Int} (h : ¬ a = b) : (a == b) = false := by simpa using h
theorem room1 {l : List Int} {v : Int} (h : l.length ≤ 1048576) : decide (l.length + ([v] : List Int).length ≤ room) = true := by
  apply decide_eq_true
  unfold room
  simp only [List.length_cons, List.length_nil]
  omega
/-- all edges at the first so many were looked at -/
def Cl (g : Gr) (l : List Int) (n : Nat) : Prop := ∀ i, i < n → ∀ j, j < g.2.length → ((g.2.getD j (0, 0)).1 = l.getD i 0 → (g.2.getD j (0, 0)).2 ∈ l) ∧ ((g.2.getD j (0, 0)).2 = l.getD i 0 → (g.2.getD j (0, 0)).1 ∈ l)
end Go.Proofs.YthhogfhffpfkdaaGreatDoor.D

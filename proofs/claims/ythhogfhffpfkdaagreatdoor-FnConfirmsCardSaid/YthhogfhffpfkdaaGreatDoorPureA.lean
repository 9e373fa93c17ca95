/-
  Loops and numbers, told plainly.
-/
import Derived.Test.YthhogfhffpfkdaaGreatDoorDnA
namespace Go.Den
open Go
theorem w64_id {n : Int} (h1 : -9223372036854775808 ≤ n) (h2 : n ≤ 9223372036854775807) : w64 n = n := by
  simp [w64, IntKind.wrap, IntKind.bits, IntKind.signed]
  omega
theorem w64_succ {k n : Nat} (h : k < n) (hn : n ≤ 9223372036854775807) : w64 ((k : Int) + 1) = ((k + 1 : Nat) : Int) := by
  rw [w64_id (by omega) (by omega)]; rfl
theorem inside_nat {k n : Nat} : inside (k : Int) n = decide (k < n) := by
  simp only [inside]
  have : decide (0 ≤ (k : Int)) = true := by simp
  rw [this, Bool.true_and, decide_eq_decide]
  exact Int.ofNat_lt
theorem inside_lt {k n : Nat} (h : k < n) : inside (k : Int) n = true := by rw [inside_nat]; exact decide_eq_true h
theorem dec_lt {k n : Nat} : decide ((k : Int) < (n : Int)) = decide (k < n) := decide_eq_decide.2 Int.ofNat_lt
theorem dec_lt_t {k n : Nat} (h : k < n) : decide ((k : Int) < (n : Int)) = true := decide_eq_true (Int.ofNat_lt.2 h)
theorem dec_lt_f {n : Nat} : decide ((n : Int) < (n : Int)) = false := decide_eq_false (Int.lt_irrefl _)
/-- a loop that goes on as long as each answers yes -/
theorem upAll {n : Nat} {f : Int → Option Bool} {p : Nat → Bool} (hs : ∀ k : Nat, k < n → f k = cond (p k) (f ((k + 1 : Nat) : Int)) (some false)) (he : f (n : Nat) = some true) :
    ∃ b, f ((0 : Nat) : Int) = some b ∧ (b = true ↔ ∀ j, j < n → p j = true) := by
  have key : ∀ d k, k + d = n → ∃ b, f (k : Nat) = some b ∧ (b = true ↔ ∀ j, k ≤ j → j < n → p j = true) := by
    intro d
    induction d with
    | zero =>
      intro k hk
      have : k = n := by omega
      subst this
      exact ⟨true, he, ⟨fun _ j h1 h2 => (by omega), fun _ => rfl⟩⟩
    | succ d ih =>
      intro k hk
      obtain ⟨b, h1, h2⟩ := ih (k + 1) (by omega)
      rw [hs k (by omega)]
      cases hp : p k with
      | false =>
        refine ⟨false, rfl, ⟨fun h => (by cases h), fun h => ?_⟩⟩
        have := h k (Nat.le_refl _) (by omega)
        rw [hp] at this; cases this
      | true =>
        refine ⟨b, h1, h2.trans ⟨fun h j q1 q2 => ?_, fun h j q1 q2 => h j (by omega) q2⟩⟩
        rcases Nat.lt_or_ge k j with c | c
        · exact h j c q2
        · have : j = k := by omega
          subst this; exact hp
  obtain ⟨b, h1, h2⟩ := key n 0 (by omega)
  exact ⟨b, h1, h2.trans ⟨fun h j hj => h j (Nat.zero_le _) hj, fun h j _ hj => h j hj⟩⟩
/-- the same, downward to 0 -/
theorem downAll {n : Nat} {f : Int → Option Bool} {p : Nat → Bool} (hs : ∀ k : Nat, k < n → f ((k + 1 : Nat) : Int) = cond (p k) (f (k : Nat)) (some false)) (he : f ((0 : Nat) : Int) = some true) :
    ∃ b, f (n : Nat) = some b ∧ (b = true ↔ ∀ j, j < n → p j = true) := by
  induction n with
  | zero => exact ⟨true, he, ⟨fun _ j h => (by omega), fun _ => rfl⟩⟩
  | succ n ih =>
    obtain ⟨b, h1, h2⟩ := ih fun k hk => hs k (by omega)
    rw [hs n (by omega)]
    cases hp : p n with
    | false =>
      refine ⟨false, rfl, ⟨fun h => (by cases h), fun h => ?_⟩⟩
      have := h n (by omega)
      rw [hp] at this; cases this
    | true =>
      refine ⟨b, h1, h2.trans ⟨fun h j hj => ?_, fun h j hj => h j (by omega)⟩⟩
      rcases Nat.lt_or_ge j n with c | c
      · exact h j c
      · have : j = n := by omega
        subst this; exact hp
theorem upAllE {n : Nat} {e : Bool} {f : Int → Option Bool} {p : Nat → Bool} (hs : ∀ k : Nat, k < n → f k = cond (p k) (f ((k + 1 : Nat) : Int)) (some false)) (he : f (n : Nat) = some e) :
    ∃ b, f ((0 : Nat) : Int) = some b ∧ (b = true ↔ (∀ j, j < n → p j = true) ∧ e = true) := by
  have key : ∀ d k, k + d = n → ∃ b, f (k : Nat) = some b ∧ (b = true ↔ (∀ j, k ≤ j → j < n → p j = true) ∧ e = true) := by
    intro d
    induction d with
    | zero =>
      intro k hk
      have : k = n := by omega
      subst this
      exact ⟨e, he, ⟨fun h => ⟨fun j h1 h2 => (by omega), h⟩, fun h => h.2⟩⟩
    | succ d ih =>
      intro k hk
      obtain ⟨b, h1, h2⟩ := ih (k + 1) (by omega)
      rw [hs k (by omega)]
      cases hp : p k with
      | false =>
        refine ⟨false, rfl, ⟨fun h => (by cases h), fun h => ?_⟩⟩
        have := h.1 k (Nat.le_refl _) (by omega)
        rw [hp] at this; cases this
      | true =>
        refine ⟨b, h1, h2.trans ⟨fun h => ⟨fun j q1 q2 => ?_, h.2⟩, fun h => ⟨fun j q1 q2 => h.1 j (by omega) q2, h.2⟩⟩⟩
        rcases Nat.lt_or_ge k j with c | c
        · exact h.1 j c q2
        · have : j = k := by omega
          subst this; exact hp
  obtain ⟨b, h1, h2⟩ := key n 0 (by omega)
  exact ⟨b, h1, h2.trans ⟨fun h => ⟨fun j hj => h.1 j (Nat.zero_le _) hj, h.2⟩, fun h => ⟨fun j _ hj => h.1 j hj, h.2⟩⟩⟩
/-- a loop that ends with yes where one answers yes -/
theorem upAny {n : Nat} {f : Int → Option Bool} {p : Nat → Bool} (hs : ∀ k : Nat, k < n → f k = cond (p k) (some true) (f ((k + 1 : Nat) : Int))) (he : f (n : Nat) = some false) :
    ∃ b, f ((0 : Nat) : Int) = some b ∧ (b = true ↔ ∃ j, j < n ∧ p j = true) := by
  have key : ∀ d k, k + d = n → ∃ b, f (k : Nat) = some b ∧ (b = true ↔ ∃ j, k ≤ j ∧ j < n ∧ p j = true) := by
    intro d
    induction d with
    | zero =>
      intro k hk
      have : k = n := by omega
      subst this
      exact ⟨false, he, ⟨fun h => (by cases h), fun ⟨j, h1, h2, _⟩ => by omega⟩⟩
    | succ d ih =>
      intro k hk
      obtain ⟨b, h1, h2⟩ := ih (k + 1) (by omega)
      rw [hs k (by omega)]
      cases hp : p k with
      | true => exact ⟨true, rfl, ⟨fun _ => ⟨k, Nat.le_refl _, by omega, hp⟩, fun _ => rfl⟩⟩
      | false =>
        refine ⟨b, h1, h2.trans ⟨fun ⟨j, q1, q2, q3⟩ => ⟨j, by omega, q2, q3⟩, fun ⟨j, q1, q2, q3⟩ => ?_⟩⟩
        rcases Nat.lt_or_ge k j with c | c
        · exact ⟨j, c, q2, q3⟩
        · have : j = k := by omega
          subst this; rw [hp] at q3; cases q3
  obtain ⟨b, h1, h2⟩ := key n 0 (by omega)
  exact ⟨b, h1, h2.trans ⟨fun ⟨j, _, q2, q3⟩ => ⟨j, q2, q3⟩, fun ⟨j, q2, q3⟩ => ⟨j, Nat.zero_le _, q2, q3⟩⟩⟩
/-- rounds, counted up -/
def itr {S : Type} (g : Nat → S → S) : Nat → S → S
  | 0, s => s
  | n + 1, s => g n (itr g n s)
theorem upFold {R S : Type} {n : Nat} {f : S → Int → Option R} {g : Nat → S → S} (I : Nat → S → Prop)
    (hs : ∀ (k : Nat) (s : S), k < n → I k s → f s (k : Nat) = f (g k s) ((k + 1 : Nat) : Int) ∧ I (k + 1) (g k s)) {s : S} (h0 : I 0 s) : f s ((0 : Nat) : Int) = f (itr g n s) (n : Nat) ∧ I n (itr g n s) := by
  have key : ∀ k, k ≤ n → f s ((0 : Nat) : Int) = f (itr g k s) (k : Nat) ∧ I k (itr g k s) := by
    intro k
    induction k with
    | zero => exact fun _ => ⟨rfl, h0⟩
    | succ k ih =>
      intro hk
      obtain ⟨h1, h2⟩ := ih (by omega)
      obtain ⟨h3, h4⟩ := hs k _ (by omega) h2
      exact ⟨h1.trans h3, h4⟩
  exact key n (Nat.le_refl _)
theorem upFold' {R S : Type} {n : Nat} {f : S → Int → Option R} {g : Nat → S → S}
    (hs : ∀ (k : Nat) (s : S), k < n → f s (k : Nat) = f (g k s) ((k + 1 : Nat) : Int)) {s : S} : f s ((0 : Nat) : Int) = f (itr g n s) (n : Nat) :=
  (upFold (fun _ _ => True) (fun k s hk _ => ⟨hs k s hk, trivial⟩) trivial).1
theorem ext_getD {α : Type} {d : α} {a b : List α} (hl : a.length = b.length) (h : ∀ j, j < a.length → a.getD j d = b.getD j d) : a = b := by
  refine List.ext_getElem hl fun j h1 h2 => ?_
  have := h j h1
  rw [List.getD_eq_getElem?_getD, List.getD_eq_getElem?_getD, List.getElem?_eq_getElem h1, List.getElem?_eq_getElem h2] at this
  exact this
theorem getD_lt {α : Type} {d : α} {a : List α} {j : Nat} (h : j < a.length) : a.getD j d = a[j] := by
  rw [List.getD_eq_getElem?_getD, List.getElem?_eq_getElem h]; rfl
theorem getD_range_map {α : Type} {d : α} (f : Nat → α) {n j : Nat} (h : j < n) : ((List.range n).map f).getD j d = f j := by
  rw [List.getD_eq_getElem?_getD, List.getElem?_map, List.getElem?_range h]; rfl
theorem set_range_map {α : Type} {l : List α} {k : Nat} {f : Nat → α} (hk : k < l.length) :
    ((List.range k).map f ++ l.drop k).set k (f k) = (List.range (k + 1)).map f ++ l.drop (k + 1) := by
  rw [List.set_append_right _ _ (by simp)]
  simp only [List.length_map, List.length_range, Nat.sub_self]
  rw [List.drop_eq_getElem_cons hk, List.set_cons_zero, List.range_succ, List.map_append, List.append_assoc]
  rfl
/-- rows that are filled place by place -/
theorem itr_fill {α : Type} (f : Nat → α) {l : List α} : ∀ n, n ≤ l.length → itr (fun k (s : List α) => s.set k (f k)) n l = (List.range n).map f ++ l.drop n
  | 0, _ => by simp [itr]
  | n + 1, h => by
    rw [itr, itr_fill f n (by omega)]
    exact set_range_map (by omega)
theorem itr_push {α : Type} (f : Nat → α) {l : List α} : ∀ n, itr (fun k (s : List α) => s ++ [f k]) n l = l ++ (List.range n).map f
  | 0 => by simp [itr]
  | n + 1 => by rw [itr, itr_push f n, List.range_succ, List.map_append, List.append_assoc]; rfl
/-- a list without repetition is no longer than a list that holds all of it -/
theorem nodup_len {α : Type} [BEq α] [LawfulBEq α] : ∀ {l m : List α}, l.Nodup → (∀ x ∈ l, x ∈ m) → l.length ≤ m.length
  | [], _, _, _ => Nat.zero_le _
  | a :: l, m, hn, h => by
    rw [List.nodup_cons] at hn
    have ha := h a List.mem_cons_self
    have := nodup_len (l := l) (m := m.erase a) hn.2 fun x hx => by
      have hne : x ≠ a := fun c => hn.1 (c ▸ hx)
      exact (List.mem_erase_of_ne hne).2 (h x (List.mem_cons_of_mem _ hx))
    rw [List.length_erase_of_mem ha] at this
    have := List.length_pos_of_mem ha
    simp only [List.length_cons]
    omega
theorem getD_mem {α : Type} (d : α) {l : List α} {k : Nat} (h : k < l.length) : l.getD k d ∈ l := by
  rw [getD_lt h]; exact List.getElem_mem _
end Go.Den

/-
  The law file's helpers (rows of numbers, morphisms).
-/
import Derived.Test.YtaapeofhcopajaaDoorPureA
import Derived.Test.YtaapeofhcopajaaDoorEqs
namespace Go.Proofs.YtaapeofhcopajaaDoor.D
open Go Go.Den
set_option linter.unusedVariables false
set_option linter.unusedSimpArgs false
theorem map_getD {α : Type} (d : α) (a : List α) : (List.range a.length).map (fun k => a.getD k d) = a := by
  refine ext_getD (d := d) (by simp) fun j hj => ?_
  rw [getD_range_map _ (by simpa using hj)]
theorem room_ok {n : Nat} (h : n ≤ 1048576) : (decide (0 ≤ (n : Int)) && decide ((n : Int) ≤ (room : Int))) = true := by
  have h1 : (0 : Int) ≤ (n : Int) := by omega
  have h2 : (n : Int) ≤ (room : Int) := by unfold room; omega
  rw [decide_eq_true h1, decide_eq_true h2]; rfl
theorem bne_int {a b : Int} : (a != b) = !(a == b) := rfl
theorem eqIntS_p {a b : List Int} (h : a.length ≤ 9223372036854775807) : ∃ r, laws_eqIntS a b = some r ∧ (r = true ↔ a = b) := by
  rw [laws_eqIntS_eq]
  by_cases c : a.length = b.length
  · have hc : (((a.length : Int) : Int) != (b.length : Int)) = false := by rw [c]; simp
    rw [hc]
    simp only [cond_false]
    obtain ⟨r, h1, h2⟩ := upAll (n := a.length) (f := fun i => laws_eqIntS_l0 a b i) (p := fun k => a.getD k 0 == b.getD k 0) (fun k hk => by
      rw [laws_eqIntS_l0_eq, dec_lt_t hk, inside_lt hk, inside_lt (c ▸ hk), w64_succ hk h]
      simp only [cond_true, Int.toNat_natCast, bne_int]
      cases (a.getD k 0 == b.getD k 0) <;> rfl) (by rw [laws_eqIntS_l0_eq, dec_lt_f]; rfl)
    refine ⟨r, h1, h2.trans ⟨fun q => ext_getD (d := 0) c fun j hj => by simpa using q j hj, fun q j _ => by rw [q]; simp⟩⟩
  · have hc : (((a.length : Int) : Int) != (b.length : Int)) = true := by
      rw [bne_iff_ne]; omega
    rw [hc]
    exact ⟨false, rfl, ⟨fun k => (by cases k), fun k => absurd (congrArg List.length k) c⟩⟩
theorem eqMorphism_p {a b : List Int × List Int} (h1 : a.1.length ≤ 9223372036854775807) (h2 : a.2.length ≤ 9223372036854775807) : ∃ r, laws_eqMorphism a b = some r ∧ (r = true ↔ a = b) := by
  obtain ⟨r1, p1, q1⟩ := eqIntS_p (b := b.1) h1
  obtain ⟨r2, p2, q2⟩ := eqIntS_p (b := b.2) h2
  rw [laws_eqMorphism_eq, p1, p2]
  cases r1 with
  | false => exact ⟨false, rfl, ⟨fun k => (by cases k), fun k => by rw [k] at q1; exact absurd (q1.2 rfl) (by simp)⟩⟩
  | true =>
    cases r2 with
    | false => exact ⟨false, rfl, ⟨fun k => (by cases k), fun k => by rw [k] at q2; exact absurd (q2.2 rfl) (by simp)⟩⟩
    | true => exact ⟨true, rfl, ⟨fun _ => Prod.ext (q1.1 rfl) (q2.1 rfl), fun _ => rfl⟩⟩
theorem ne_t {a b : Int} (h : ¬ a = b) : (a != b) = true := bne_iff_ne.2 h
theorem eq_f {a b : Int} (h : a = b) : (a != b) = false := by rw [h]; simp
/-- marks: a row's places are numbered -/
def run (m : Int) (n : Nat) : List Int := (List.range n).map fun (k : Nat) => m + (k : Int)
theorem markIntS_p {a : List Int} {m : Int} (h0 : 0 ≤ m) (h : m + (a.length : Int) ≤ 9223372036854775806) : laws_markIntS a m = some (m + (a.length : Int), run m a.length) := by
  rw [laws_markIntS_eq]
  have := upFold (n := a.length) (f := fun (s : List Int × Int) i => laws_markIntS_l0 s.1 s.2 i) (g := fun k s => (s.1.set k s.2, w64 (s.2 + 1)))
    (fun k s => s.1 = run m k ++ a.drop k ∧ s.2 = m + (k : Int)) (fun k s hk hs => by
      obtain ⟨x, y⟩ := s
      simp only at hs
      obtain ⟨h1, h2⟩ := hs
      have hl : x.length = a.length := by rw [h1]; simp [run]; omega
      refine ⟨?_, ?_, ?_⟩
      · rw [laws_markIntS_l0_eq, hl, dec_lt_t hk, inside_lt hk, w64_succ hk (by omega)]
        simp only [cond_true, Int.toNat_natCast]
      · simp only
        rw [h1, h2]
        exact set_range_map (f := fun k => m + (k : Int)) hk
      · simp only
        rw [h2, w64_id (by omega) (by omega)]; omega) (s := (a, m)) ⟨by simp [run], by simp⟩
  obtain ⟨h1, h2, h3⟩ := this
  simp only at h1
  refine h1.trans ?_
  generalize itr (fun (k : Nat) (s : List Int × Int) => (s.1.set k s.2, w64 (s.2 + 1))) a.length (a, m) = s at h2 h3
  obtain ⟨x, y⟩ := s
  simp only at h2 h3 ⊢
  rw [List.drop_length, List.append_nil] at h2
  subst h2
  rw [laws_markIntS_l0_eq, show (run m a.length).length = a.length by simp [run], dec_lt_f, h3]
  rfl
theorem heldIntS_p {m : Int} {n : Nat} (h0 : 0 ≤ m) (h : m + (n : Int) ≤ 9223372036854775806) : laws_heldIntS (run m n) m = some (m + (n : Int)) := by
  rw [laws_heldIntS_eq]
  have hl : (run m n).length = n := by simp [run]
  have := upFold (n := n) (f := fun (s : Int) i => laws_heldIntS_l0 (run m n) s i) (g := fun k s => w64 (s + 1)) (fun k s => s = m + (k : Int)) (fun k s hk hs => by
    subst hs
    refine ⟨?_, ?_⟩
    · rw [laws_heldIntS_l0_eq, hl, dec_lt_t hk, inside_lt hk, w64_succ hk (by omega)]
      simp only [cond_true, Int.toNat_natCast]
      have : (run m n).getD k 0 = m + (k : Int) := getD_range_map _ hk
      rw [this]
      simp
    · rw [w64_id (by omega) (by omega)]; omega) (s := m) (by simp)
  obtain ⟨h1, h2⟩ := this
  refine h1.trans ?_
  rw [h2, laws_heldIntS_l0_eq, hl, dec_lt_f]
  rfl
theorem markMorphism_p {a : List Int × List Int} {m : Int} (h0 : 0 ≤ m) (h : m + (a.1.length : Int) + (a.2.length : Int) ≤ 9223372036854775806) :
    laws_markMorphism a m = some (m + (a.1.length : Int) + (a.2.length : Int), run m a.1.length, run (m + (a.1.length : Int)) a.2.length) := by
  rw [laws_markMorphism_eq, markIntS_p h0 (by omega)]
  simp only [Option.bind_some]
  rw [markIntS_p (by omega) (by omega)]
  rfl
theorem heldMorphism_p {m : Int} {p q : Nat} (h0 : 0 ≤ m) (h : m + (p : Int) + (q : Int) ≤ 9223372036854775806) :
    laws_heldMorphism (run m p, run (m + (p : Int)) q) m = some (m + (p : Int) + (q : Int)) := by
  rw [laws_heldMorphism_eq, heldIntS_p h0 (by omega)]
  simp only [Option.bind_some]
  rw [heldIntS_p (by omega) (by omega)]
  have h1 : ¬ (m + (p : Int) < 0) := by omega
  have h2 : ¬ (m + (p : Int) + (q : Int) < 0) := by omega
  rw [decide_eq_false h1]
  simp only [cond_false, Option.bind_some]
  rw [decide_eq_false h2]
  rfl
abbrev Mo : Type := List Int × List Int
theorem szIntS_p {a : List Int} (h : a.length ≤ 9223372036854775807) {m : Int} (h0 : 0 ≤ m) (hm : m ≤ 1048576) : ∃ r, laws_szIntS a m = some r ∧ (0 ≤ r → (a.length : Int) + r = m) ∧ r ≤ 1048576 := by
  rw [laws_szIntS_eq, w64_id (by omega) (by omega)]
  by_cases c : m - (a.length : Int) < 0
  · rw [decide_eq_true c]; exact ⟨-1, rfl, fun k => by omega, by omega⟩
  · rw [decide_eq_false c]; exact ⟨_, rfl, fun k => by omega, by omega⟩
theorem szMorphism_p {a : Mo} (h1 : a.1.length ≤ 9223372036854775807) (h2 : a.2.length ≤ 9223372036854775807) {m : Int} (h0 : 0 ≤ m) (hm : m ≤ 1048576) : ∃ r, laws_szMorphism a m = some r ∧ (0 ≤ r → (a.1.length : Int) + (a.2.length : Int) + r = m) := by
  obtain ⟨r, k1, k2, k3⟩ := szIntS_p h1 h0 hm
  rw [laws_szMorphism_eq, k1]
  simp only [Option.bind_some]
  by_cases c : r < 0
  · rw [decide_eq_true c]; exact ⟨-1, rfl, fun k => by omega⟩
  · rw [decide_eq_false c]
    have := k2 (by omega)
    obtain ⟨r2, j1, j2, j3⟩ := szIntS_p h2 (m := r) (by omega) (by omega)
    rw [j1]
    simp only [cond_false, Option.bind_some]
    by_cases c : r2 < 0
    · rw [decide_eq_true c]; exact ⟨-1, rfl, fun k => by omega⟩
    · rw [decide_eq_false c]; exact ⟨r2, rfl, fun k => by have := j2 (by omega); omega⟩
theorem toIntS_p {a : List Int} (h : a.length ≤ 1048576) : laws_toIntS a = some a := by
  rw [laws_toIntS_eq, room_ok h]
  simp only [cond_true, Int.toNat_natCast]
  have := upFold (n := a.length) (f := fun s i => laws_toIntS_l0 a s i) (g := fun k s => s.set k (a.getD k 0)) (fun _ s => s.length = a.length) (fun k s hk hs => ⟨by
    rw [laws_toIntS_l0_eq, dec_lt_t hk, inside_lt hk]
    simp only [cond_true, Int.toNat_natCast]
    rw [hs, inside_lt hk, w64_succ hk (by omega)]
    rfl, by simp [hs]⟩) (s := List.replicate a.length 0) (by simp)
  refine this.1.trans ?_
  rw [itr_fill (fun k => a.getD k 0) a.length (by simp), laws_toIntS_l0_eq, dec_lt_f, map_getD]
  simp
theorem toMorphism_p {a : Mo} (h1 : a.1.length ≤ 1048576) (h2 : a.2.length ≤ 1048576) : laws_toMorphism a = some a := by
  rw [laws_toMorphism_eq, toIntS_p h1, toIntS_p h2]; rfl
theorem true_of {a : Option Bool} {p : Prop} (h : ∃ r, a = some r ∧ (r = true ↔ p)) (hp : p) : a = some true := by
  obtain ⟨r, h1, h2⟩ := h
  rw [h1, h2.2 hp]
end Go.Proofs.YtaapeofhcopajaaDoor.D

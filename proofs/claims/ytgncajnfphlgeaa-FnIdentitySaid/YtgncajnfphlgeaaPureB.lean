/-
  The law file's own helpers, told plainly: sizes, copies, comparisons, marks.
-/
import Derived.Test.YtgncajnfphlgeaaPureA
import Derived.Test.YtgncajnfphlgeaaEqs
namespace Go.Proofs.Ytgncajnfphlgeaa.D
open Go Go.Den
set_option linter.unusedVariables false
set_option linter.unusedSimpArgs false
theorem map_getD {α : Type} (d : α) (a : List α) : (List.range a.length).map (fun k => a.getD k d) = a := by
  refine ext_getD (d := d) (by simp) fun j hj => ?_
  rw [getD_range_map _ (by simpa using hj)]
theorem room_ok {n : Nat} (h : n ≤ 1048576) : (decide (0 ≤ (n : Int)) && decide ((n : Int) ≤ (room : Int))) = true := by
  have h1 : (0 : Int) ≤ (n : Int) := by omega
  have h2 : (n : Int) ≤ (room : Int) := by unfold room; omega
  rw [decide_eq_true h1, decide_eq_true h2]; rfl
theorem toEdgeS_p {a : List (Int × Int)} (h : a.length ≤ 1048576) : laws_toEdgeS a = some a := by
  rw [laws_toEdgeS_eq, room_ok h]
  simp only [cond_true, Int.toNat_natCast]
  have := upFold (n := a.length) (f := fun s i => laws_toEdgeS_l0 a s i) (g := fun k s => s.set k (a.getD k (0, 0))) (fun _ s => s.length = a.length) (fun k s hk hs => ⟨by
    rw [laws_toEdgeS_l0_eq, dec_lt_t hk, inside_lt hk]
    simp only [cond_true, Int.toNat_natCast, laws_toEdge_eq, Option.bind_some]
    rw [hs, inside_lt hk, w64_succ hk (by omega)]
    rfl, by simp [hs]⟩) (s := List.replicate a.length (0, 0)) (by simp)
  refine this.1.trans ?_
  rw [itr_fill (fun k => a.getD k (0, 0)) a.length (by simp), laws_toEdgeS_l0_eq, dec_lt_f, map_getD]
  simp
theorem toGraph_p {a : Int × List (Int × Int)} (h : a.2.length ≤ 1048576) : laws_toGraph a = some a := by
  rw [laws_toGraph_eq, toEdgeS_p h]; rfl
theorem szEdgeS_p {a : List (Int × Int)} (h : a.length ≤ 9223372036854775807) {m : Int} (h0 : 0 ≤ m) (hm : m ≤ 1048576) : ∃ r, laws_szEdgeS a m = some r ∧ (0 ≤ r → (a.length : Int) + r = m) := by
  rw [laws_szEdgeS_eq, w64_id (by omega) (by omega)]
  by_cases c : m - (a.length : Int) < 0
  · rw [decide_eq_true c]; exact ⟨-1, rfl, fun k => by omega⟩
  · rw [decide_eq_false c]; exact ⟨_, rfl, fun k => by omega⟩
theorem szGraph_p {a : Int × List (Int × Int)} (h : a.2.length ≤ 9223372036854775807) {m : Int} (h0 : 0 ≤ m) (hm : m ≤ 1048576) : ∃ r, laws_szGraph a m = some r ∧ (0 ≤ r → (a.2.length : Int) + r = m) := by
  obtain ⟨r, h1, h2⟩ := szEdgeS_p h h0 hm
  rw [laws_szGraph_eq, h1]
  simp only [Option.bind_some]
  by_cases c : r < 0
  · rw [decide_eq_true c]; exact ⟨-1, rfl, fun k => by omega⟩
  · rw [decide_eq_false c]; exact ⟨r, rfl, fun k => h2 k⟩
theorem bne_int {a b : Int} : (a != b) = !(a == b) := rfl
theorem ne_t {a b : Int} (h : ¬ a = b) : (a != b) = true := bne_iff_ne.2 h
theorem eq_f {a b : Int} (h : a = b) : (a != b) = false := by rw [h]; simp
theorem eqEdge_p {a b : Int × Int} : ∃ r, laws_eqEdge a b = some r ∧ (r = true ↔ a = b) := by
  rw [laws_eqEdge_eq]
  by_cases c1 : a.1 = b.1
  · by_cases c2 : a.2 = b.2
    · exact ⟨true, by rw [eq_f c1, eq_f c2]; rfl, ⟨fun _ => Prod.ext c1 c2, fun _ => rfl⟩⟩
    · exact ⟨false, by rw [eq_f c1, ne_t c2]; rfl, ⟨fun k => (by cases k), fun k => absurd (congrArg Prod.snd k) c2⟩⟩
  · exact ⟨false, by rw [ne_t c1]; rfl, ⟨fun k => (by cases k), fun k => absurd (congrArg Prod.fst k) c1⟩⟩
theorem eqEdgeS_p {a b : List (Int × Int)} (h : a.length ≤ 9223372036854775807) : ∃ r, laws_eqEdgeS a b = some r ∧ (r = true ↔ a = b) := by
  rw [laws_eqEdgeS_eq]
  by_cases c : a.length = b.length
  · have hc : (((a.length : Int) : Int) != (b.length : Int)) = false := by rw [c]; simp
    rw [hc]
    simp only [cond_false]
    obtain ⟨r, h1, h2⟩ := upAll (n := a.length) (f := fun i => laws_eqEdgeS_l0 a b i) (p := fun k => decide (a.getD k (0, 0) = b.getD k (0, 0))) (fun k hk => by
      rw [laws_eqEdgeS_l0_eq, dec_lt_t hk, inside_lt hk, inside_lt (c ▸ hk), w64_succ hk h]
      simp only [cond_true, Int.toNat_natCast]
      obtain ⟨r, k1, k2⟩ := eqEdge_p (a := a.getD k (0, 0)) (b := b.getD k (0, 0))
      rw [k1]
      have : decide (a.getD k (0, 0) = b.getD k (0, 0)) = r := by rw [Bool.eq_iff_iff, k2]; simp
      rw [this]
      cases r <;> rfl) (by rw [laws_eqEdgeS_l0_eq, dec_lt_f]; rfl)
    refine ⟨r, h1, h2.trans ⟨fun q => ext_getD (d := (0, 0)) c fun j hj => of_decide_eq_true (q j hj), fun q j _ => by rw [q]; simp⟩⟩
  · have hc : (((a.length : Int) : Int) != (b.length : Int)) = true := by
      rw [bne_iff_ne]; omega
    rw [hc]
    exact ⟨false, rfl, ⟨fun k => (by cases k), fun k => absurd (congrArg List.length k) c⟩⟩
theorem eqGraph_p {a b : Int × List (Int × Int)} (h : a.2.length ≤ 9223372036854775807) : ∃ r, laws_eqGraph a b = some r ∧ (r = true ↔ a = b) := by
  obtain ⟨r, p, q⟩ := eqEdgeS_p (b := b.2) h
  rw [laws_eqGraph_eq, p]
  by_cases c : a.1 = b.1
  · cases r with
    | false => exact ⟨false, by rw [eq_f c]; rfl, ⟨fun k => (by cases k), fun k => by rw [k] at q; exact absurd (q.2 rfl) (by simp)⟩⟩
    | true => exact ⟨true, by rw [eq_f c]; rfl, ⟨fun _ => Prod.ext c (q.1 rfl), fun _ => rfl⟩⟩
  · exact ⟨false, by rw [ne_t c]; rfl, ⟨fun k => (by cases k), fun k => absurd (congrArg Prod.fst k) c⟩⟩
/-- marks: a row's places are numbered -/
def run (m : Int) (n : Nat) : List Int := (List.range n).map fun (k : Nat) => m + (k : Int)
end Go.Proofs.Ytgncajnfphlgeaa.D

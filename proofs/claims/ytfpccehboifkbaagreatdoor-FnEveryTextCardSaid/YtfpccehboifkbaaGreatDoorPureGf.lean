/-
  The law file's graphs and divisors are valid.
-/
import Derived.Test.YtfpccehboifkbaaGreatDoorPureGe
namespace Go.Proofs.YtfpccehboifkbaaGreatDoor.D
open Go Go.Den
set_option linter.unusedVariables false
set_option linter.unusedSimpArgs false
/-- each later vertex has one edge, to an earlier one -/
def Tr (es : List (Int × Int)) : Prop := ∀ j : Nat, j < es.length → (es.getD j (0, 0)).2 = (j : Int) + 1 ∧ 0 ≤ (es.getD j (0, 0)).1 ∧ (es.getD j (0, 0)).1 ≤ (j : Int)
theorem tree_mul {n : Nat} {es : List (Int × Int)} (ht : Tr es) (hl : es.length + 1 = n) (hn : n ≤ 6) {a b : Nat} (hab : a < b) (hb : b < n) : spec_Multiplicity ((n : Int), es) (a : Int) (b : Int) = some (if (es.getD (b - 1) (0, 0)).1 = (a : Int) then 1 else 0) := by
  have vert : ∀ v : Nat, v < n → spec_l02Vert ((n : Int), es) (v : Int) = some true := fun v hv => by
    rw [spec_l02Vert_eq, decide_eq_true (by omega), cond_true, decide_eq_true (by show (v : Int) < (n : Int); omega)]
  rw [spec_Multiplicity_eq, vert a (by omega), vert b hb]
  simp only [Option.bind_some, Bool.not_true, cond_false]
  rw [beq_f (show ¬ (a : Int) = (b : Int) by omega), cond_false]
  have := upFold (n := es.length) (f := fun s i => spec_Multiplicity_l0 (a : Int) (b : Int) s es (es.length : Int) i) (g := fun k s => if b ≤ k + 1 ∧ (es.getD (b - 1) (0, 0)).1 = (a : Int) then 1 else 0) (fun k s => s = if b ≤ k ∧ (es.getD (b - 1) (0, 0)).1 = (a : Int) then 1 else 0) (fun k s hk hs => ⟨by
    obtain ⟨q1, q2, q3⟩ := ht k hk
    subst hs
    rw [spec_Multiplicity_l0_eq, dec_lt_t hk, inside_lt hk, toNat_n, w64_succ hk (by omega), imin_n, imax_n, q1, show min a b = a by omega, show max a b = b by omega]
    simp only [cond_true]
    by_cases c1 : b = k + 1
    · have e : b - 1 = k := by omega
      rw [e, if_neg (show ¬ (b ≤ k ∧ (es.getD k (0, 0)).1 = (a : Int)) by omega)]
      by_cases c2 : (es.getD k (0, 0)).1 = (a : Int)
      · rw [beq_t c2, beq_t (show (k : Int) + 1 = (b : Int) by omega), if_pos ⟨by omega, c2⟩]; rfl
      · rw [beq_f c2, if_neg (fun h => c2 h.2)]; rfl
    · have e2 : (if b ≤ k + 1 ∧ (es.getD (b - 1) (0, 0)).1 = (a : Int) then (1 : Int) else 0) = if b ≤ k ∧ (es.getD (b - 1) (0, 0)).1 = (a : Int) then 1 else 0 := by
        by_cases c : b ≤ k
        · have : b ≤ k + 1 := by omega
          simp only [c, this]
        · have : ¬ b ≤ k + 1 := by omega
          simp only [c, this, false_and]
      rw [e2, beq_f (show ¬ (k : Int) + 1 = (b : Int) by omega)]
      cases (es.getD k (0, 0)).1 == (a : Int) <;> rfl, rfl⟩) (s := 0) (by rw [if_neg (by omega)])
  refine this.1.trans ?_
  rw [this.2, spec_Multiplicity_l0_eq, dec_lt_f, cond_false]
  congr 1
  have : b ≤ es.length := by omega
  simp only [this, true_and]
/-- the sorted copy, up to a pair -/
structure HI (es : List (Int × Int)) (n : Nat) (a b : Int) (hs : List (Int × Int)) : Prop where
  srt : hs.Pairwise Lt
  ok : ∀ e ∈ hs, EdOk n e ∧ Lt e (a, b)
  all : ∀ j : Nat, j < es.length → Lt (es.getD j (0, 0)) (a, b) → es.getD j (0, 0) ∈ hs
theorem HI.len {es : List (Int × Int)} {n : Nat} (hn : n ≤ 4) {a b : Int} {hs : List (Int × Int)} (h : HI es n a b hs) : hs.length ≤ 6 := by
  have hnd : hs.Nodup := List.Pairwise.imp (fun {a b} (hab : Lt a b) (e : a = b) => Lt.irrefl (a := b) (by rw [e] at hab; exact hab)) h.srt
  refine nodup_len (m := [(0, 1), (0, 2), (0, 3), (1, 2), (1, 3), (2, 3)]) hnd fun e he => ?_
  obtain ⟨h1, h2, h3⟩ := (h.ok e he).1
  obtain ⟨u, v⟩ := e
  simp only at h1 h2 h3
  have hu : u = 0 ∨ u = 1 ∨ u = 2 := by omega
  have hv : v = 1 ∨ v = 2 ∨ v = 3 := by omega
  rcases hu with rfl | rfl | rfl <;> rcases hv with rfl | rfl | rfl <;> first | (exfalso; omega) | simp
theorem HI.skip {es : List (Int × Int)} {n : Nat} {a b : Nat} {hs : List (Int × Int)} (ht : Tr es) (h : HI es n a b hs) (hb : 1 ≤ b) (hne : ¬ (es.getD (b - 1) (0, 0)).1 = (a : Int)) : HI es n a ((b : Int) + 1) hs := by
  refine ⟨h.srt, fun e he => ⟨(h.ok e he).1, ?_⟩, fun j hj hlt => h.all j hj ?_⟩
  · have := (h.ok e he).2
    unfold Lt at *; simp only at *; omega
  · obtain ⟨q1, q2, q3⟩ := ht j hj
    unfold Lt at *
    simp only at *
    rcases hlt with k | ⟨k1, k2⟩
    · exact .inl k
    · refine .inr ⟨k1, ?_⟩
      by_cases c : j = b - 1
      · subst c; exact absurd k1 hne
      · omega
theorem HI.put {es : List (Int × Int)} {n : Nat} {a b : Nat} {hs : List (Int × Int)} (ht : Tr es) (h : HI es n a b hs) (hab : a < b) (hb : b < n) (he : (es.getD (b - 1) (0, 0)).1 = (a : Int)) : HI es n a ((b : Int) + 1) (hs ++ [((a : Int), (b : Int))]) := by
  refine ⟨?_, fun e he => ?_, fun j hj hlt => ?_⟩
  · rw [List.pairwise_append]
    exact ⟨h.srt, List.pairwise_singleton _ _, fun x hx y hy => by rw [List.mem_singleton.1 hy]; exact (h.ok x hx).2⟩
  · rcases List.mem_append.1 he with he | he
    · refine ⟨(h.ok e he).1, ?_⟩
      have := (h.ok e he).2
      unfold Lt at *; simp only at *; omega
    · rw [List.mem_singleton.1 he]
      exact ⟨⟨by show (0 : Int) ≤ (a : Int); omega, by show (a : Int) < (b : Int); omega, by show (b : Int) < (n : Int); omega⟩, .inr ⟨rfl, by show (b : Int) < (b : Int) + 1; omega⟩⟩
  · obtain ⟨q1, q2, q3⟩ := ht j hj
    by_cases c : j = b - 1
    · subst c
      refine List.mem_append_right _ (List.mem_singleton.2 (Prod.ext he ?_))
      rw [q1]; show ((b - 1 : Nat) : Int) + 1 = (b : Int); omega
    · refine List.mem_append_left _ (h.all j hj ?_)
      unfold Lt at *
      simp only at *
      rcases hlt with k | ⟨k1, k2⟩
      · exact .inl k
      · exact .inr ⟨k1, by omega⟩
theorem HI.row {es : List (Int × Int)} {n : Nat} {a : Nat} {hs : List (Int × Int)} (ht : Tr es) (hl : es.length + 1 = n) (h : HI es n a n hs) : HI es n ((a + 1 : Nat) : Int) (((a + 1 : Nat) : Int) + 1) hs := by
  refine ⟨h.srt, fun e he => ⟨(h.ok e he).1, ?_⟩, fun j hj hlt => h.all j hj ?_⟩
  · have := (h.ok e he).2
    unfold Lt at *; simp only at *; omega
  · obtain ⟨q1, q2, q3⟩ := ht j hj
    unfold Lt at *
    simp only at *
    omega
end Go.Proofs.YtfpccehboifkbaaGreatDoor.D

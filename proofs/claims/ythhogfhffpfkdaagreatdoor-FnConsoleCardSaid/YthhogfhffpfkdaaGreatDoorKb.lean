/-
  Copies of the told functions, carried out step by step.
-/
import Derived.Test.YthhogfhffpfkdaaGreatDoorEqs
import Derived.Test.YthhogfhffpfkdaaGreatDoorKl
namespace Go.Proofs.YthhogfhffpfkdaaGreatDoor.D
open Go Go.Den
set_option linter.unusedVariables false
set_option maxRecDepth 100000
namespace K
noncomputable def k0 (a0 : Int) (a1 : Int) (a2 : Int) : Option Bool :=
 cond (decide (a0 ≥ a1))
 (fk (decide (a0 ≤ a2)) some)
 (some false)
theorem q0 {a0 a1 a2} : Le (k0 a0 a1 a2) (impl_within a0 a1 a2) := by
 rw [impl_within_eq]; unfold k0; exact (LC (LF LR) LR)
abbrev c1T := (Int → Int → (List Int) → Int → Int → Option Bool)
noncomputable def c1S (ih : c1T) : c1T := (fun x1 x2 x9 x10 x11 => cond (decide (x11 < x10))
 (cond (inside x11 x9.length)
 ((fk (x9.getD x11.toNat 0) fun v1 => k0 v1 x1 x2).bind fun r1 => cond (!r1)
 (some false)
 (fk (w64 (x11 + 1)) fun v2 => ih x1 x2 x9 x10 v2))
 (none))
 (some true))
noncomputable def c1 (n : Nat) : c1T := Nat.rec (motive := fun _ => c1T) (fun _ _ _ _ _ => none) (fun _ ih => c1S ih) n
theorem c1L (n : Nat) : (∀ {x1 x2 x9 x10 x11}, Le ((c1 n) x1 x2 x9 x10 x11) (impl_allWithin_l0 x1 x2 x9 x10 x11)) := by
 induction n with
 | zero => exact LN
 | succ n ih =>
  have h0 := @ih
  · intro x1 x2 x9 x10 x11; rw [impl_allWithin_l0_eq]; show Le ((c1S (c1 n)) x1 x2 x9 x10 x11) _; exact (LC (LC (LB (LF q0) fun _ => (LC LR (LF h0))) LR) LR)
noncomputable def k1 := (c1 1000000)
theorem q1 {x1 x2 x9 x10 x11} : Le (k1 x1 x2 x9 x10 x11) (impl_allWithin_l0 x1 x2 x9 x10 x11) := (c1L 1000000)
noncomputable def k2 (a0 : (List Int)) (a1 : Int) (a2 : Int) : Option Bool :=
 fk (a0.length : Int) fun v3 => k1 a1 a2 a0 v3 0
theorem q2 {a0 a1 a2} : Le (k2 a0 a1 a2) (impl_allWithin a0 a1 a2) := by
 rw [impl_allWithin_eq]; unfold k2; exact (LF q1)
abbrev c3T := ((List (List Int)) → (List (List Int)) → Int → Int → Option Bool)
noncomputable def c3S (ih : c3T) : c3T := (fun x0 x8 x9 x10 => cond (decide (x10 < x9))
 (cond (inside x10 x8.length)
 (cond ((((x8.getD x10.toNat ([] : List Int)).length : Int) : Int) != (x0.length : Int))
 (some false)
 ((fk (x8.getD x10.toNat ([] : List Int)) fun v4 => k2 v4 (-500) 500).bind fun r1 => cond (!r1)
 (some false)
 (fk (w64 (x10 + 1)) fun v5 => ih x0 x8 x9 v5)))
 (none))
 (some true))
noncomputable def c3 (n : Nat) : c3T := Nat.rec (motive := fun _ => c3T) (fun _ _ _ _ => none) (fun _ ih => c3S ih) n
theorem c3L (n : Nat) : (∀ {x0 x8 x9 x10}, Le ((c3 n) x0 x8 x9 x10) (impl_MatrixOk_l0 x0 x8 x9 x10)) := by
 induction n with
 | zero => exact LN
 | succ n ih =>
  have h0 := @ih
  · intro x0 x8 x9 x10; rw [impl_MatrixOk_l0_eq]; show Le ((c3S (c3 n)) x0 x8 x9 x10) _; exact (LC (LC (LC LR (LB (LF q2) fun _ => (LC LR (LF h0)))) LR) LR)
noncomputable def k3 := (c3 1000000)
theorem q3 {x0 x8 x9 x10} : Le (k3 x0 x8 x9 x10) (impl_MatrixOk_l0 x0 x8 x9 x10) := (c3L 1000000)
noncomputable def k4 (a0 : (List (List Int))) : Option Bool :=
 cond (decide ((a0.length : Int) > 6))
 (some false)
 (fk (a0.length : Int) fun v6 => k3 a0 a0 v6 0)
theorem q4 {a0} : Le (k4 a0) (impl_MatrixOk a0) := by
 rw [impl_MatrixOk_eq]; unfold k4; exact (LC LR (LF q3))
abbrev c5T := (Int → (List Int) → Int → Option (List Int))
noncomputable def c5S (ih : c5T) : c5T := (fun x0 x3 x4 => cond (decide (x4 < 0))
 (none)
 (cond (decide (Int.fdiv x0 (2 ^ (min x4.toNat 64)) > 0))
 (cond (decide (x4 < 0))
 (none)
 (cond (((bits .and .i64 (Int.fdiv x0 (2 ^ (min x4.toNat 64))) 1) : Int) == 1)
 (cond (decide (x3.length + ([x4] : List Int).length ≤ room))
 (fk (x3 ++ ([x4] : List Int)) fun v7 => fk (w64 (x4 + 1)) fun v8 => ih x0 v7 v8)
 (none))
 (fk (w64 (x4 + 1)) fun v9 => ih x0 x3 v9)))
 (some x3)))
noncomputable def c5 (n : Nat) : c5T := Nat.rec (motive := fun _ => c5T) (fun _ _ _ => none) (fun _ ih => c5S ih) n
theorem c5L (n : Nat) : (∀ {x0 x3 x4}, Le ((c5 n) x0 x3 x4) (impl_bitsOf_l0 x0 x3 x4)) := by
 induction n with
 | zero => exact LN
 | succ n ih =>
  have h0 := @ih
  · intro x0 x3 x4; rw [impl_bitsOf_l0_eq]; show Le ((c5S (c5 n)) x0 x3 x4) _; exact (LC LR (LC (LC LR (LC (LC (LF (LF h0)) LR) (LF h0))) LR))
noncomputable def k5 := (c5 1000000)
theorem q5 {x0 x3 x4} : Le (k5 x0 x3 x4) (impl_bitsOf_l0 x0 x3 x4) := (c5L 1000000)
noncomputable def k6 (a0 : Int) : Option (List Int) :=
 k5 a0 ([] : List Int) 0
theorem q6 {a0} : Le (k6 a0) (impl_bitsOf a0) := by
 rw [impl_bitsOf_eq]; unfold k6; exact q5
abbrev c7T := ((List (List Int)) → (List Int) → Int → Option Int) × ((List (List Int)) → (List Int) → Int → Int → Int → (List Int) → Int → Int → Option Int)
noncomputable def c7S (ih : c7T) : c7T := (fun a0 a1 a2 => cond (((a1.length : Int) : Int) == 0)
 (some 1)
 (cond (inside 0 a1.length)
 (cond (inside (a1.getD 0 0) a0.length)
 (fk (a0.getD ((a1.getD 0 0).toNat) ([] : List Int)) fun v10 => fk ((a0.getD ((a1.getD 0 0).toNat) ([] : List Int)).length : Int) fun v11 => ih.2 a0 a1 a2 0 1 v10 v11 0)
 (none))
 (none)),
 fun x0 x1 x2 x7 x8 x19 x20 x21 => cond (decide (x21 < x20))
 (cond (inside x21 x19.length)
 (cond (decide (x21 < 0))
 (none)
 (cond (((bits .and .i64 (Int.fdiv x2 (2 ^ (min x21.toNat 64))) 1) : Int) == 0)
 (fk (w64 (x21 + 1)) fun v12 => ih.2 x0 x1 x2 x7 x8 x19 x20 v12)
 (cond (((x19.getD x21.toNat 0) : Int) != 0)
 (cond (decide (0 ≤ 1) && decide (1 ≤ (x1.length : Int)) && decide ((x1.length : Int) ≤ (x1.length : Int)))
 (cond (decide (x21 < 0))
 (none)
 ((fk ((x1.take ((x1.length : Int).toNat)).drop 1) fun v13 => fk (bits .andNot .i64 x2 (w64 (1 * 2 ^ (min x21.toNat 64)))) fun v14 => ih.1 x0 v13 v14).bind fun r1 => fk (w64 (x7 + (w64 ((w64 (x8 * (x19.getD x21.toNat 0))) * r1)))) fun v15 => fk (w64 (0 - x8)) fun v16 => fk (w64 (x21 + 1)) fun v17 => ih.2 x0 x1 x2 v15 v16 x19 x20 v17))
 (none))
 (fk (w64 (0 - x8)) fun v18 => fk (w64 (x21 + 1)) fun v19 => ih.2 x0 x1 x2 x7 v18 x19 x20 v19))))
 (none))
 (some x7))
noncomputable def c7 (n : Nat) : c7T := Nat.rec (motive := fun _ => c7T) (fun _ _ _ => none, fun _ _ _ _ _ _ _ _ => none) (fun _ ih => c7S ih) n
theorem c7L (n : Nat) : (∀ {a0 a1 a2}, Le ((c7 n).1 a0 a1 a2) (impl_determinant a0 a1 a2)) ∧ (∀ {x0 x1 x2 x7 x8 x19 x20 x21}, Le ((c7 n).2 x0 x1 x2 x7 x8 x19 x20 x21) (impl_determinant_l0 x0 x1 x2 x7 x8 x19 x20 x21)) := by
 induction n with
 | zero => exact ⟨LN, LN⟩
 | succ n ih =>
  obtain ⟨h0, h1⟩ := ih
  refine ⟨?_, ?_⟩
  · intro a0 a1 a2; rw [impl_determinant_eq]; show Le ((c7S (c7 n)).1 a0 a1 a2) _; exact (LC LR (LC (LC (LF (LF h1)) LR) LR))
  · intro x0 x1 x2 x7 x8 x19 x20 x21; rw [impl_determinant_l0_eq]; show Le ((c7S (c7 n)).2 x0 x1 x2 x7 x8 x19 x20 x21) _; exact (LC (LC (LC LR (LC (LF h1) (LC (LC (LC LR (LB (LF (LF h0)) fun _ => (LF (LF (LF h1))))) LR) (LF (LF h1))))) LR) LR)
noncomputable def k7 := (c7 1000000).1
theorem q7 {a0 a1 a2} : Le (k7 a0 a1 a2) (impl_determinant a0 a1 a2) := (c7L 1000000).1
noncomputable def k9 (a0 : (List (List Int))) : Option Int :=
 (k4 a0).bind fun r1 => cond (!r1)
 (some 0)
 (cond (decide ((a0.length : Int) < 0))
 (none)
 ((fk (w64 ((w64 (1 * 2 ^ (min (a0.length : Int).toNat 64))) - 1)) fun v20 => k6 v20).bind fun r2 => cond (decide ((a0.length : Int) < 0))
 (none)
 ((fk (w64 ((w64 (1 * 2 ^ (min (a0.length : Int).toNat 64))) - 1)) fun v21 => k7 a0 r2 v21).bind fun r3 => some r3)))
theorem q9 {a0} : Le (k9 a0) (impl_Determinant a0) := by
 rw [impl_Determinant_eq]; unfold k9; exact (LB q4 fun _ => (LC LR (LC LR (LB (LF q6) fun _ => (LC LR (LB (LF q7) fun _ => LR))))))
noncomputable def k10 (a0 : Int) : Option Bool :=
 fk ((a0 : Int) != a0) some
theorem q10 {a0} : Le (k10 a0) (cmp_isNaN_int a0) := by
 rw [cmp_isNaN_int_eq]; unfold k10; exact (LF LR)
noncomputable def k11 (a0 : Int) (a1 : Int) : Option Int :=
 (k10 a0).bind fun r1 => (k10 a1).bind fun r2 => cond (r1) (cond (r2) (some 0) (some (-1))) (cond (r2) (some 1) (cond (decide (a0 < a1)) (some (-1)) (cond (decide (a0 > a1)) (some 1) (some 0))))
theorem q11 {a0 a1} : Le (k11 a0 a1) (cmp_Compare_int a0 a1) := by
 rw [cmp_Compare_int_eq]; unfold k11; exact (LB q10 fun _ => (LB q10 fun _ => LR))
noncomputable def k12 (a0 : (Int × Int)) (a1 : (Int × Int)) : Option Int :=
 (k11 a0.1 a1.1).bind fun r1 => cond ((r1 : Int) != 0)
 (some r1)
 ((k11 a0.2 a1.2).bind fun r2 => some r2)
theorem q12 {a0 a1} : Le (k12 a0 a1) (impl_compareEdges a0 a1) := by
 rw [impl_compareEdges_eq]; unfold k12; exact (LB q11 fun _ => (LC LR (LB q11 fun _ => LR)))
abbrev c12T := (ZS → Int → Option Bool)
noncomputable def c12S (ih : c12T) : c12T := (fun x0 x5 => cond (decide (x5 > 0))
 (cond (inside x5 x0.length)
 (cond (inside (w64 (x5 - 1)) x0.length)
 ((fk (x0.getD x5.toNat (0, 0)) fun v22 => fk (x0.getD ((w64 (x5 - 1)).toNat) (0, 0)) fun v23 => k12 v22 v23).bind fun r1 => cond (decide (r1 < 0))
 (some false)
 (fk (w64 (x5 - 1)) fun v24 => ih x0 v24))
 (none))
 (none))
 (some true))
noncomputable def c12 (n : Nat) : c12T := Nat.rec (motive := fun _ => c12T) (fun _ _ => none) (fun _ ih => c12S ih) n
theorem c12L (n : Nat) : (∀ {x0 x5}, Le ((c12 n) x0 x5) (impl_Edge__compareEdges_l0 x0 x5)) := by
 induction n with
 | zero => exact LN
 | succ n ih =>
  have h0 := @ih
  · intro x0 x5; rw [impl_Edge__compareEdges_l0_eq]; show Le ((c12S (c12 n)) x0 x5) _; exact (LC (LC (LC (LB (LF (LF q12)) fun _ => (LC LR (LF h0))) LR) LR) LR)
noncomputable def k13 := (c12 1000000)
theorem q13 {x0 x5} : Le (k13 x0 x5) (impl_Edge__compareEdges_l0 x0 x5) := (c12L 1000000)
noncomputable def k14 (a0 : ZS) : Option Bool :=
 fk (w64 ((a0.length : Int) - 1)) fun v25 => k13 a0 v25
theorem q14 {a0} : Le (k14 a0) (impl_Edge__compareEdges a0) := by
 rw [impl_Edge__compareEdges_eq]; unfold k14; exact (LF q13)
abbrev c14T := (ZG → ZS → Int → Int → Option Bool)
noncomputable def c14S (ih : c14T) : c14T := (fun x1 x16 x17 x18 => cond (decide (x18 < x17))
 (cond (inside x18 x16.length)
 (cond (decide ((x16.getD x18.toNat (0, 0)).1 < 0))
 (some false)
 (cond (decide ((x16.getD x18.toNat (0, 0)).1 ≥ (x16.getD x18.toNat (0, 0)).2))
 (some false)
 (cond (decide ((x16.getD x18.toNat (0, 0)).2 ≥ x1.1))
 (some false)
 (fk (w64 (x18 + 1)) fun v26 => ih x1 x16 x17 v26))))
 (none))
 (some true))
noncomputable def c14 (n : Nat) : c14T := Nat.rec (motive := fun _ => c14T) (fun _ _ _ _ => none) (fun _ ih => c14S ih) n
theorem c14L (n : Nat) : (∀ {x1 x16 x17 x18}, Le ((c14 n) x1 x16 x17 x18) (impl_EdgesOk_l0 x1 x16 x17 x18)) := by
 induction n with
 | zero => exact LN
 | succ n ih =>
  have h0 := @ih
  · intro x1 x16 x17 x18; rw [impl_EdgesOk_l0_eq]; show Le ((c14S (c14 n)) x1 x16 x17 x18) _; exact (LC (LC (LC LR (LC LR (LC LR (LF h0)))) LR) LR)
noncomputable def k15 := (c14 1000000)
theorem q15 {x1 x16 x17 x18} : Le (k15 x1 x16 x17 x18) (impl_EdgesOk_l0 x1 x16 x17 x18) := (c14L 1000000)
noncomputable def k16 (a0 : ZG) : Option Bool :=
 (k0 a0.1 1 6).bind fun r1 => cond (!r1)
 (some false)
 (cond (decide ((a0.2.length : Int) > 12))
 (some false)
 (fk (a0.2.length : Int) fun v27 => k15 a0 a0.2 v27 0))
theorem q16 {a0} : Le (k16 a0) (impl_EdgesOk a0) := by
 rw [impl_EdgesOk_eq]; unfold k16; exact (LB q0 fun _ => (LC LR (LC LR (LF q15))))
abbrev c16T := (Int → ZS → Int → Int → Int → Option Bool) × (Int → ZS → Int → Int → Int → ZS → Int → Int → Option Bool)
noncomputable def c16S (ih : c16T) : c16T := (fun x0 x1 x5 x8 x9 => cond (decide (x9 < x8))
 (fk (x1.length : Int) fun v28 => ih.2 x0 x1 x5 x8 x9 x1 v28 0)
 (cond (decide (x0 < 0))
 (none)
 (fk ((x5 : Int) == (w64 ((w64 (1 * 2 ^ (min x0.toNat 64))) - 1))) some)),
 fun x0 x1 x5 x8 x9 x11 x12 x13 => cond (decide (x13 < x12))
 (cond (inside x13 x11.length)
 (cond (decide ((x11.getD x13.toNat (0, 0)).1 < 0))
 (none)
 (cond (((bits .and .i64 (Int.fdiv x5 (2 ^ (min ((x11.getD x13.toNat (0, 0)).1).toNat 64))) 1) : Int) == 1)
 (cond (decide ((x11.getD x13.toNat (0, 0)).1 < 0))
 (none)
 (cond (decide ((x11.getD x13.toNat (0, 0)).2 < 0))
 (none)
 (fk (bits .or .i64 x5 (bits .or .i64 (w64 (1 * 2 ^ (min ((x11.getD x13.toNat (0, 0)).1).toNat 64))) (w64 (1 * 2 ^ (min ((x11.getD x13.toNat (0, 0)).2).toNat 64))))) fun v29 => fk (w64 (x13 + 1)) fun v30 => ih.2 x0 x1 v29 x8 x9 x11 x12 v30)))
 (cond (decide ((x11.getD x13.toNat (0, 0)).2 < 0))
 (none)
 (cond (((bits .and .i64 (Int.fdiv x5 (2 ^ (min ((x11.getD x13.toNat (0, 0)).2).toNat 64))) 1) : Int) == 1)
 (cond (decide ((x11.getD x13.toNat (0, 0)).1 < 0))
 (none)
 (cond (decide ((x11.getD x13.toNat (0, 0)).2 < 0))
 (none)
 (fk (bits .or .i64 x5 (bits .or .i64 (w64 (1 * 2 ^ (min ((x11.getD x13.toNat (0, 0)).1).toNat 64))) (w64 (1 * 2 ^ (min ((x11.getD x13.toNat (0, 0)).2).toNat 64))))) fun v31 => fk (w64 (x13 + 1)) fun v32 => ih.2 x0 x1 v31 x8 x9 x11 x12 v32)))
 (fk (w64 (x13 + 1)) fun v33 => ih.2 x0 x1 x5 x8 x9 x11 x12 v33)))))
 (none))
 (fk (w64 (x9 + 1)) fun v34 => ih.1 x0 x1 x5 x8 v34))
noncomputable def c16 (n : Nat) : c16T := Nat.rec (motive := fun _ => c16T) (fun _ _ _ _ _ => none, fun _ _ _ _ _ _ _ _ => none) (fun _ ih => c16S ih) n
theorem c16L (n : Nat) : (∀ {x0 x1 x5 x8 x9}, Le ((c16 n).1 x0 x1 x5 x8 x9) (impl_connected_l0 x0 x1 x5 x8 x9)) ∧ (∀ {x0 x1 x5 x8 x9 x11 x12 x13}, Le ((c16 n).2 x0 x1 x5 x8 x9 x11 x12 x13) (impl_connected_l2 x0 x1 x5 x8 x9 x11 x12 x13)) := by
 induction n with
 | zero => exact ⟨LN, LN⟩
 | succ n ih =>
  obtain ⟨h0, h1⟩ := ih
  refine ⟨?_, ?_⟩
  · intro x0 x1 x5 x8 x9; rw [impl_connected_l0_eq]; show Le ((c16S (c16 n)).1 x0 x1 x5 x8 x9) _; exact (LC (LF h1) (LC LR (LF LR)))
  · intro x0 x1 x5 x8 x9 x11 x12 x13; rw [impl_connected_l2_eq]; show Le ((c16S (c16 n)).2 x0 x1 x5 x8 x9 x11 x12 x13) _; exact (LC (LC (LC LR (LC (LC LR (LC LR (LF (LF h1)))) (LC LR (LC (LC LR (LC LR (LF (LF h1)))) (LF h1))))) LR) (LF h0))
noncomputable def k17 := (c16 1000000).1
theorem q17 {x0 x1 x5 x8 x9} : Le (k17 x0 x1 x5 x8 x9) (impl_connected_l0 x0 x1 x5 x8 x9) := (c16L 1000000).1
noncomputable def k19 (a0 : Int) (a1 : ZS) : Option Bool :=
 k17 a0 a1 1 a0 0
theorem q19 {a0 a1} : Le (k19 a0 a1) (impl_connected a0 a1) := by
 rw [impl_connected_eq]; unfold k19; exact q17
noncomputable def k20 (a0 : ZG) : Option Bool :=
 (k16 a0).bind fun r1 => cond (r1)
 ((k14 a0.2).bind fun r2 => cond (r2)
 ((k19 a0.1 a0.2).bind fun r3 => some r3)
 (some false))
 (some false)
theorem q20 {a0} : Le (k20 a0) (impl_GraphOk a0) := by
 rw [impl_GraphOk_eq]; unfold k20; exact (LB q16 fun _ => (LC (LB q14 fun _ => (LC (LB q19 fun _ => LR) LR)) LR))
abbrev c19T := (Int → Int → Int → ZS → Int → Int → Option Int)
noncomputable def c19S (ih : c19T) : c19T := (fun x1 x2 x7 x28 x29 x30 => cond (decide (x30 < x29))
 (cond (inside x30 x28.length)
 (cond ((((x28.getD x30.toNat (0, 0)).1) : Int) == (imin x1 x2))
 (cond ((((x28.getD x30.toNat (0, 0)).2) : Int) == (imax x1 x2))
 (fk (w64 (x7 + 1)) fun v35 => fk (w64 (x30 + 1)) fun v36 => ih x1 x2 v35 x28 x29 v36)
 (fk (w64 (x30 + 1)) fun v37 => ih x1 x2 x7 x28 x29 v37))
 (fk (w64 (x30 + 1)) fun v38 => ih x1 x2 x7 x28 x29 v38))
 (none))
 (some x7))
noncomputable def c19 (n : Nat) : c19T := Nat.rec (motive := fun _ => c19T) (fun _ _ _ _ _ _ => none) (fun _ ih => c19S ih) n
theorem c19L (n : Nat) : (∀ {x1 x2 x7 x28 x29 x30}, Le ((c19 n) x1 x2 x7 x28 x29 x30) (impl_Multiplicity_l0 x1 x2 x7 x28 x29 x30)) := by
 induction n with
 | zero => exact LN
 | succ n ih =>
  have h0 := @ih
  · intro x1 x2 x7 x28 x29 x30; rw [impl_Multiplicity_l0_eq]; show Le ((c19S (c19 n)) x1 x2 x7 x28 x29 x30) _; exact (LC (LC (LC (LC (LF (LF h0)) (LF h0)) (LF h0)) LR) LR)
noncomputable def k21 := (c19 1000000)
theorem q21 {x1 x2 x7 x28 x29 x30} : Le (k21 x1 x2 x7 x28 x29 x30) (impl_Multiplicity_l0 x1 x2 x7 x28 x29 x30) := (c19L 1000000)
noncomputable def k22 (a0 : ZG) (a1 : Int) (a2 : Int) : Option Int :=
 cond (decide (imin a1 a2 < 0))
 (some 0)
 (cond (decide (imax a1 a2 ≥ a0.1))
 (some 0)
 (cond ((a1 : Int) == a2)
 (some 0)
 (fk (a0.2.length : Int) fun v39 => k21 a1 a2 0 a0.2 v39 0)))
theorem q22 {a0 a1 a2} : Le (k22 a0 a1 a2) (impl_Multiplicity a0 a1 a2) := by
 rw [impl_Multiplicity_eq]; unfold k22; exact (LC LR (LC LR (LC LR (LF q21))))
abbrev c21T := (Int → Int → ZS → Int → Int → Option Int)
noncomputable def c21S (ih : c21T) : c21T := (fun x1 x5 x17 x18 x19 => cond (decide (x19 < x18))
 (cond (inside x19 x17.length)
 (cond ((((x17.getD x19.toNat (0, 0)).1) : Int) == x1)
 (fk (w64 (x5 + 1)) fun v40 => fk (w64 (x19 + 1)) fun v41 => ih x1 v40 x17 x18 v41)
 (cond ((((x17.getD x19.toNat (0, 0)).2) : Int) == x1)
 (fk (w64 (x5 + 1)) fun v42 => fk (w64 (x19 + 1)) fun v43 => ih x1 v42 x17 x18 v43)
 (fk (w64 (x19 + 1)) fun v44 => ih x1 x5 x17 x18 v44)))
 (none))
 (some x5))
noncomputable def c21 (n : Nat) : c21T := Nat.rec (motive := fun _ => c21T) (fun _ _ _ _ _ => none) (fun _ ih => c21S ih) n
theorem c21L (n : Nat) : (∀ {x1 x5 x17 x18 x19}, Le ((c21 n) x1 x5 x17 x18 x19) (impl_Valence_l0 x1 x5 x17 x18 x19)) := by
 induction n with
 | zero => exact LN
 | succ n ih =>
  have h0 := @ih
  · intro x1 x5 x17 x18 x19; rw [impl_Valence_l0_eq]; show Le ((c21S (c21 n)) x1 x5 x17 x18 x19) _; exact (LC (LC (LC (LF (LF h0)) (LC (LF (LF h0)) (LF h0))) LR) LR)
noncomputable def k23 := (c21 1000000)
theorem q23 {x1 x5 x17 x18 x19} : Le (k23 x1 x5 x17 x18 x19) (impl_Valence_l0 x1 x5 x17 x18 x19) := (c21L 1000000)
noncomputable def k24 (a0 : ZG) (a1 : Int) : Option Int :=
 cond (decide (a1 < 0))
 (some 0)
 (cond (decide (a1 ≥ a0.1))
 (some 0)
 (fk (a0.2.length : Int) fun v45 => k23 a1 0 a0.2 v45 0))
theorem q24 {a0 a1} : Le (k24 a0 a1) (impl_Valence a0 a1) := by
 rw [impl_Valence_eq]; unfold k24; exact (LC LR (LC LR (LF q23)))
abbrev c23T := (ZG → (List (List Int)) → Int → Option (List (List Int))) × (ZG → (List (List Int)) → Int → (List Int) → Int → Int → Option (List (List Int)))
noncomputable def c23S (ih : c23T) : c23T := (fun x1 x3 x4 => cond (decide (x4 < x1.1))
 (cond (decide (0 ≤ x1.1) && decide (x1.1 ≤ (room : Int)))
 (fk (List.replicate x1.1.toNat (0 : Int)) fun v46 => fk ((List.replicate x1.1.toNat (0 : Int)).length : Int) fun v47 => ih.2 x1 x3 x4 v46 v47 0)
 (none))
 (some x3),
 fun x1 x3 x4 x5 x20 x21 => cond (decide (x21 < x20))
 ((k22 x1 x4 x21).bind fun r2 => cond (inside x21 x5.length)
 (fk (x5.set x21.toNat (w64 (0 - r2))) fun v48 => fk (w64 (x21 + 1)) fun v49 => ih.2 x1 x3 x4 v48 x20 v49)
 (none))
 ((k24 x1 x4).bind fun r3 => cond (inside x4 x5.length)
 (cond (decide (x3.length + ([x5.set x4.toNat r3] : List (List Int)).length ≤ room))
 (fk (x3 ++ ([x5.set x4.toNat r3] : List (List Int))) fun v50 => fk (w64 (x4 + 1)) fun v51 => ih.1 x1 v50 v51)
 (none))
 (none)))
noncomputable def c23 (n : Nat) : c23T := Nat.rec (motive := fun _ => c23T) (fun _ _ _ => none, fun _ _ _ _ _ _ => none) (fun _ ih => c23S ih) n
theorem c23L (n : Nat) : (∀ {x1 x3 x4}, Le ((c23 n).1 x1 x3 x4) (impl_LaplacianOf_l0 x1 x3 x4)) ∧ (∀ {x1 x3 x4 x5 x20 x21}, Le ((c23 n).2 x1 x3 x4 x5 x20 x21) (impl_LaplacianOf_l2 x1 x3 x4 x5 x20 x21)) := by
 induction n with
 | zero => exact ⟨LN, LN⟩
 | succ n ih =>
  obtain ⟨h0, h1⟩ := ih
  refine ⟨?_, ?_⟩
  · intro x1 x3 x4; rw [impl_LaplacianOf_l0_eq]; show Le ((c23S (c23 n)).1 x1 x3 x4) _; exact (LC (LC (LF (LF h1)) LR) LR)
  · intro x1 x3 x4 x5 x20 x21; rw [impl_LaplacianOf_l2_eq]; show Le ((c23S (c23 n)).2 x1 x3 x4 x5 x20 x21) _; exact (LC (LB q22 fun _ => (LC (LF (LF h1)) LR)) (LB q24 fun _ => (LC (LC (LF (LF h0)) LR) LR)))
noncomputable def k25 := (c23 1000000).1
theorem q25 {x1 x3 x4} : Le (k25 x1 x3 x4) (impl_LaplacianOf_l0 x1 x3 x4) := (c23L 1000000).1
noncomputable def k27 (a0 : ZG) : Option (List (List Int)) :=
 (k20 a0).bind fun r1 => cond (!r1)
 (fk ([] : List (List Int)) some)
 (fk ([] : List (List Int)) fun v52 => k25 a0 v52 0)
theorem q27 {a0} : Le (k27 a0) (impl_LaplacianOf a0) := by
 rw [impl_LaplacianOf_eq]; unfold k27; exact (LB q20 fun _ => (LC (LF LR) (LF q25)))
noncomputable def k28 (a0 : ZG) (a1 : Int) : Option Bool :=
 (k20 a0).bind fun r1 => cond (r1)
 ((fk (w64 (a0.1 - 1)) fun v53 => k0 a1 0 v53).bind fun r2 => some r2)
 (some false)
theorem q28 {a0 a1} : Le (k28 a0 a1) (impl_isVertex a0 a1) := by
 rw [impl_isVertex_eq]; unfold k28; exact (LB q20 fun _ => (LC (LB (LF q0) fun _ => LR) LR))
noncomputable def k29 (a0 : ZG) (a1 : Int) : Option (List (List Int)) := Lb.redLap k28 k27 a0 a1
theorem q29 {a0 a1} : Le (k29 a0 a1) (impl_ReducedLaplacian a0 a1) := by rw [impl_ReducedLaplacian_eq]; exact Lb.redLap_le (fun _ _ => q28) (fun _ => q27) _ _
noncomputable def k30 (a0 : ZG) : Option Int :=
 (k20 a0).bind fun r1 => cond (!r1)
 (some 0)
 ((k29 a0 0).bind fun r2 => (k9 r2).bind fun r3 => some r3)
theorem q30 {a0} : Le (k30 a0) (impl_CountTrees a0) := by
 rw [impl_CountTrees_eq]; unfold k30; exact (LB q20 fun _ => (LC LR (LB q29 fun _ => (LB q9 fun _ => LR))))
noncomputable def k31 (a0 : Int) : Option ByteArray := Lb.itoa a0
theorem q31 {a0} : Le (k31 a0) (strconv_Itoa a0) := by rw [strconv_Itoa_eq]; exact LR
noncomputable def k32 (a0 : Int) : Option ByteArray :=
 (k31 a0).bind fun r1 => some r1
theorem q32 {a0} : Le (k32 a0) (impl_FormatInt a0) := by
 rw [impl_FormatInt_eq]; unfold k32; exact (LB q31 fun _ => LR)
noncomputable def k33 (a0 : (List ByteArray)) (a1 : ByteArray) : Option ByteArray := Lb.join a0 a1
theorem q33 {a0 a1} : Le (k33 a0 a1) (strings_Join a0 a1) := by rw [strings_Join_eq]; exact LR
noncomputable def k34 (a0 : (List ByteArray)) (a1 : ByteArray) : Option ByteArray :=
 (k33 a0 a1).bind fun r1 => some r1
theorem q34 {a0 a1} : Le (k34 a0 a1) (impl_Join a0 a1) := by
 rw [impl_Join_eq]; unfold k34; exact (LB q33 fun _ => LR)
abbrev c32T := ((List ByteArray) → (List Int) → Int → Int → Option ByteArray)
noncomputable def c32S (ih : c32T) : c32T := (fun x3 x9 x10 x11 => cond (decide (x11 < x10))
 (cond (inside x11 x9.length)
 ((fk (x9.getD x11.toNat 0) fun v54 => k32 v54).bind fun r1 => cond (decide (x3.length + ([r1] : List ByteArray).length ≤ room))
 (fk (x3 ++ ([r1] : List ByteArray)) fun v55 => fk (w64 (x11 + 1)) fun v56 => ih v55 x9 x10 v56)
 (none))
 (none))
 ((fk (⟨#[32]⟩ : ByteArray) fun v57 => k34 x3 v57).bind fun r2 => some r2))
noncomputable def c32 (n : Nat) : c32T := Nat.rec (motive := fun _ => c32T) (fun _ _ _ _ => none) (fun _ ih => c32S ih) n
theorem c32L (n : Nat) : (∀ {x3 x9 x10 x11}, Le ((c32 n) x3 x9 x10 x11) (impl_FormatDivisor_l0 x3 x9 x10 x11)) := by
 induction n with
 | zero => exact LN
 | succ n ih =>
  have h0 := @ih
  · intro x3 x9 x10 x11; rw [impl_FormatDivisor_l0_eq]; show Le ((c32S (c32 n)) x3 x9 x10 x11) _; exact (LC (LC (LB (LF q32) fun _ => (LC (LF (LF h0)) LR)) LR) (LB (LF q34) fun _ => LR))
noncomputable def k35 := (c32 1000000)
theorem q35 {x3 x9 x10 x11} : Le (k35 x3 x9 x10 x11) (impl_FormatDivisor_l0 x3 x9 x10 x11) := (c32L 1000000)
noncomputable def k36 (a0 : (List Int)) : Option ByteArray :=
 cond (((a0.length : Int) : Int) == 0)
 (fk (⟨#[110, 111, 110, 101]⟩ : ByteArray) some)
 (fk ([] : List ByteArray) fun v58 => fk (a0.length : Int) fun v59 => k35 v58 a0 v59 0)
theorem q36 {a0} : Le (k36 a0) (impl_FormatDivisor a0) := by
 rw [impl_FormatDivisor_eq]; unfold k36; exact (LC (LF LR) (LF (LF q35)))
noncomputable def k37 (a0 : ZG) : Option Int :=
 (k20 a0).bind fun r1 => cond (!r1)
 (some (-1))
 (fk (w64 ((w64 ((a0.2.length : Int) - a0.1)) + 1)) some)
theorem q37 {a0} : Le (k37 a0) (impl_GenusOf a0) := by
 rw [impl_GenusOf_eq]; unfold k37; exact (LB q20 fun _ => (LC LR (LF LR)))
abbrev c35T := ((List Int) → (List Int) → Int → Int → Option (List Int))
noncomputable def c35S (ih : c35T) : c35T := (fun x3 x11 x12 x13 => cond (decide (x13 < x12))
 (cond (inside x13 x11.length)
 (cond (decide (x11.getD x13.toNat 0 > 1))
 (cond (decide (x3.length + ([x11.getD x13.toNat 0] : List Int).length ≤ room))
 (fk (x3 ++ ([x11.getD x13.toNat 0] : List Int)) fun v60 => fk (w64 (x13 + 1)) fun v61 => ih v60 x11 x12 v61)
 (none))
 (fk (w64 (x13 + 1)) fun v62 => ih x3 x11 x12 v62))
 (none))
 (some x3))
noncomputable def c35 (n : Nat) : c35T := Nat.rec (motive := fun _ => c35T) (fun _ _ _ _ => none) (fun _ ih => c35S ih) n
theorem c35L (n : Nat) : (∀ {x3 x11 x12 x13}, Le ((c35 n) x3 x11 x12 x13) (impl_GroupFactors_l0 x3 x11 x12 x13)) := by
 induction n with
 | zero => exact LN
 | succ n ih =>
  have h0 := @ih
  · intro x3 x11 x12 x13; rw [impl_GroupFactors_l0_eq]; show Le ((c35S (c35 n)) x3 x11 x12 x13) _; exact (LC (LC (LC (LC (LF (LF h0)) LR) (LF h0)) LR) LR)
noncomputable def k38 := (c35 1000000)
theorem q38 {x3 x11 x12 x13} : Le (k38 x3 x11 x12 x13) (impl_GroupFactors_l0 x3 x11 x12 x13) := (c35L 1000000)
noncomputable def k39 (a0 : Int) : Option Int :=
 fk (imax a0 (w64 (0 - a0))) some
theorem q39 {a0} : Le (k39 a0) (impl_magnitude a0) := by
 rw [impl_magnitude_eq]; unfold k39; exact (LF LR)
abbrev c37T := (Int → Int → Option Int)
noncomputable def c37S (ih : c37T) : c37T := (fun x0 x1 => cond ((x1 : Int) != 0)
 (cond (decide (x1 = 0))
 (none)
 (fk (Int.tmod x0 x1) fun v63 => ih x1 v63))
 ((k39 x0).bind fun r1 => some r1))
noncomputable def c37 (n : Nat) : c37T := Nat.rec (motive := fun _ => c37T) (fun _ _ => none) (fun _ ih => c37S ih) n
theorem c37L (n : Nat) : (∀ {x0 x1}, Le ((c37 n) x0 x1) (impl_divisor_l0 x0 x1)) := by
 induction n with
 | zero => exact LN
 | succ n ih =>
  have h0 := @ih
  · intro x0 x1; rw [impl_divisor_l0_eq]; show Le ((c37S (c37 n)) x0 x1) _; exact (LC (LC LR (LF h0)) (LB q39 fun _ => LR))
noncomputable def k40 := (c37 1000000)
theorem q40 {x0 x1} : Le (k40 x0 x1) (impl_divisor_l0 x0 x1) := (c37L 1000000)
noncomputable def k41 (a0 : Int) (a1 : Int) : Option Int :=
 k40 a0 a1
theorem q41 {a0 a1} : Le (k41 a0 a1) (impl_divisor a0 a1) := by
 rw [impl_divisor_eq]; unfold k41; exact q40
abbrev c39T := ((List Int) → (List Int) → Int → Int → Option (List Int))
noncomputable def c39S (ih : c39T) : c39T := (fun x3 x7 x58 x59 => cond (decide (x59 < x58))
 (cond (inside (w64 (x59 + 1)) x3.length)
 (cond (((x3.getD ((w64 (x59 + 1)).toNat) 0) : Int) == 0)
 (cond (decide (x7.length + ([0] : List Int).length ≤ room))
 (fk (x7 ++ ([0] : List Int)) fun v64 => fk (w64 (x59 + 1)) fun v65 => ih x3 v64 x58 v65)
 (none))
 (cond (inside (w64 (x59 + 1)) x3.length)
 (cond (inside x59 x3.length)
 (cond (decide (x3.getD x59.toNat 0 = 0))
 (none)
 (cond (decide (x7.length + ([w64 (Int.tdiv (x3.getD ((w64 (x59 + 1)).toNat) 0) (x3.getD x59.toNat 0))] : List Int).length ≤ room))
 (fk (x7 ++ ([w64 (Int.tdiv (x3.getD ((w64 (x59 + 1)).toNat) 0) (x3.getD x59.toNat 0))] : List Int)) fun v66 => fk (w64 (x59 + 1)) fun v67 => ih x3 v66 x58 v67)
 (none)))
 (none))
 (none)))
 (none))
 (some x7))
noncomputable def c39 (n : Nat) : c39T := Nat.rec (motive := fun _ => c39T) (fun _ _ _ _ => none) (fun _ ih => c39S ih) n
theorem c39L (n : Nat) : (∀ {x3 x7 x58 x59}, Le ((c39 n) x3 x7 x58 x59) (impl_InvariantFactors_l4 x3 x7 x58 x59)) := by
 induction n with
 | zero => exact LN
 | succ n ih =>
  have h0 := @ih
  · intro x3 x7 x58 x59; rw [impl_InvariantFactors_l4_eq]; show Le ((c39S (c39 n)) x3 x7 x58 x59) _; exact (LC (LC (LC (LC (LF (LF h0)) LR) (LC (LC (LC LR (LC (LF (LF h0)) LR)) LR) LR)) LR) LR)
noncomputable def k42 := (c39 1000000)
theorem q42 {x3 x7 x58 x59} : Le (k42 x3 x7 x58 x59) (impl_InvariantFactors_l4 x3 x7 x58 x59) := (c39L 1000000)
abbrev c40T := ((List (List Int)) → (List Int) → Int → Option (List Int)) × ((List (List Int)) → (List Int) → Int → (List Int) → Int → Option (List Int))
noncomputable def c40S (ih : c40T) : c40T := (fun x0 x3 x4 => cond (decide ((x0.length : Int) < 0))
 (none)
 (cond (decide (x4 < w64 (1 * 2 ^ (min (x0.length : Int).toNat 64))))
 ((k6 x4).bind fun r2 => ih.2 x0 x3 x4 r2 0)
 (fk (x0.length : Int) fun v68 => k42 x3 ([] : List Int) v68 0)),
 fun x0 x3 x4 x5 x6 => cond (decide ((x0.length : Int) < 0))
 (none)
 (cond (decide (x6 < w64 (1 * 2 ^ (min (x0.length : Int).toNat 64))))
 ((k6 x6).bind fun r3 => cond (((r3.length : Int) : Int) == (x5.length : Int))
 (cond (inside (x5.length : Int) x3.length)
 ((k7 x0 x5 x6).bind fun r4 => (fk (x3.getD ((x5.length : Int).toNat) 0) fun v69 => k41 v69 r4).bind fun r5 => cond (inside (x5.length : Int) x3.length)
 (fk (x3.set ((x5.length : Int).toNat) r5) fun v70 => fk (w64 (x6 + 1)) fun v71 => ih.2 x0 v70 x4 x5 v71)
 (none))
 (none))
 (fk (w64 (x6 + 1)) fun v72 => ih.2 x0 x3 x4 x5 v72))
 (fk (w64 (x4 + 1)) fun v73 => ih.1 x0 x3 v73)))
noncomputable def c40 (n : Nat) : c40T := Nat.rec (motive := fun _ => c40T) (fun _ _ _ => none, fun _ _ _ _ _ => none) (fun _ ih => c40S ih) n
theorem c40L (n : Nat) : (∀ {x0 x3 x4}, Le ((c40 n).1 x0 x3 x4) (impl_InvariantFactors_l0 x0 x3 x4)) ∧ (∀ {x0 x3 x4 x5 x6}, Le ((c40 n).2 x0 x3 x4 x5 x6) (impl_InvariantFactors_l2 x0 x3 x4 x5 x6)) := by
 induction n with
 | zero => exact ⟨LN, LN⟩
 | succ n ih =>
  obtain ⟨h0, h1⟩ := ih
  refine ⟨?_, ?_⟩
  · intro x0 x3 x4; rw [impl_InvariantFactors_l0_eq]; show Le (cond (decide ((x0.length : Int) < 0))
 (none)
 (cond (decide (x4 < w64 (1 * 2 ^ (min (x0.length : Int).toNat 64))))
 ((k6 x4).bind fun r2 => (c40 n).2 x0 x3 x4 r2 0)
 (fk (x0.length : Int) fun v74 => k42 x3 ([] : List Int) v74 0))) _; exact (LC LR (LC (LB q6 fun _ => h1) (LF q42)))
  · intro x0 x3 x4 x5 x6; rw [impl_InvariantFactors_l2_eq]; show Le (cond (decide ((x0.length : Int) < 0))
 (none)
 (cond (decide (x6 < w64 (1 * 2 ^ (min (x0.length : Int).toNat 64))))
 ((k6 x6).bind fun r3 => cond (((r3.length : Int) : Int) == (x5.length : Int))
 (cond (inside (x5.length : Int) x3.length)
 ((k7 x0 x5 x6).bind fun r4 => (fk (x3.getD ((x5.length : Int).toNat) 0) fun v75 => k41 v75 r4).bind fun r5 => cond (inside (x5.length : Int) x3.length)
 (fk (x3.set ((x5.length : Int).toNat) r5) fun v76 => fk (w64 (x6 + 1)) fun v77 => (c40 n).2 x0 v76 x4 x5 v77)
 (none))
 (none))
 (fk (w64 (x6 + 1)) fun v78 => (c40 n).2 x0 x3 x4 x5 v78))
 (fk (w64 (x4 + 1)) fun v79 => (c40 n).1 x0 x3 v79))) _; exact (LC LR (LC (LB q6 fun _ => (LC (LC (LB q7 fun _ => (LB (LF q41) fun _ => (LC (LF (LF h1)) LR))) LR) (LF h1))) (LF h0)))
noncomputable def k43 := (c40 1000000).1
theorem q43 {x0 x3 x4} : Le (k43 x0 x3 x4) (impl_InvariantFactors_l0 x0 x3 x4) := (c40L 1000000).1
noncomputable def k45 (a0 : (List (List Int))) : Option (List Int) :=
 (k4 a0).bind fun r1 => cond (!r1)
 (some ([] : List Int))
 (cond (((a0.length : Int) : Int) == 0)
 (some ([] : List Int))
 (cond (decide (0 ≤ w64 ((a0.length : Int) + 1)) && decide (w64 ((a0.length : Int) + 1) ≤ (room : Int)))
 (fk (List.replicate (w64 ((a0.length : Int) + 1)).toNat (0 : Int)) fun v80 => k43 a0 v80 0)
 (none)))
theorem q45 {a0} : Le (k45 a0) (impl_InvariantFactors a0) := by
 rw [impl_InvariantFactors_eq]; unfold k45; exact (LB q4 fun _ => (LC LR (LC LR (LC (LF q43) LR))))
noncomputable def k46 (a0 : ZG) : Option (List Int) :=
 (k20 a0).bind fun r1 => cond (!r1)
 (some ([] : List Int))
 ((k29 a0 0).bind fun r2 => (k45 r2).bind fun r3 => fk (r3.length : Int) fun v81 => k38 ([] : List Int) r3 v81 0)
theorem q46 {a0} : Le (k46 a0) (impl_GroupFactors a0) := by
 rw [impl_GroupFactors_eq]; unfold k46; exact (LB q20 fun _ => (LC LR (LB q29 fun _ => (LB q45 fun _ => (LF q38)))))
noncomputable def k47 (a0 : ZG) : Option ByteArray :=
 (k20 a0).bind fun r1 => cond (!r1)
 (some (⟨#[]⟩ : ByteArray))
 ((k46 a0).bind fun r2 => cond (decide ((r2.length : Int) > 0))
 ((k36 r2).bind fun r3 => (k37 a0).bind fun r4 => (k32 r4).bind fun r5 => cond (decide ((⟨#[103, 101, 110, 117, 115, 32]⟩ : ByteArray).size + r5.size ≤ 9223372036854775807))
 (cond (decide (((⟨#[103, 101, 110, 117, 115, 32]⟩ : ByteArray) ++ r5).size + (⟨#[32, 116, 114, 101, 101, 115, 32]⟩ : ByteArray).size ≤ 9223372036854775807))
 ((k30 a0).bind fun r6 => (k32 r6).bind fun r7 => cond (decide ((((⟨#[103, 101, 110, 117, 115, 32]⟩ : ByteArray) ++ r5) ++ (⟨#[32, 116, 114, 101, 101, 115, 32]⟩ : ByteArray)).size + r7.size ≤ 9223372036854775807))
 (cond (decide (((((⟨#[103, 101, 110, 117, 115, 32]⟩ : ByteArray) ++ r5) ++ (⟨#[32, 116, 114, 101, 101, 115, 32]⟩ : ByteArray)) ++ r7).size + (⟨#[32, 103, 114, 111, 117, 112, 32]⟩ : ByteArray).size ≤ 9223372036854775807))
 (cond (decide ((((((⟨#[103, 101, 110, 117, 115, 32]⟩ : ByteArray) ++ r5) ++ (⟨#[32, 116, 114, 101, 101, 115, 32]⟩ : ByteArray)) ++ r7) ++ (⟨#[32, 103, 114, 111, 117, 112, 32]⟩ : ByteArray)).size + r3.size ≤ 9223372036854775807))
 (fk ((((((⟨#[103, 101, 110, 117, 115, 32]⟩ : ByteArray) ++ r5) ++ (⟨#[32, 116, 114, 101, 101, 115, 32]⟩ : ByteArray)) ++ r7) ++ (⟨#[32, 103, 114, 111, 117, 112, 32]⟩ : ByteArray)) ++ r3) some)
 (none))
 (none))
 (none))
 (none))
 (none))
 ((k37 a0).bind fun r8 => (k32 r8).bind fun r9 => cond (decide ((⟨#[103, 101, 110, 117, 115, 32]⟩ : ByteArray).size + r9.size ≤ 9223372036854775807))
 (cond (decide (((⟨#[103, 101, 110, 117, 115, 32]⟩ : ByteArray) ++ r9).size + (⟨#[32, 116, 114, 101, 101, 115, 32]⟩ : ByteArray).size ≤ 9223372036854775807))
 ((k30 a0).bind fun r10 => (k32 r10).bind fun r11 => cond (decide ((((⟨#[103, 101, 110, 117, 115, 32]⟩ : ByteArray) ++ r9) ++ (⟨#[32, 116, 114, 101, 101, 115, 32]⟩ : ByteArray)).size + r11.size ≤ 9223372036854775807))
 (cond (decide (((((⟨#[103, 101, 110, 117, 115, 32]⟩ : ByteArray) ++ r9) ++ (⟨#[32, 116, 114, 101, 101, 115, 32]⟩ : ByteArray)) ++ r11).size + (⟨#[32, 103, 114, 111, 117, 112, 32]⟩ : ByteArray).size ≤ 9223372036854775807))
 (cond (decide ((((((⟨#[103, 101, 110, 117, 115, 32]⟩ : ByteArray) ++ r9) ++ (⟨#[32, 116, 114, 101, 101, 115, 32]⟩ : ByteArray)) ++ r11) ++ (⟨#[32, 103, 114, 111, 117, 112, 32]⟩ : ByteArray)).size + (⟨#[116, 114, 105, 118, 105, 97, 108]⟩ : ByteArray).size ≤ 9223372036854775807))
 (fk ((((((⟨#[103, 101, 110, 117, 115, 32]⟩ : ByteArray) ++ r9) ++ (⟨#[32, 116, 114, 101, 101, 115, 32]⟩ : ByteArray)) ++ r11) ++ (⟨#[32, 103, 114, 111, 117, 112, 32]⟩ : ByteArray)) ++ (⟨#[116, 114, 105, 118, 105, 97, 108]⟩ : ByteArray)) some)
 (none))
 (none))
 (none))
 (none))
 (none)))
theorem q47 {a0} : Le (k47 a0) (impl_GraphLine a0) := by
 rw [impl_GraphLine_eq]; unfold k47; exact (LB q20 fun _ => (LC LR (LB q46 fun _ => (LC (LB q36 fun _ => (LB q37 fun _ => (LB q32 fun _ => (LC (LC (LB q30 fun _ => (LB q32 fun _ => (LC (LC (LC (LF LR) LR) LR) LR))) LR) LR)))) (LB q37 fun _ => (LB q32 fun _ => (LC (LC (LB q30 fun _ => (LB q32 fun _ => (LC (LC (LC (LF LR) LR) LR) LR))) LR) LR)))))))
abbrev c44T := (ByteArray → ZS → Int → Int → Option ByteArray)
noncomputable def c44S (ih : c44T) : c44T := (fun x3 x14 x15 x16 => cond (decide (x16 < x15))
 (cond (inside x16 x14.length)
 ((fk ((x14.getD x16.toNat (0, 0)).1) fun v82 => k32 v82).bind fun r3 => cond (decide ((⟨#[32]⟩ : ByteArray).size + r3.size ≤ 9223372036854775807))
 (cond (decide (((⟨#[32]⟩ : ByteArray) ++ r3).size + (⟨#[45]⟩ : ByteArray).size ≤ 9223372036854775807))
 ((fk ((x14.getD x16.toNat (0, 0)).2) fun v83 => k32 v83).bind fun r4 => cond (decide ((((⟨#[32]⟩ : ByteArray) ++ r3) ++ (⟨#[45]⟩ : ByteArray)).size + r4.size ≤ 9223372036854775807))
 (cond (decide (x3.size + ((((⟨#[32]⟩ : ByteArray) ++ r3) ++ (⟨#[45]⟩ : ByteArray)) ++ r4).size ≤ 9223372036854775807))
 (fk (x3 ++ ((((⟨#[32]⟩ : ByteArray) ++ r3) ++ (⟨#[45]⟩ : ByteArray)) ++ r4)) fun v84 => fk (w64 (x16 + 1)) fun v85 => ih v84 x14 x15 v85)
 (none))
 (none))
 (none))
 (none))
 (none))
 (some x3))
noncomputable def c44 (n : Nat) : c44T := Nat.rec (motive := fun _ => c44T) (fun _ _ _ _ => none) (fun _ ih => c44S ih) n
theorem c44L (n : Nat) : (∀ {x3 x14 x15 x16}, Le ((c44 n) x3 x14 x15 x16) (impl_FormatGraph_l0 x3 x14 x15 x16)) := by
 induction n with
 | zero => exact LN
 | succ n ih =>
  have h0 := @ih
  · intro x3 x14 x15 x16; rw [impl_FormatGraph_l0_eq]; show Le ((c44S (c44 n)) x3 x14 x15 x16) _; exact (LC (LC (LB (LF q32) fun _ => (LC (LC (LB (LF q32) fun _ => (LC (LC (LF (LF h0)) LR) LR)) LR) LR)) LR) LR)
noncomputable def k48 := (c44 1000000)
theorem q48 {x3 x14 x15 x16} : Le (k48 x3 x14 x15 x16) (impl_FormatGraph_l0 x3 x14 x15 x16) := (c44L 1000000)
noncomputable def k49 (a0 : ZG) : Option ByteArray :=
 (k20 a0).bind fun r1 => cond (!r1)
 (some (⟨#[]⟩ : ByteArray))
 ((k32 a0.1).bind fun r2 => cond (decide (r2.size + (⟨#[58]⟩ : ByteArray).size ≤ 9223372036854775807))
 (fk (r2 ++ (⟨#[58]⟩ : ByteArray)) fun v86 => fk (a0.2.length : Int) fun v87 => k48 v86 a0.2 v87 0)
 (none))
theorem q49 {a0} : Le (k49 a0) (impl_FormatGraph a0) := by
 rw [impl_FormatGraph_eq]; unfold k49; exact (LB q20 fun _ => (LC LR (LB q32 fun _ => (LC (LF (LF q48)) LR))))
noncomputable def k50 (a0 : ByteArray) : Option (Int × Bool) := Lb.pint a0
theorem q50 {a0} : Le (k50 a0) (impl_ParseInt a0) := by rw [impl_ParseInt_eq]; exact LR
noncomputable def k51 (a0 : ByteArray) (a1 : ByteArray) : Option (ByteArray × (ByteArray × Bool)) := Lb.cut a0 a1
theorem q51 {a0 a1} : Le (k51 a0 a1) (strings_Cut a0 a1) := by rw [strings_Cut_eq]; exact LR
abbrev c48T := (ByteArray → ZG → ZG → (List ByteArray) → Int → Int → Option (ZG × Bool)) × (ByteArray → ZG → ZG → (List ByteArray) → Int → Int → Option (ZG × Bool))
noncomputable def c48S (ih : c48T) : c48T := (fun x0 x2 x7 x33 x34 x35 => fk (w64 (x35 + 1)) fun v88 => ih.2 x0 x2 x7 x33 x34 v88,
 fun x0 x2 x7 x33 x34 x35 => cond (decide (x35 < x34))
 (cond (inside x35 x33.length)
 ((fk (x33.getD x35.toNat ByteArray.empty) fun v89 => fk (⟨#[45]⟩ : ByteArray) fun v90 => k51 v89 v90).bind fun r4 => (k50 r4.1).bind fun r5 => (k50 r4.2.1).bind fun r6 => cond (!r5.2)
 (fk ((0, ([] : List (Int × Int))), false) some)
 (cond (!r6.2)
 (fk ((0, ([] : List (Int × Int))), false) some)
 (cond (decide (x7.2.length + ([(r5.1, r6.1)] : List (Int × Int)).length ≤ room))
 (fk (x7.1, x7.2 ++ ([(r5.1, r6.1)] : List (Int × Int))) fun v91 => ih.1 x0 x2 v91 x33 x34 x35)
 (none))))
 (none))
 ((k20 x7).bind fun r7 => cond (!r7)
 (fk ((0, ([] : List (Int × Int))), false) some)
 ((k49 x7).bind fun r8 => cond (!(r8.toList == x0.toList))
 (fk ((0, ([] : List (Int × Int))), false) some)
 (fk (x7, true) some))))
noncomputable def c48 (n : Nat) : c48T := Nat.rec (motive := fun _ => c48T) (fun _ _ _ _ _ _ => none, fun _ _ _ _ _ _ => none) (fun _ ih => c48S ih) n
theorem c48L (n : Nat) : (∀ {x0 x2 x7 x33 x34 x35}, Le ((c48 n).1 x0 x2 x7 x33 x34 x35) (impl_ParseGraph_c15 x0 x2 x7 x33 x34 x35)) ∧ (∀ {x0 x2 x7 x33 x34 x35}, Le ((c48 n).2 x0 x2 x7 x33 x34 x35) (impl_ParseGraph_l0 x0 x2 x7 x33 x34 x35)) := by
 induction n with
 | zero => exact ⟨LN, LN⟩
 | succ n ih =>
  obtain ⟨h0, h1⟩ := ih
  refine ⟨?_, ?_⟩
  · intro x0 x2 x7 x33 x34 x35; rw [impl_ParseGraph_c15_eq]; show Le ((c48S (c48 n)).1 x0 x2 x7 x33 x34 x35) _; exact (LF h1)
  · intro x0 x2 x7 x33 x34 x35; rw [impl_ParseGraph_l0_eq]; show Le ((c48S (c48 n)).2 x0 x2 x7 x33 x34 x35) _; exact (LC (LC (LB (LF (LF q51)) fun _ => (LB q50 fun _ => (LB q50 fun _ => (LC (LF LR) (LC (LF LR) (LC (LF h0) LR)))))) LR) (LB q20 fun _ => (LC (LF LR) (LB q49 fun _ => (LC (LF LR) (LF LR))))))
noncomputable def k53 := (c48 1000000).2
theorem q53 {x0 x2 x7 x33 x34 x35} : Le (k53 x0 x2 x7 x33 x34 x35) (impl_ParseGraph_l0 x0 x2 x7 x33 x34 x35) := (c48L 1000000).2
noncomputable def k54 (a0 : ByteArray) (a1 : Int) : Option Int := Lb.indexByte a0 a1
theorem q54 {a0 a1} : Le (k54 a0 a1) (strings_IndexByte a0 a1) := by rw [strings_IndexByte_eq]; exact LR
abbrev c50T := (ByteArray → ByteArray → (List ByteArray) → Int → Int → Option (List ByteArray))
noncomputable def c50S (ih : c50T) : c50T := (fun x0 x1 x5 x6 x7 => cond (decide (x7 < (x0.size : Int)))
 (cond (inside x7 x0.size)
 ((fk (bAt x0 x7.toNat) fun v92 => k54 x1 v92).bind fun r1 => cond (decide (r1 ≥ 0))
 (cond (decide (0 ≤ x6) && decide (x6 ≤ x7) && decide (x7 ≤ (x0.size : Int)))
 (cond (decide (x5.length + ([x0.extract x6.toNat x7.toNat] : List ByteArray).length ≤ room))
 (fk (x5 ++ ([x0.extract x6.toNat x7.toNat] : List ByteArray)) fun v93 => fk (w64 (x7 + 1)) fun v94 => fk (w64 (x7 + 1)) fun v95 => ih x0 x1 v93 v94 v95)
 (none))
 (none))
 (fk (w64 (x7 + 1)) fun v96 => ih x0 x1 x5 x6 v96))
 (none))
 (cond (decide (0 ≤ x6) && decide (x6 ≤ (x0.size : Int)) && decide ((x0.size : Int) ≤ (x0.size : Int)))
 (cond (decide (x5.length + ([x0.extract x6.toNat ((x0.size : Int).toNat)] : List ByteArray).length ≤ room))
 (fk (x5 ++ ([x0.extract x6.toNat ((x0.size : Int).toNat)] : List ByteArray)) some)
 (none))
 (none)))
noncomputable def c50 (n : Nat) : c50T := Nat.rec (motive := fun _ => c50T) (fun _ _ _ _ _ => none) (fun _ ih => c50S ih) n
theorem c50L (n : Nat) : (∀ {x0 x1 x5 x6 x7}, Le ((c50 n) x0 x1 x5 x6 x7) (impl_SplitAny_l0 x0 x1 x5 x6 x7)) := by
 induction n with
 | zero => exact LN
 | succ n ih =>
  have h0 := @ih
  · intro x0 x1 x5 x6 x7; rw [impl_SplitAny_l0_eq]; show Le ((c50S (c50 n)) x0 x1 x5 x6 x7) _; exact (LC (LC (LB (LF q54) fun _ => (LC (LC (LC (LF (LF (LF h0))) LR) LR) (LF h0))) LR) (LC (LC (LF LR) LR) LR))
noncomputable def k55 := (c50 1000000)
theorem q55 {x0 x1 x5 x6 x7} : Le (k55 x0 x1 x5 x6 x7) (impl_SplitAny_l0 x0 x1 x5 x6 x7) := (c50L 1000000)
noncomputable def k56 (a0 : ByteArray) (a1 : ByteArray) : Option (List ByteArray) :=
 fk ([] : List ByteArray) fun v97 => k55 a0 a1 v97 0 0
theorem q56 {a0 a1} : Le (k56 a0 a1) (impl_SplitAny a0 a1) := by
 rw [impl_SplitAny_eq]; unfold k56; exact (LF q55)
noncomputable def k57 (a0 : ByteArray) (a1 : ByteArray) : Option ByteArray := Lb.trimSuffix a0 a1
theorem q57 {a0 a1} : Le (k57 a0 a1) (strings_TrimSuffix a0 a1) := by rw [strings_TrimSuffix_eq]; exact LR
noncomputable def k58 (a0 : ByteArray) : Option (ZG × Bool) :=
 (fk (⟨#[32]⟩ : ByteArray) fun v98 => k56 a0 v98).bind fun r1 => cond (inside 0 r1.length)
 ((fk (r1.getD 0 ByteArray.empty) fun v99 => fk (⟨#[58]⟩ : ByteArray) fun v0 => k57 v99 v0).bind fun r2 => (k50 r2).bind fun r3 => cond (!r3.2)
 (fk ((0, ([] : List (Int × Int))), false) some)
 (cond (decide (0 ≤ 1) && decide (1 ≤ (r1.length : Int)) && decide ((r1.length : Int) ≤ (r1.length : Int)))
 (fk (0, ([] : List (Int × Int))) fun v1 => fk (r3.1, ([] : List (Int × Int))) fun v2 => fk ((r1.take ((r1.length : Int).toNat)).drop 1) fun v3 => fk (((r1.take ((r1.length : Int).toNat)).drop 1).length : Int) fun v4 => k53 a0 v1 v2 v3 v4 0)
 (none)))
 (none)
theorem q58 {a0} : Le (k58 a0) (impl_ParseGraph a0) := by
 rw [impl_ParseGraph_eq]; unfold k58; exact (LB (LF q56) fun _ => (LC (LB (LF (LF q57)) fun _ => (LB q50 fun _ => (LC (LF LR) (LC (LF (LF (LF (LF q53)))) LR)))) LR))
noncomputable def k59 (a0 : ZG) (a1 : (List Int)) : Option Bool :=
 (k20 a0).bind fun r1 => cond (r1)
 (cond (((a1.length : Int) : Int) == a0.1)
 ((k2 a1 (-60) 60).bind fun r2 => some r2)
 (some false))
 (some false)
theorem q59 {a0 a1} : Le (k59 a0 a1) (impl_DivisorOk a0 a1) := by
 rw [impl_DivisorOk_eq]; unfold k59; exact (LB q20 fun _ => (LC (LC (LB q2 fun _ => LR) LR) LR))
noncomputable def k60 (a0 : (List Int)) : Option (List Int) :=
 cond (decide (([] : List Int).length + a0.length ≤ room)) (some (([] : List Int) ++ a0)) (none)
theorem q60 {a0} : Le (k60 a0) (impl_copyInts a0) := by
 rw [impl_copyInts_eq]; unfold k60; exact LR
abbrev c56T := ((List Int) → Int → Int → ZS → Int → Int → Option (List Int))
noncomputable def c56S (ih : c56T) : c56T := (fun x1 x2 x3 x11 x12 x13 => cond (decide (x13 < x12))
 (cond (inside x13 x11.length)
 (cond ((x2 : Int) == ((x11.getD x13.toNat (0, 0)).1))
 (cond (inside x2 x1.length)
 (cond (inside x2 x1.length)
 (cond (inside ((x11.getD x13.toNat (0, 0)).2) (x1.set x2.toNat (w64 ((x1.getD x2.toNat 0) - x3))).length)
 (cond (inside ((x11.getD x13.toNat (0, 0)).2) (x1.set x2.toNat (w64 ((x1.getD x2.toNat 0) - x3))).length)
 (fk ((x1.set x2.toNat (w64 ((x1.getD x2.toNat 0) - x3))).set (((x11.getD x13.toNat (0, 0)).2).toNat) (w64 (((x1.set x2.toNat (w64 ((x1.getD x2.toNat 0) - x3))).getD (((x11.getD x13.toNat (0, 0)).2).toNat) 0) + x3))) fun v5 => fk (w64 (x13 + 1)) fun v6 => ih v5 x2 x3 x11 x12 v6)
 (none))
 (none))
 (none))
 (none))
 (cond ((x2 : Int) == ((x11.getD x13.toNat (0, 0)).2))
 (cond (inside x2 x1.length)
 (cond (inside x2 x1.length)
 (cond (inside ((x11.getD x13.toNat (0, 0)).1) (x1.set x2.toNat (w64 ((x1.getD x2.toNat 0) - x3))).length)
 (cond (inside ((x11.getD x13.toNat (0, 0)).1) (x1.set x2.toNat (w64 ((x1.getD x2.toNat 0) - x3))).length)
 (fk ((x1.set x2.toNat (w64 ((x1.getD x2.toNat 0) - x3))).set (((x11.getD x13.toNat (0, 0)).1).toNat) (w64 (((x1.set x2.toNat (w64 ((x1.getD x2.toNat 0) - x3))).getD (((x11.getD x13.toNat (0, 0)).1).toNat) 0) + x3))) fun v7 => fk (w64 (x13 + 1)) fun v8 => ih v7 x2 x3 x11 x12 v8)
 (none))
 (none))
 (none))
 (none))
 (fk (w64 (x13 + 1)) fun v9 => ih x1 x2 x3 x11 x12 v9)))
 (none))
 (some x1))
noncomputable def c56 (n : Nat) : c56T := Nat.rec (motive := fun _ => c56T) (fun _ _ _ _ _ _ => none) (fun _ ih => c56S ih) n
theorem c56L (n : Nat) : (∀ {x1 x2 x3 x11 x12 x13}, Le ((c56 n) x1 x2 x3 x11 x12 x13) (impl_fire_l0 x1 x2 x3 x11 x12 x13)) := by
 induction n with
 | zero => exact LN
 | succ n ih =>
  have h0 := @ih
  · intro x1 x2 x3 x11 x12 x13; rw [impl_fire_l0_eq]; show Le ((c56S (c56 n)) x1 x2 x3 x11 x12 x13) _; exact (LC (LC (LC (LC (LC (LC (LC (LF (LF h0)) LR) LR) LR) LR) (LC (LC (LC (LC (LC (LF (LF h0)) LR) LR) LR) LR) (LF h0))) LR) LR)
noncomputable def k61 := (c56 1000000)
theorem q61 {x1 x2 x3 x11 x12 x13} : Le (k61 x1 x2 x3 x11 x12 x13) (impl_fire_l0 x1 x2 x3 x11 x12 x13) := (c56L 1000000)
noncomputable def k62 (a0 : ZG) (a1 : (List Int)) (a2 : Int) (a3 : Int) : Option (List Int) :=
 fk (a0.2.length : Int) fun v10 => k61 a1 a2 a3 a0.2 v10 0
theorem q62 {a0 a1 a2 a3} : Le (k62 a0 a1 a2 a3) (impl_fire a0 a1 a2 a3) := by
 rw [impl_fire_eq]; unfold k62; exact (LF q61)
abbrev c58T := (ZG → (List Int) → (List Int) → Int → Int → Option (List Int))
noncomputable def c58S (ih : c58T) : c58T := (fun x3 x7 x12 x13 x14 => cond (decide (x14 < x13))
 (cond (inside x14 x12.length)
 ((fk (x12.getD x14.toNat 0) fun v11 => k62 x3 x7 x14 v11).bind fun r2 => fk (w64 (x14 + 1)) fun v12 => ih x3 r2 x12 x13 v12)
 (none))
 (some x7))
noncomputable def c58 (n : Nat) : c58T := Nat.rec (motive := fun _ => c58T) (fun _ _ _ _ _ => none) (fun _ ih => c58S ih) n
theorem c58L (n : Nat) : (∀ {x3 x7 x12 x13 x14}, Le ((c58 n) x3 x7 x12 x13 x14) (impl_fired_l0 x3 x7 x12 x13 x14)) := by
 induction n with
 | zero => exact LN
 | succ n ih =>
  have h0 := @ih
  · intro x3 x7 x12 x13 x14; rw [impl_fired_l0_eq]; show Le ((c58S (c58 n)) x3 x7 x12 x13 x14) _; exact (LC (LC (LB (LF q62) fun _ => (LF h0)) LR) LR)
noncomputable def k63 := (c58 1000000)
theorem q63 {x3 x7 x12 x13 x14} : Le (k63 x3 x7 x12 x13 x14) (impl_fired_l0 x3 x7 x12 x13 x14) := (c58L 1000000)
noncomputable def k64 (a0 : ZG) (a1 : (List Int)) (a2 : (List Int)) : Option (List Int) :=
 (k60 a1).bind fun r1 => fk (a2.length : Int) fun v13 => k63 a0 r1 a2 v13 0
theorem q64 {a0 a1 a2} : Le (k64 a0 a1 a2) (impl_fired a0 a1 a2) := by
 rw [impl_fired_eq]; unfold k64; exact (LB q60 fun _ => (LF q63))
abbrev c60T := ((List Int) → ZG → (List Int) → (List Int) → Int → Int → Option ((List Int) × Bool))
noncomputable def c60S (ih : c60T) : c60T := (fun x1 x3 x8 x18 x19 x20 => cond (decide (x20 < x19))
 (cond (inside x20 x18.length)
 ((fk (x18.getD x20.toNat 0) fun v14 => fk (w64 (x3.1 - 1)) fun v15 => k0 v14 0 v15).bind fun r2 => cond (!r2)
 (fk (([] : List Int), false) some)
 (cond (inside (x18.getD x20.toNat 0) x8.length)
 (cond (((x8.getD ((x18.getD x20.toNat 0).toNat) 0) : Int) == 1)
 (fk (([] : List Int), false) some)
 (cond (inside (x18.getD x20.toNat 0) x8.length)
 (fk (x8.set ((x18.getD x20.toNat 0).toNat) 1) fun v16 => fk (w64 (x20 + 1)) fun v17 => ih x1 x3 v16 x18 x19 v17)
 (none)))
 (none)))
 (none))
 ((k64 x3 x1 x8).bind fun r3 => fk (r3, true) some))
noncomputable def c60 (n : Nat) : c60T := Nat.rec (motive := fun _ => c60T) (fun _ _ _ _ _ _ => none) (fun _ ih => c60S ih) n
theorem c60L (n : Nat) : (∀ {x1 x3 x8 x18 x19 x20}, Le ((c60 n) x1 x3 x8 x18 x19 x20) (impl_FireSet_l0 x1 x3 x8 x18 x19 x20)) := by
 induction n with
 | zero => exact LN
 | succ n ih =>
  have h0 := @ih
  · intro x1 x3 x8 x18 x19 x20; rw [impl_FireSet_l0_eq]; show Le ((c60S (c60 n)) x1 x3 x8 x18 x19 x20) _; exact (LC (LC (LB (LF (LF q0)) fun _ => (LC (LF LR) (LC (LC (LF LR) (LC (LF (LF h0)) LR)) LR))) LR) (LB q64 fun _ => (LF LR)))
noncomputable def k65 := (c60 1000000)
theorem q65 {x1 x3 x8 x18 x19 x20} : Le (k65 x1 x3 x8 x18 x19 x20) (impl_FireSet_l0 x1 x3 x8 x18 x19 x20) := (c60L 1000000)
noncomputable def k66 (a0 : ZG) (a1 : (List Int)) (a2 : (List Int)) : Option ((List Int) × Bool) :=
 (k59 a0 a1).bind fun r1 => cond (!r1)
 (fk (([] : List Int), false) some)
 (cond (decide (0 ≤ a0.1) && decide (a0.1 ≤ (room : Int)))
 (fk (List.replicate a0.1.toNat (0 : Int)) fun v18 => fk (a2.length : Int) fun v19 => k65 a1 a0 v18 a2 v19 0)
 (none))
theorem q66 {a0 a1 a2} : Le (k66 a0 a1 a2) (impl_FireSet a0 a1 a2) := by
 rw [impl_FireSet_eq]; unfold k66; exact (LB q59 fun _ => (LC (LF LR) (LC (LF (LF q65)) LR)))
noncomputable def k67 (a0 : (List Int)) (a1 : Bool) (a2 : ZC) (a3 : ZC) : Option (ZC × (ByteArray × ZC)) :=
 cond (!a1)
 (some (a3, (⟨#[110, 111, 110, 101]⟩ : ByteArray), a3))
 ((k59 a2.1 a0).bind fun r1 => cond (!r1)
 (some (a3, (⟨#[110, 111, 110, 101]⟩ : ByteArray), a3))
 ((k60 a0).bind fun r2 => (k36 a0).bind fun r3 => some ((a3.1, r2, a3.2.2), r3, a3.1, r2, a3.2.2)))
theorem q67 {a0 a1 a2 a3} : Le (k67 a0 a1 a2 a3) (impl_RunLine_1 a0 a1 a2 a3) := by
 rw [impl_RunLine_1_eq]; unfold k67; exact (LC LR (LB q59 fun _ => (LC LR (LB q60 fun _ => (LB q36 fun _ => LR)))))
abbrev c63T := (ZG → ZS → (List Int) → Int → Int → Option ZS)
noncomputable def c63S (ih : c63T) : c63T := (fun x2 x5 x8 x9 x10 => cond (decide (x10 < x9))
 (cond (inside x10 x8.length)
 (cond (inside (x8.getD x10.toNat 0) x2.2.length)
 (cond (decide (x5.length + ([x2.2.getD ((x8.getD x10.toNat 0).toNat) (0, 0)] : List (Int × Int)).length ≤ room))
 (fk (x5 ++ ([x2.2.getD ((x8.getD x10.toNat 0).toNat) (0, 0)] : List (Int × Int))) fun v20 => fk (w64 (x10 + 1)) fun v21 => ih x2 v20 x8 x9 v21)
 (none))
 (none))
 (none))
 (some x5))
noncomputable def c63 (n : Nat) : c63T := Nat.rec (motive := fun _ => c63T) (fun _ _ _ _ _ => none) (fun _ ih => c63S ih) n
theorem c63L (n : Nat) : (∀ {x2 x5 x8 x9 x10}, Le ((c63 n) x2 x5 x8 x9 x10) (impl_edgesOf_l0 x2 x5 x8 x9 x10)) := by
 induction n with
 | zero => exact LN
 | succ n ih =>
  have h0 := @ih
  · intro x2 x5 x8 x9 x10; rw [impl_edgesOf_l0_eq]; show Le ((c63S (c63 n)) x2 x5 x8 x9 x10) _; exact (LC (LC (LC (LC (LF (LF h0)) LR) LR) LR) LR)
noncomputable def k68 := (c63 1000000)
theorem q68 {x2 x5 x8 x9 x10} : Le (k68 x2 x5 x8 x9 x10) (impl_edgesOf_l0 x2 x5 x8 x9 x10) := (c63L 1000000)
noncomputable def k69 (a0 : ZG) (a1 : (List Int)) : Option ZS :=
 fk (a1.length : Int) fun v22 => k68 a0 ([] : List (Int × Int)) a1 v22 0
theorem q69 {a0 a1} : Le (k69 a0 a1) (impl_edgesOf a0 a1) := by
 rw [impl_edgesOf_eq]; unfold k69; exact (LF q68)
abbrev c65T := ((List Int) → ZG → Int → Option Bool)
noncomputable def c65S (ih : c65T) : c65T := (fun x1 x2 x5 => cond (decide (x5 < (x1.length : Int)))
 (cond (inside (w64 (x5 - 1)) x1.length)
 (cond (inside x5 x1.length)
 (cond (decide (x1.getD ((w64 (x5 - 1)).toNat) 0 ≥ x1.getD x5.toNat 0))
 (some false)
 (fk (w64 (x5 + 1)) fun v23 => ih x1 x2 v23))
 (none))
 (none))
 ((k69 x2 x1).bind fun r3 => (k19 x2.1 r3).bind fun r4 => some r4))
noncomputable def c65 (n : Nat) : c65T := Nat.rec (motive := fun _ => c65T) (fun _ _ _ => none) (fun _ ih => c65S ih) n
theorem c65L (n : Nat) : (∀ {x1 x2 x5}, Le ((c65 n) x1 x2 x5) (impl_IsTree_l0 x1 x2 x5)) := by
 induction n with
 | zero => exact LN
 | succ n ih =>
  have h0 := @ih
  · intro x1 x2 x5; rw [impl_IsTree_l0_eq]; show Le ((c65S (c65 n)) x1 x2 x5) _; exact (LC (LC (LC (LC LR (LF h0)) LR) LR) (LB q69 fun _ => (LB q19 fun _ => LR)))
noncomputable def k70 := (c65 1000000)
theorem q70 {x1 x2 x5} : Le (k70 x1 x2 x5) (impl_IsTree_l0 x1 x2 x5) := (c65L 1000000)
noncomputable def k71 (a0 : ZG) (a1 : (List Int)) : Option Bool :=
 (k20 a0).bind fun r1 => cond (!r1)
 (some false)
 (cond (((a1.length : Int) : Int) != (w64 (a0.1 - 1)))
 (some false)
 ((fk (w64 ((a0.2.length : Int) - 1)) fun v24 => k2 a1 0 v24).bind fun r2 => cond (!r2)
 (some false)
 (k70 a1 a0 1)))
theorem q71 {a0 a1} : Le (k71 a0 a1) (impl_IsTree a0 a1) := by
 rw [impl_IsTree_eq]; unfold k71; exact (LB q20 fun _ => (LC LR (LC LR (LB (LF q2) fun _ => (LC LR q70)))))
noncomputable def k72 (a0 : ZG) (a1 : Int) (a2 : Int) : Option Int :=
 cond (inside a1 a0.2.length)
 (cond (inside a1 a0.2.length)
 (fk (w64 ((w64 (((a0.2.getD a1.toNat (0, 0)).1) + ((a0.2.getD a1.toNat (0, 0)).2))) - a2)) some)
 (none))
 (none)
theorem q72 {a0 a1 a2} : Le (k72 a0 a1 a2) (impl_across a0 a1 a2) := by
 rw [impl_across_eq]; unfold k72; exact (LC (LC (LF LR) LR) LR)
noncomputable def k73 (a0 : ZG) (a1 : Int) (a2 : Int) : Option Bool :=
 (fk (w64 ((a0.2.length : Int) - 1)) fun v25 => k0 a1 0 v25).bind fun r1 => cond (r1)
 (cond (inside a1 a0.2.length)
 (cond ((((a0.2.getD a1.toNat (0, 0)).1) : Int) == a2)
 (some true)
 (cond (inside a1 a0.2.length)
 (fk ((((a0.2.getD a1.toNat (0, 0)).2) : Int) == a2) some)
 (none)))
 (none))
 (some false)
theorem q73 {a0 a1 a2} : Le (k73 a0 a1 a2) (impl_isAt a0 a1 a2) := by
 rw [impl_isAt_eq]; unfold k73; exact (LB (LF q0) fun _ => (LC (LC (LC LR (LC (LF LR) LR)) LR) LR))
abbrev c69T := ((List Int) → Int → Int → Int → Option Int)
noncomputable def c69S (ih : c69T) : c69T := (fun x0 x1 x7 x8 => cond (decide (x8 < x7))
 (cond (inside x8 x0.length)
 (cond ((x1 : Int) == (x0.getD x8.toNat 0))
 (some x8)
 (fk (w64 (x8 + 1)) fun v26 => ih x0 x1 x7 v26))
 (none))
 (some (-1)))
noncomputable def c69 (n : Nat) : c69T := Nat.rec (motive := fun _ => c69T) (fun _ _ _ _ => none) (fun _ ih => c69S ih) n
theorem c69L (n : Nat) : (∀ {x0 x1 x7 x8}, Le ((c69 n) x0 x1 x7 x8) (slices_Index_int_int_l0 x0 x1 x7 x8)) := by
 induction n with
 | zero => exact LN
 | succ n ih =>
  have h0 := @ih
  · intro x0 x1 x7 x8; rw [slices_Index_int_int_l0_eq]; show Le ((c69S (c69 n)) x0 x1 x7 x8) _; exact (LC (LC (LC LR (LF h0)) LR) LR)
noncomputable def k74 := (c69 1000000)
theorem q74 {x0 x1 x7 x8} : Le (k74 x0 x1 x7 x8) (slices_Index_int_int_l0 x0 x1 x7 x8) := (c69L 1000000)
noncomputable def k75 (a0 : (List Int)) (a1 : Int) : Option Int :=
 fk (a0.length : Int) fun v27 => k74 a0 a1 v27 0
theorem q75 {a0 a1} : Le (k75 a0 a1) (slices_Index_int_int a0 a1) := by
 rw [slices_Index_int_int_eq]; unfold k75; exact (LF q74)
noncomputable def k76 (a0 : (List Int)) (a1 : Int) : Option Bool :=
 (k75 a0 a1).bind fun r1 => fk (decide (r1 ≥ 0)) some
theorem q76 {a0 a1} : Le (k76 a0 a1) (slices_Contains_int_int a0 a1) := by
 rw [slices_Contains_int_int_eq]; unfold k76; exact (LB q75 fun _ => (LF LR))
abbrev c72T := ((List Int) → ZG → (List Int) → (List Int) → Int → Option ((List Int) × Bool)) × ((List Int) → ZG → (List Int) → (List Int) → Int → (List Int) → Int → Int → Option ((List Int) × Bool))
noncomputable def c72S (ih : c72T) : c72T := (fun x1 x3 x8 x10 x11 => cond (decide (x11 < (x10.length : Int)))
 (fk (x1.length : Int) fun v28 => ih.2 x1 x3 x8 x10 x11 x1 v28 0)
 (fk (x8, true) some),
 fun x1 x3 x8 x10 x11 x47 x48 x49 => cond (decide (x49 < x48))
 (cond (inside x49 x47.length)
 (cond (inside x11 x10.length)
 ((fk (x47.getD x49.toNat 0) fun v29 => fk (x10.getD x11.toNat 0) fun v30 => k73 x3 v29 v30).bind fun r3 => cond (!r3)
 (fk (w64 (x49 + 1)) fun v31 => ih.2 x1 x3 x8 x10 x11 x47 x48 v31)
 (cond (inside x11 x10.length)
 ((fk (x47.getD x49.toNat 0) fun v32 => fk (x10.getD x11.toNat 0) fun v33 => k72 x3 v32 v33).bind fun r4 => (k76 x10 r4).bind fun r5 => cond (!r5)
 (cond (inside r4 x8.length)
 (cond (decide (x10.length + ([r4] : List Int).length ≤ room))
 (fk (x8.set r4.toNat (x47.getD x49.toNat 0)) fun v34 => fk (x10 ++ ([r4] : List Int)) fun v35 => fk (w64 (x49 + 1)) fun v36 => ih.2 x1 x3 v34 v35 x11 x47 x48 v36)
 (none))
 (none))
 (fk (w64 (x49 + 1)) fun v37 => ih.2 x1 x3 x8 x10 x11 x47 x48 v37))
 (none)))
 (none))
 (none))
 (fk (w64 (x11 + 1)) fun v38 => ih.1 x1 x3 x8 x10 v38))
noncomputable def c72 (n : Nat) : c72T := Nat.rec (motive := fun _ => c72T) (fun _ _ _ _ _ => none, fun _ _ _ _ _ _ _ _ => none) (fun _ ih => c72S ih) n
theorem c72L (n : Nat) : (∀ {x1 x3 x8 x10 x11}, Le ((c72 n).1 x1 x3 x8 x10 x11) (impl_StateOfTree_l2 x1 x3 x8 x10 x11)) ∧ (∀ {x1 x3 x8 x10 x11 x47 x48 x49}, Le ((c72 n).2 x1 x3 x8 x10 x11 x47 x48 x49) (impl_StateOfTree_l4 x1 x3 x8 x10 x11 x47 x48 x49)) := by
 induction n with
 | zero => exact ⟨LN, LN⟩
 | succ n ih =>
  obtain ⟨h0, h1⟩ := ih
  refine ⟨?_, ?_⟩
  · intro x1 x3 x8 x10 x11; rw [impl_StateOfTree_l2_eq]; show Le ((c72S (c72 n)).1 x1 x3 x8 x10 x11) _; exact (LC (LF h1) (LF LR))
  · intro x1 x3 x8 x10 x11 x47 x48 x49; rw [impl_StateOfTree_l4_eq]; show Le ((c72S (c72 n)).2 x1 x3 x8 x10 x11 x47 x48 x49) _; exact (LC (LC (LC (LB (LF (LF q73)) fun _ => (LC (LF h1) (LC (LB (LF (LF q72)) fun _ => (LB q76 fun _ => (LC (LC (LC (LF (LF (LF h1))) LR) LR) (LF h1)))) LR))) LR) LR) (LF h0))
noncomputable def k77 := (c72 1000000).1
theorem q77 {x1 x3 x8 x10 x11} : Le (k77 x1 x3 x8 x10 x11) (impl_StateOfTree_l2 x1 x3 x8 x10 x11) := (c72L 1000000).1
abbrev c73T := ((List Int) → Int → ZG → (List Int) → Int → Int → Option ((List Int) × Bool))
noncomputable def c73S (ih : c73T) : c73T := (fun x1 x2 x3 x8 x31 x32 => cond (decide (x32 < x31))
 (cond (inside x32 x8.length)
 (fk (x8.set x32.toNat (-1)) fun v39 => fk (w64 (x32 + 1)) fun v40 => ih x1 x2 x3 v39 x31 v40)
 (none))
 (fk ([x2] : List Int) fun v41 => k77 x1 x3 x8 v41 0))
noncomputable def c73 (n : Nat) : c73T := Nat.rec (motive := fun _ => c73T) (fun _ _ _ _ _ _ => none) (fun _ ih => c73S ih) n
theorem c73L (n : Nat) : (∀ {x1 x2 x3 x8 x31 x32}, Le ((c73 n) x1 x2 x3 x8 x31 x32) (impl_StateOfTree_l0 x1 x2 x3 x8 x31 x32)) := by
 induction n with
 | zero => exact LN
 | succ n ih =>
  have h0 := @ih
  · intro x1 x2 x3 x8 x31 x32; rw [impl_StateOfTree_l0_eq]; show Le ((c73S (c73 n)) x1 x2 x3 x8 x31 x32) _; exact (LC (LC (LF (LF h0)) LR) (LF q77))
noncomputable def k79 := (c73 1000000)
theorem q79 {x1 x2 x3 x8 x31 x32} : Le (k79 x1 x2 x3 x8 x31 x32) (impl_StateOfTree_l0 x1 x2 x3 x8 x31 x32) := (c73L 1000000)
noncomputable def k80 (a0 : ZG) (a1 : (List Int)) (a2 : Int) : Option ((List Int) × Bool) :=
 (k71 a0 a1).bind fun r1 => cond (!r1)
 (fk (([] : List Int), false) some)
 ((fk (w64 (a0.1 - 1)) fun v42 => k0 a2 0 v42).bind fun r2 => cond (!r2)
 (fk (([] : List Int), false) some)
 (cond (decide (0 ≤ a0.1) && decide (a0.1 ≤ (room : Int)))
 (fk (List.replicate a0.1.toNat (0 : Int)) fun v43 => fk ((List.replicate a0.1.toNat (0 : Int)).length : Int) fun v44 => k79 a1 a2 a0 v43 v44 0)
 (none)))
theorem q80 {a0 a1 a2} : Le (k80 a0 a1 a2) (impl_StateOfTree a0 a1 a2) := by
 rw [impl_StateOfTree_eq]; unfold k80; exact (LB q71 fun _ => (LC (LF LR) (LB (LF q0) fun _ => (LC (LF LR) (LC (LF (LF q79)) LR)))))
abbrev c75T := (Int → ZG → (List Int) → Int → Int → Option Bool)
noncomputable def c75S (ih : c75T) : c75T := (fun x2 x3 x27 x28 x29 => cond (decide (x29 < x28))
 (cond (inside x29 x27.length)
 (cond ((x29 : Int) != x2)
 ((fk (x27.getD x29.toNat 0) fun v45 => k73 x3 v45 x29).bind fun r2 => cond (!r2)
 (some false)
 (fk (w64 (x29 + 1)) fun v46 => ih x2 x3 x27 x28 v46))
 (fk (w64 (x29 + 1)) fun v47 => ih x2 x3 x27 x28 v47))
 (none))
 (some true))
noncomputable def c75 (n : Nat) : c75T := Nat.rec (motive := fun _ => c75T) (fun _ _ _ _ _ => none) (fun _ ih => c75S ih) n
theorem c75L (n : Nat) : (∀ {x2 x3 x27 x28 x29}, Le ((c75 n) x2 x3 x27 x28 x29) (impl_RotorsOk_l0 x2 x3 x27 x28 x29)) := by
 induction n with
 | zero => exact LN
 | succ n ih =>
  have h0 := @ih
  · intro x2 x3 x27 x28 x29; rw [impl_RotorsOk_l0_eq]; show Le ((c75S (c75 n)) x2 x3 x27 x28 x29) _; exact (LC (LC (LC (LB (LF q73) fun _ => (LC LR (LF h0))) (LF h0)) LR) LR)
noncomputable def k81 := (c75 1000000)
theorem q81 {x2 x3 x27 x28 x29} : Le (k81 x2 x3 x27 x28 x29) (impl_RotorsOk_l0 x2 x3 x27 x28 x29) := (c75L 1000000)
noncomputable def k82 (a0 : ZG) (a1 : (List Int)) (a2 : Int) : Option Bool :=
 (k28 a0 a2).bind fun r1 => cond (!r1)
 (some false)
 (cond (((a1.length : Int) : Int) != a0.1)
 (some false)
 (cond (inside a2 a1.length)
 (cond (((a1.getD a2.toNat 0) : Int) != (-1))
 (some false)
 (fk (a1.length : Int) fun v48 => k81 a2 a0 a1 v48 0))
 (none)))
theorem q82 {a0 a1 a2} : Le (k82 a0 a1 a2) (impl_RotorsOk a0 a1 a2) := by
 rw [impl_RotorsOk_eq]; unfold k82; exact (LB q28 fun _ => (LC LR (LC LR (LC (LC LR (LF q81)) LR))))
abbrev c77T := (Int → ZG → Int → Int → Option Int)
noncomputable def c77S (ih : c77T) : c77T := (fun x1 x3 x7 x8 => (k73 x3 x8 x1).bind fun r3 => cond (!r3)
 (cond (decide (x7 = 0))
 (none)
 (fk (Int.tmod (w64 (x8 + 1)) x7) fun v49 => ih x1 x3 x7 v49))
 (some x8))
noncomputable def c77 (n : Nat) : c77T := Nat.rec (motive := fun _ => c77T) (fun _ _ _ _ => none) (fun _ ih => c77S ih) n
theorem c77L (n : Nat) : (∀ {x1 x3 x7 x8}, Le ((c77 n) x1 x3 x7 x8) (impl_NextRotor_l0 x1 x3 x7 x8)) := by
 induction n with
 | zero => exact LN
 | succ n ih =>
  have h0 := @ih
  · intro x1 x3 x7 x8; rw [impl_NextRotor_l0_eq]; show Le ((c77S (c77 n)) x1 x3 x7 x8) _; exact (LB q73 fun _ => (LC (LC LR (LF h0)) LR))
noncomputable def k83 := (c77 1000000)
theorem q83 {x1 x3 x7 x8} : Le (k83 x1 x3 x7 x8) (impl_NextRotor_l0 x1 x3 x7 x8) := (c77L 1000000)
noncomputable def k84 (a0 : ZG) (a1 : Int) (a2 : Int) : Option Int :=
 (k28 a0 a1).bind fun r1 => cond (!r1)
 (some (-1))
 ((k73 a0 a2 a1).bind fun r2 => cond (!r2)
 (some (-1))
 (cond (decide ((a0.2.length : Int) = 0))
 (none)
 (fk (a0.2.length : Int) fun v50 => fk (Int.tmod (w64 (a2 + 1)) (a0.2.length : Int)) fun v51 => k83 a1 a0 v50 v51)))
theorem q84 {a0 a1 a2} : Le (k84 a0 a1 a2) (impl_NextRotor a0 a1 a2) := by
 rw [impl_NextRotor_eq]; unfold k84; exact (LB q28 fun _ => (LC LR (LB q73 fun _ => (LC LR (LC LR (LF (LF q83)))))))
abbrev c79T := (Int → Int → ZG → (List Int) → Int → Option ((List Int) × (Int × Bool)))
noncomputable def c79S (ih : c79T) : c79T := (fun x2 x3 x4 x11 x12 => cond ((x3 : Int) != x2)
 (cond ((x12 : Int) == 2000)
 (fk (([] : List Int), 0, false) some)
 (cond (inside x3 x11.length)
 ((fk (x11.getD x3.toNat 0) fun v52 => k84 x4 x3 v52).bind fun r4 => cond (inside x3 x11.length)
 (cond (inside x3 (x11.set x3.toNat r4).length)
 ((fk ((x11.set x3.toNat r4).getD x3.toNat 0) fun v53 => k72 x4 v53 x3).bind fun r5 => fk (x11.set x3.toNat r4) fun v54 => fk (w64 (x12 + 1)) fun v55 => ih x2 r5 x4 v54 v55)
 (none))
 (none))
 (none)))
 (fk (x11, x12, true) some))
noncomputable def c79 (n : Nat) : c79T := Nat.rec (motive := fun _ => c79T) (fun _ _ _ _ _ => none) (fun _ ih => c79S ih) n
theorem c79L (n : Nat) : (∀ {x2 x3 x4 x11 x12}, Le ((c79 n) x2 x3 x4 x11 x12) (impl_WalkToSink_l0 x2 x3 x4 x11 x12)) := by
 induction n with
 | zero => exact LN
 | succ n ih =>
  have h0 := @ih
  · intro x2 x3 x4 x11 x12; rw [impl_WalkToSink_l0_eq]; show Le ((c79S (c79 n)) x2 x3 x4 x11 x12) _; exact (LC (LC (LF LR) (LC (LB (LF q84) fun _ => (LC (LC (LB (LF q72) fun _ => (LF (LF h0))) LR) LR)) LR)) (LF LR))
noncomputable def k85 := (c79 1000000)
theorem q85 {x2 x3 x4 x11 x12} : Le (k85 x2 x3 x4 x11 x12) (impl_WalkToSink_l0 x2 x3 x4 x11 x12) := (c79L 1000000)
noncomputable def k86 (a0 : ZG) (a1 : (List Int)) (a2 : Int) (a3 : Int) : Option ((List Int) × (Int × Bool)) :=
 (k82 a0 a1 a2).bind fun r1 => cond (!r1)
 (fk (([] : List Int), 0, false) some)
 ((fk (w64 (a0.1 - 1)) fun v56 => k0 a3 0 v56).bind fun r2 => cond (!r2)
 (fk (([] : List Int), 0, false) some)
 ((k60 a1).bind fun r3 => k85 a2 a3 a0 r3 0))
theorem q86 {a0 a1 a2 a3} : Le (k86 a0 a1 a2 a3) (impl_WalkToSink a0 a1 a2 a3) := by
 rw [impl_WalkToSink_eq]; unfold k86; exact (LB q82 fun _ => (LC (LF LR) (LB (LF q0) fun _ => (LC (LF LR) (LB q60 fun _ => q85)))))
noncomputable def k87 (x2 : ZC) (x4 : ZC) (x6 : ZC) (x13 : (List Int)) (x18 : (List (List Int))) : Option (ZC × ByteArray) :=
 cond (((x18.length : Int) : Int) == 0)
 (some (x6, (⟨#[110, 111, 110, 101]⟩ : ByteArray)))
 (cond (inside 0 x18.length)
 ((k80 x2.1 (x18.getD 0 ([] : List Int)) x2.2.2).bind fun r13 => cond (inside 0 x13.length)
 ((k86 x2.1 r13.1 x2.2.2 (x13.getD 0 0)).bind fun r14 => cond (!r14.2.2)
 (some (x6, (⟨#[110, 111, 110, 101]⟩ : ByteArray)))
 ((k32 r14.2.1).bind fun r15 => some (x6, r15)))
 (none))
 (none))
theorem q87 {x2 x4 x6 x13 x18} : Le (k87 x2 x4 x6 x13 x18) (impl_RunLine_c40 x2 x4 x6 x13 x18) := by
 rw [impl_RunLine_c40_eq]; unfold k87; exact (LC LR (LC (LB q80 fun _ => (LC (LB q86 fun _ => (LC LR (LB q32 fun _ => LR))) LR)) LR))
noncomputable def k88 (a0 : ZG) : Option ((List (List Int)) × Bool) := Lb.treesOf k20 k30 k71 k60 a0
theorem q88 {a0} : Le (k88 a0) (impl_TreesOf a0) := by rw [impl_TreesOf_eq]; exact Lb.treesOf_le (fun _ => q20) (fun _ => q30) (fun _ _ => q71) (fun _ => q60) _
abbrev c83T := (ZC → ZC → ZC → (List ByteArray) → (List ByteArray) → (List Int) → (List ByteArray) → Int → Int → Option (ZC × ByteArray))
noncomputable def c83S (ih : c83T) : c83T := (fun x2 x4 x6 x7 x8 x13 x87 x88 x89 => cond (decide (x89 < x88))
 (cond (inside x89 x87.length)
 ((k50 (x87.getD x89.toNat ByteArray.empty)).bind fun r8 => cond (!r8.2)
 (some (x6, (⟨#[117, 110, 107, 110, 111, 119, 110, 32, 99, 111, 109, 109, 97, 110, 100]⟩ : ByteArray)))
 (cond (decide (x13.length + ([r8.1] : List Int).length ≤ room))
 (ih x2 x4 x6 x7 x8 (x13 ++ ([r8.1] : List Int)) x87 x88 (w64 (x89 + 1)))
 (none)))
 (none))
 (cond (inside 0 x7.length)
 (cond ((x7.getD 0 ByteArray.empty).toList == (⟨#[99, 104, 105, 112, 115]⟩ : ByteArray).toList)
 ((k59 x2.1 x13).bind fun r9 => cond (r9) (some ((x6.1, x13, x6.2.2), (⟨#[111, 107]⟩ : ByteArray))) (some (x6, (⟨#[110, 111, 110, 101]⟩ : ByteArray))))
 (cond (inside 0 x7.length)
 (cond ((x7.getD 0 ByteArray.empty).toList == (⟨#[115, 105, 110, 107]⟩ : ByteArray).toList)
 (cond (((x8.length : Int) : Int) == 1)
 (cond (inside 0 x13.length) (cond (decide (x13.getD 0 0 ≥ 0)) (cond (inside 0 x13.length) (cond (decide (x13.getD 0 0 < x2.1.1)) (cond (inside 0 x13.length) (some ((x6.1, x6.2.1, x13.getD 0 0), (⟨#[111, 107]⟩ : ByteArray))) (none)) (some (x6, (⟨#[110, 111, 110, 101]⟩ : ByteArray)))) (none)) (some (x6, (⟨#[110, 111, 110, 101]⟩ : ByteArray)))) (none))
 (cond (inside 0 x7.length)
 (cond ((x7.getD 0 ByteArray.empty).toList == (⟨#[102, 105, 114, 101]⟩ : ByteArray).toList)
 ((k66 x2.1 x2.2.1 x13).bind fun r10 => (k67 r10.1 r10.2 x2 x6).bind fun r11 => some (r11.1, r11.2.1))
 (cond (inside 0 x7.length)
 (cond ((x7.getD 0 ByteArray.empty).toList == (⟨#[119, 97, 108, 107]⟩ : ByteArray).toList)
 (cond (((x8.length : Int) : Int) == 1)
 ((k88 x2.1).bind fun r12 => k87 x2 x4 x6 x13 r12.1)
 (some (x6, (⟨#[117, 110, 107, 110, 111, 119, 110, 32, 99, 111, 109, 109, 97, 110, 100]⟩ : ByteArray))))
 (some (x6, (⟨#[117, 110, 107, 110, 111, 119, 110, 32, 99, 111, 109, 109, 97, 110, 100]⟩ : ByteArray))))
 (none)))
 (none)))
 (cond (inside 0 x7.length)
 (cond ((x7.getD 0 ByteArray.empty).toList == (⟨#[102, 105, 114, 101]⟩ : ByteArray).toList)
 ((k66 x2.1 x2.2.1 x13).bind fun r16 => (k67 r16.1 r16.2 x2 x6).bind fun r17 => some (r17.1, r17.2.1))
 (cond (inside 0 x7.length)
 (cond ((x7.getD 0 ByteArray.empty).toList == (⟨#[119, 97, 108, 107]⟩ : ByteArray).toList)
 (cond (((x8.length : Int) : Int) == 1)
 ((k88 x2.1).bind fun r18 => k87 x2 x4 x6 x13 r18.1)
 (some (x6, (⟨#[117, 110, 107, 110, 111, 119, 110, 32, 99, 111, 109, 109, 97, 110, 100]⟩ : ByteArray))))
 (some (x6, (⟨#[117, 110, 107, 110, 111, 119, 110, 32, 99, 111, 109, 109, 97, 110, 100]⟩ : ByteArray))))
 (none)))
 (none)))
 (none)))
 (none)))
noncomputable def c83 (n : Nat) : c83T := Nat.rec (motive := fun _ => c83T) (fun _ _ _ _ _ _ _ _ _ => none) (fun _ ih => c83S ih) n
theorem c83L (n : Nat) : (∀ {x2 x4 x6 x7 x8 x13 x87 x88 x89}, Le ((c83 n) x2 x4 x6 x7 x8 x13 x87 x88 x89) (impl_RunLine_l0 x2 x4 x6 x7 x8 x13 x87 x88 x89)) := by
 induction n with
 | zero => exact LN
 | succ n ih =>
  have h0 := @ih
  · intro x2 x4 x6 x7 x8 x13 x87 x88 x89; rw [impl_RunLine_l0_eq]; show Le ((c83S (c83 n)) x2 x4 x6 x7 x8 x13 x87 x88 x89) _; exact (LC (LC (LB q50 fun _ => (LC LR (LC h0 LR))) LR) (LC (LC (LB q59 fun _ => LR) (LC (LC (LC LR (LC (LC (LB q66 fun _ => (LB q67 fun _ => LR)) (LC (LC (LC (LB q88 fun _ => q87) LR) LR) LR)) LR)) (LC (LC (LB q66 fun _ => (LB q67 fun _ => LR)) (LC (LC (LC (LB q88 fun _ => q87) LR) LR) LR)) LR)) LR)) LR))
noncomputable def k89 := (c83 1000000)
theorem q89 {x2 x4 x6 x7 x8 x13 x87 x88 x89} : Le (k89 x2 x4 x6 x7 x8 x13 x87 x88 x89) (impl_RunLine_l0 x2 x4 x6 x7 x8 x13 x87 x88 x89) := (c83L 1000000)
noncomputable def k90 (x2 : ZC) (x4 : ZC) (x6 : ZC) (x7 : (List ByteArray)) (x8 : (List ByteArray)) : Option (ZC × ByteArray) :=
 cond (inside 0 x7.length)
 (cond ((x7.getD 0 ByteArray.empty).toList == (⟨#[103, 114, 97, 112, 104]⟩ : ByteArray).toList)
 ((k34 x8 (⟨#[32]⟩ : ByteArray)).bind fun r5 => (k58 r5).bind fun r6 => cond (r6.2)
 (cond (decide (0 ≤ r6.1.1) && decide (r6.1.1 ≤ (room : Int)))
 ((k47 r6.1).bind fun r7 => some ((r6.1, List.replicate r6.1.1.toNat (0 : Int), 0), r7))
 (none))
 (some (x6, (⟨#[117, 110, 107, 110, 111, 119, 110, 32, 99, 111, 109, 109, 97, 110, 100]⟩ : ByteArray))))
 (k89 x2 x4 x6 x7 x8 ([] : List Int) x8 (x8.length : Int) 0))
 (none)
theorem q90 {x2 x4 x6 x7 x8} : Le (k90 x2 x4 x6 x7 x8) (impl_RunLine_c11 x2 x4 x6 x7 x8) := by
 rw [impl_RunLine_c11_eq]; unfold k90; exact (LC (LC (LB q34 fun _ => (LB q58 fun _ => (LC (LC (LB q47 fun _ => LR) LR) LR))) q89) LR)
abbrev c85T := (Int → (List Int) → Int → Int → Option Int)
noncomputable def c85S (ih : c85T) : c85T := (fun x3 x6 x7 x8 => cond (decide (x8 < x7))
 (cond (inside x8 x6.length)
 (fk (w64 (x3 + (x6.getD x8.toNat 0))) fun v57 => fk (w64 (x8 + 1)) fun v58 => ih v57 x6 x7 v58)
 (none))
 (some x3))
noncomputable def c85 (n : Nat) : c85T := Nat.rec (motive := fun _ => c85T) (fun _ _ _ _ => none) (fun _ ih => c85S ih) n
theorem c85L (n : Nat) : (∀ {x3 x6 x7 x8}, Le ((c85 n) x3 x6 x7 x8) (impl_sumOf_l0 x3 x6 x7 x8)) := by
 induction n with
 | zero => exact LN
 | succ n ih =>
  have h0 := @ih
  · intro x3 x6 x7 x8; rw [impl_sumOf_l0_eq]; show Le ((c85S (c85 n)) x3 x6 x7 x8) _; exact (LC (LC (LF (LF h0)) LR) LR)
noncomputable def k91 := (c85 1000000)
theorem q91 {x3 x6 x7 x8} : Le (k91 x3 x6 x7 x8) (impl_sumOf_l0 x3 x6 x7 x8) := (c85L 1000000)
noncomputable def k92 (a0 : (List Int)) : Option Int :=
 fk (a0.length : Int) fun v59 => k91 0 a0 v59 0
theorem q92 {a0} : Le (k92 a0) (impl_sumOf a0) := by
 rw [impl_sumOf_eq]; unfold k92; exact (LF q91)
noncomputable def k93 (a0 : (List Int)) : Option Int :=
 (k92 a0).bind fun r1 => some r1
theorem q93 {a0} : Le (k93 a0) (impl_DegreeOf a0) := by
 rw [impl_DegreeOf_eq]; unfold k93; exact (LB q92 fun _ => LR)
abbrev c88T := ((List Int) → Int → Int → Option Bool)
noncomputable def c88S (ih : c88T) : c88T := (fun x5 x6 x7 => cond (decide (x7 < x6))
 (cond (inside x7 x5.length)
 (cond (decide (x5.getD x7.toNat 0 < 0))
 (some false)
 (fk (w64 (x7 + 1)) fun v60 => ih x5 x6 v60))
 (none))
 (some true))
noncomputable def c88 (n : Nat) : c88T := Nat.rec (motive := fun _ => c88T) (fun _ _ _ => none) (fun _ ih => c88S ih) n
theorem c88L (n : Nat) : (∀ {x5 x6 x7}, Le ((c88 n) x5 x6 x7) (impl_IsEffective_l0 x5 x6 x7)) := by
 induction n with
 | zero => exact LN
 | succ n ih =>
  have h0 := @ih
  · intro x5 x6 x7; rw [impl_IsEffective_l0_eq]; show Le ((c88S (c88 n)) x5 x6 x7) _; exact (LC (LC (LC LR (LF h0)) LR) LR)
noncomputable def k94 := (c88 1000000)
theorem q94 {x5 x6 x7} : Le (k94 x5 x6 x7) (impl_IsEffective_l0 x5 x6 x7) := (c88L 1000000)
noncomputable def k95 (a0 : (List Int)) : Option Bool :=
 fk (a0.length : Int) fun v61 => k94 a0 v61 0
theorem q95 {a0} : Le (k95 a0) (impl_IsEffective a0) := by
 rw [impl_IsEffective_eq]; unfold k95; exact (LF q94)
noncomputable def k96 (a0 : (List (List Int))) : Option (List (List Int)) := Lb.sortRowsK a0
theorem q96 {a0} : Le (k96 a0) (slices_SortFunc_int_int__Compare_int_int a0) := by rw [slices_SortFunc_int_int__Compare_int_int_eq]; exact Lb.sortRowsK_le _
abbrev c91T := (ZG → (List (List Int)) → Int → (List (ByteArray × Int)) → Option (List (List Int))) × (ZG → (List (List Int)) → Int → Int → (List (ByteArray × Int)) → Option (List (List Int))) × (ZG → (List (List Int)) → Int → Int → (List Int) → (List (ByteArray × Int)) → Int → Int → Option (List (List Int)))
noncomputable def c91S (ih : c91T) : c91T := (fun x2 x8 x10 x32 => cond (decide (x10 < (x8.length : Int)))
 (ih.2.1 x2 x8 x10 1 x32)
 ((k96 x8).bind fun r9 => some r9),
 fun x2 x8 x10 x11 x32 => cond (decide (x2.1 < 0))
 (none)
 (cond (decide (x11 < w64 ((w64 (1 * 2 ^ (min x2.1.toNat 64))) - 1)))
 (cond (inside x10 x8.length)
 ((fk (x8.getD x10.toNat ([] : List Int)) fun v62 => k60 v62).bind fun r4 => fk (r4.length : Int) fun v63 => ih.2.2 x2 x8 x10 x11 r4 x32 v63 0)
 (none))
 (fk (w64 (x10 + 1)) fun v64 => ih.1 x2 x8 v64 x32)),
 fun x2 x8 x10 x11 x12 x32 x56 x57 => cond (decide (x57 < x56))
 (cond (decide (x57 < 0))
 (none)
 ((fk (bits .and .i64 (Int.fdiv x11 (2 ^ (min x57.toNat 64))) 1) fun v65 => k62 x2 x12 x57 v65).bind fun r5 => fk (w64 (x57 + 1)) fun v66 => ih.2.2 x2 x8 x10 x11 r5 x32 x56 v66))
 ((k95 x12).bind fun r6 => cond (r6)
 ((k36 x12).bind fun r7 => cond (((mget x32 r7) : Int) == 0)
 ((k36 x12).bind fun r8 => cond (decide (x8.length + ([x12] : List (List Int)).length ≤ room))
 (fk (x8 ++ ([x12] : List (List Int))) fun v67 => fk (w64 (x11 + 1)) fun v68 => fk (mput x32 r8 1) fun v69 => ih.2.1 x2 v67 x10 v68 v69)
 (none))
 (fk (w64 (x11 + 1)) fun v70 => ih.2.1 x2 x8 x10 v70 x32))
 (fk (w64 (x11 + 1)) fun v71 => ih.2.1 x2 x8 x10 v71 x32)))
noncomputable def c91 (n : Nat) : c91T := Nat.rec (motive := fun _ => c91T) (fun _ _ _ _ => none, fun _ _ _ _ _ => none, fun _ _ _ _ _ _ _ _ => none) (fun _ ih => c91S ih) n
theorem c91L (n : Nat) : (∀ {x2 x8 x10 x32}, Le ((c91 n).1 x2 x8 x10 x32) (impl_effectiveIn_l0 x2 x8 x10 x32)) ∧ (∀ {x2 x8 x10 x11 x32}, Le ((c91 n).2.1 x2 x8 x10 x11 x32) (impl_effectiveIn_l2 x2 x8 x10 x11 x32)) ∧ (∀ {x2 x8 x10 x11 x12 x32 x56 x57}, Le ((c91 n).2.2 x2 x8 x10 x11 x12 x32 x56 x57) (impl_effectiveIn_l4 x2 x8 x10 x11 x12 x32 x56 x57)) := by
 induction n with
 | zero => exact ⟨LN, LN, LN⟩
 | succ n ih =>
  obtain ⟨h0, h1, h2⟩ := ih
  refine ⟨?_, ?_, ?_⟩
  · intro x2 x8 x10 x32; rw [impl_effectiveIn_l0_eq]; show Le ((c91S (c91 n)).1 x2 x8 x10 x32) _; exact (LC h1 (LB q96 fun _ => LR))
  · intro x2 x8 x10 x11 x32; rw [impl_effectiveIn_l2_eq]; show Le ((c91S (c91 n)).2.1 x2 x8 x10 x11 x32) _; exact (LC LR (LC (LC (LB (LF q60) fun _ => (LF h2)) LR) (LF h0)))
  · intro x2 x8 x10 x11 x12 x32 x56 x57; rw [impl_effectiveIn_l4_eq]; show Le ((c91S (c91 n)).2.2 x2 x8 x10 x11 x12 x32 x56 x57) _; exact (LC (LC LR (LB (LF q62) fun _ => (LF h2))) (LB q95 fun _ => (LC (LB q36 fun _ => (LC (LB q36 fun _ => (LC (LF (LF (LF h1))) LR)) (LF h1))) (LF h1))))
noncomputable def k97 := (c91 1000000).1
theorem q97 {x2 x8 x10 x32} : Le (k97 x2 x8 x10 x32) (impl_effectiveIn_l0 x2 x8 x10 x32) := (c91L 1000000).1
abbrev c92T := (Int → (List Int) → Int → Int → Option Int)
noncomputable def c92S (ih : c92T) : c92T := (fun x1 x7 x8 x9 => cond (decide (x9 < x8))
 (cond (inside x9 x7.length)
 (cond ((x9 : Int) != x1)
 (cond (decide (x7.getD x9.toNat 0 < 0))
 (some x9)
 (fk (w64 (x9 + 1)) fun v72 => ih x1 x7 x8 v72))
 (fk (w64 (x9 + 1)) fun v73 => ih x1 x7 x8 v73))
 (none))
 (some (-1)))
noncomputable def c92 (n : Nat) : c92T := Nat.rec (motive := fun _ => c92T) (fun _ _ _ _ => none) (fun _ ih => c92S ih) n
theorem c92L (n : Nat) : (∀ {x1 x7 x8 x9}, Le ((c92 n) x1 x7 x8 x9) (impl_inDebt_l0 x1 x7 x8 x9)) := by
 induction n with
 | zero => exact LN
 | succ n ih =>
  have h0 := @ih
  · intro x1 x7 x8 x9; rw [impl_inDebt_l0_eq]; show Le ((c92S (c92 n)) x1 x7 x8 x9) _; exact (LC (LC (LC (LC LR (LF h0)) (LF h0)) LR) LR)
noncomputable def k100 := (c92 1000000)
theorem q100 {x1 x7 x8 x9} : Le (k100 x1 x7 x8 x9) (impl_inDebt_l0 x1 x7 x8 x9) := (c92L 1000000)
noncomputable def k101 (a0 : (List Int)) (a1 : Int) : Option Int :=
 fk (a0.length : Int) fun v74 => k100 a1 a0 v74 0
theorem q101 {a0 a1} : Le (k101 a0 a1) (impl_inDebt a0 a1) := by
 rw [impl_inDebt_eq]; unfold k101; exact (LF q100)
abbrev c94T := ((List Int) → ZG → (List Int) → Option (List Int)) × ((List Int) → ZG → (List Int) → Int → Int → Option (List Int)) × ((List Int) → ZG → (List Int) → Int → Int → Int → Int → Int → Option (List Int))
noncomputable def c94S (ih : c94T) : c94T := (fun x1 x3 x7 => ih.2.1 x1 x3 x7 (-1) 0,
 fun x1 x3 x7 x8 x9 => cond (decide (x9 < x3.1))
 (cond (decide (x8 < 0))
 (fk (x7.length : Int) fun v75 => ih.2.2 x1 x3 x7 x8 x9 0 v75 0)
 (cond (decide (x8 < 0))
 (some x7)
 (cond (decide (x7.length + ([x8] : List Int).length ≤ room))
 (fk (x7 ++ ([x8] : List Int)) fun v76 => ih.1 x1 x3 v76)
 (none))))
 (cond (decide (x8 < 0))
 (some x7)
 (cond (decide (x7.length + ([x8] : List Int).length ≤ room))
 (fk (x7 ++ ([x8] : List Int)) fun v77 => ih.1 x1 x3 v77)
 (none))),
 fun x1 x3 x7 x8 x9 x10 x26 x27 => cond (decide (x27 < x26))
 (cond (inside x27 x7.length)
 ((fk (x7.getD x27.toNat 0) fun v78 => k22 x3 x9 v78).bind fun r1 => fk (w64 (x10 + r1)) fun v79 => fk (w64 (x27 + 1)) fun v80 => ih.2.2 x1 x3 x7 x8 x9 v79 x26 v80)
 (none))
 ((k76 x7 x9).bind fun r2 => cond (!r2)
 (cond (inside x9 x1.length)
 (cond (decide (x1.getD x9.toNat 0 < x10))
 (fk (w64 (x9 + 1)) fun v81 => ih.2.1 x1 x3 x7 x9 v81)
 (fk (w64 (x9 + 1)) fun v82 => ih.2.1 x1 x3 x7 x8 v82))
 (none))
 (fk (w64 (x9 + 1)) fun v83 => ih.2.1 x1 x3 x7 x8 v83)))
noncomputable def c94 (n : Nat) : c94T := Nat.rec (motive := fun _ => c94T) (fun _ _ _ => none, fun _ _ _ _ _ => none, fun _ _ _ _ _ _ _ _ => none) (fun _ ih => c94S ih) n
theorem c94L (n : Nat) : (∀ {x1 x3 x7}, Le ((c94 n).1 x1 x3 x7) (impl_burn_l0 x1 x3 x7)) ∧ (∀ {x1 x3 x7 x8 x9}, Le ((c94 n).2.1 x1 x3 x7 x8 x9) (impl_burn_l2 x1 x3 x7 x8 x9)) ∧ (∀ {x1 x3 x7 x8 x9 x10 x26 x27}, Le ((c94 n).2.2 x1 x3 x7 x8 x9 x10 x26 x27) (impl_burn_l4 x1 x3 x7 x8 x9 x10 x26 x27)) := by
 induction n with
 | zero => exact ⟨LN, LN, LN⟩
 | succ n ih =>
  obtain ⟨h0, h1, h2⟩ := ih
  refine ⟨?_, ?_, ?_⟩
  · intro x1 x3 x7; rw [impl_burn_l0_eq]; show Le ((c94S (c94 n)).1 x1 x3 x7) _; exact h1
  · intro x1 x3 x7 x8 x9; rw [impl_burn_l2_eq]; show Le ((c94S (c94 n)).2.1 x1 x3 x7 x8 x9) _; exact (LC (LC (LF h2) (LC LR (LC (LF h0) LR))) (LC LR (LC (LF h0) LR)))
  · intro x1 x3 x7 x8 x9 x10 x26 x27; rw [impl_burn_l4_eq]; show Le ((c94S (c94 n)).2.2 x1 x3 x7 x8 x9 x10 x26 x27) _; exact (LC (LC (LB (LF q22) fun _ => (LF (LF h2))) LR) (LB q76 fun _ => (LC (LC (LC (LF h1) (LF h1)) LR) (LF h1))))
noncomputable def k102 := (c94 1000000).1
theorem q102 {x1 x3 x7} : Le (k102 x1 x3 x7) (impl_burn_l0 x1 x3 x7) := (c94L 1000000).1
noncomputable def k105 (a0 : ZG) (a1 : (List Int)) (a2 : Int) : Option (List Int) :=
 fk ([a2] : List Int) fun v84 => k102 a1 a0 v84
theorem q105 {a0 a1 a2} : Le (k105 a0 a1 a2) (impl_burn a0 a1 a2) := by
 rw [impl_burn_eq]; unfold k105; exact (LF q102)
abbrev c96T := (Int → ZG → (List Int) → (List Int) → Option ((List Int) × (List Int))) × (Int → ZG → (List Int) → (List Int) → (List Int) → Int → Int → Option ((List Int) × (List Int)))
noncomputable def c96S (ih : c96T) : c96T := (fun x2 x3 x8 x9 => (k105 x3 x8 x2).bind fun r6 => cond (((r6.length : Int) : Int) == x3.1)
 (fk (x8, x9) some)
 (fk (x9.length : Int) fun v85 => ih.2 x2 x3 x8 x9 r6 v85 0),
 fun x2 x3 x8 x9 x13 x65 x66 => cond (decide (x66 < x65))
 ((k76 x13 x66).bind fun r7 => cond (!r7)
 ((k62 x3 x8 x66 1).bind fun r8 => cond (inside x66 x9.length)
 (cond (inside x66 x9.length)
 (fk (x9.set x66.toNat (w64 ((x9.getD x66.toNat 0) + 1))) fun v86 => fk (w64 (x66 + 1)) fun v87 => ih.2 x2 x3 r8 v86 x13 x65 v87)
 (none))
 (none))
 (fk (w64 (x66 + 1)) fun v88 => ih.2 x2 x3 x8 x9 x13 x65 v88))
 (ih.1 x2 x3 x8 x9))
noncomputable def c96 (n : Nat) : c96T := Nat.rec (motive := fun _ => c96T) (fun _ _ _ _ => none, fun _ _ _ _ _ _ _ => none) (fun _ ih => c96S ih) n
theorem c96L (n : Nat) : (∀ {x2 x3 x8 x9}, Le ((c96 n).1 x2 x3 x8 x9) (impl_reduce_l2 x2 x3 x8 x9)) ∧ (∀ {x2 x3 x8 x9 x13 x65 x66}, Le ((c96 n).2 x2 x3 x8 x9 x13 x65 x66) (impl_reduce_l4 x2 x3 x8 x9 x13 x65 x66)) := by
 induction n with
 | zero => exact ⟨LN, LN⟩
 | succ n ih =>
  obtain ⟨h0, h1⟩ := ih
  refine ⟨?_, ?_⟩
  · intro x2 x3 x8 x9; rw [impl_reduce_l2_eq]; show Le ((c96S (c96 n)).1 x2 x3 x8 x9) _; exact (LB q105 fun _ => (LC (LF LR) (LF h1)))
  · intro x2 x3 x8 x9 x13 x65 x66; rw [impl_reduce_l4_eq]; show Le ((c96S (c96 n)).2 x2 x3 x8 x9 x13 x65 x66) _; exact (LC (LB q76 fun _ => (LC (LB q62 fun _ => (LC (LC (LF (LF h1)) LR) LR)) (LF h1))) h0)
noncomputable def k106 := (c96 1000000).1
theorem q106 {x2 x3 x8 x9} : Le (k106 x2 x3 x8 x9) (impl_reduce_l2 x2 x3 x8 x9) := (c96L 1000000).1
abbrev c97T := (Int → ZG → (List Int) → (List Int) → Int → Option ((List Int) × (List Int)))
noncomputable def c97S (ih : c97T) : c97T := (fun x2 x3 x8 x9 x10 => cond (decide (x10 ≥ 0))
 ((k24 x3 x10).bind fun r3 => cond (inside x10 x8.length)
 (cond (decide (r3 = 0))
 (none)
 ((fk (w64 (0 - (w64 (Int.tdiv (w64 ((w64 (r3 - 1)) - (x8.getD x10.toNat 0))) r3)))) fun v89 => k62 x3 x8 x10 v89).bind fun r4 => cond (inside x10 x9.length)
 (cond (inside x10 x9.length)
 ((k101 r4 x2).bind fun r5 => fk (x9.set x10.toNat (w64 ((x9.getD x10.toNat 0) - (w64 (Int.tdiv (w64 ((w64 (r3 - 1)) - (x8.getD x10.toNat 0))) r3))))) fun v90 => ih x2 x3 r4 v90 r5)
 (none))
 (none)))
 (none))
 (k106 x2 x3 x8 x9))
noncomputable def c97 (n : Nat) : c97T := Nat.rec (motive := fun _ => c97T) (fun _ _ _ _ _ => none) (fun _ ih => c97S ih) n
theorem c97L (n : Nat) : (∀ {x2 x3 x8 x9 x10}, Le ((c97 n) x2 x3 x8 x9 x10) (impl_reduce_l0 x2 x3 x8 x9 x10)) := by
 induction n with
 | zero => exact LN
 | succ n ih =>
  have h0 := @ih
  · intro x2 x3 x8 x9 x10; rw [impl_reduce_l0_eq]; show Le ((c97S (c97 n)) x2 x3 x8 x9 x10) _; exact (LC (LB q24 fun _ => (LC (LC LR (LB (LF q62) fun _ => (LC (LC (LB q101 fun _ => (LF h0)) LR) LR))) LR)) q106)
noncomputable def k108 := (c97 1000000)
theorem q108 {x2 x3 x8 x9 x10} : Le (k108 x2 x3 x8 x9 x10) (impl_reduce_l0 x2 x3 x8 x9 x10) := (c97L 1000000)
noncomputable def k109 (a0 : ZG) (a1 : (List Int)) (a2 : Int) : Option ((List Int) × (List Int)) :=
 (k60 a1).bind fun r1 => cond (decide (0 ≤ a0.1) && decide (a0.1 ≤ (room : Int)))
 ((k101 r1 a2).bind fun r2 => fk (List.replicate a0.1.toNat (0 : Int)) fun v91 => k108 a2 a0 r1 v91 r2)
 (none)
theorem q109 {a0 a1 a2} : Le (k109 a0 a1 a2) (impl_reduce a0 a1 a2) := by
 rw [impl_reduce_eq]; unfold k109; exact (LB q60 fun _ => (LC (LB q101 fun _ => (LF q108)) LR))
noncomputable def k110 (a0 : ZG) (a1 : (List Int)) : Option (List (List Int)) :=
 (k92 a1).bind fun r1 => (k109 a0 a1 0).bind fun r2 => cond (decide (r1 < 0))
 (fk ([] : List (List Int)) some)
 (cond (inside 0 r2.1.length)
 (cond (decide (r2.1.getD 0 0 < 0))
 (fk ([] : List (List Int)) some)
 ((k36 r2.1).bind fun r3 => fk ([r2.1] : List (List Int)) fun v92 => fk (mput ([] : List (ByteArray × Int)) r3 1) fun v93 => k97 a0 v92 0 v93))
 (none))
theorem q110 {a0 a1} : Le (k110 a0 a1) (impl_effectiveIn a0 a1) := by
 rw [impl_effectiveIn_eq]; unfold k110; exact (LB q92 fun _ => (LB q109 fun _ => (LC (LF LR) (LC (LC (LF LR) (LB q36 fun _ => (LF (LF q97)))) LR))))
noncomputable def k111 (a0 : ZG) (a1 : (List Int)) : Option ((List (List Int)) × Bool) :=
 (k59 a0 a1).bind fun r1 => cond (!r1)
 (fk (([] : List (List Int)), false) some)
 ((k93 a1).bind fun r2 => cond (decide (r2 > 7))
 (fk (([] : List (List Int)), false) some)
 ((k110 a0 a1).bind fun r3 => fk (r3, true) some))
theorem q111 {a0 a1} : Le (k111 a0 a1) (impl_EffectiveIn a0 a1) := by
 rw [impl_EffectiveIn_eq]; unfold k111; exact (LB q59 fun _ => (LC (LF LR) (LB q93 fun _ => (LC (LF LR) (LB q110 fun _ => (LF LR))))))
noncomputable def k112 (a0 : ByteArray) (a1 : Int) : Option ByteArray :=
 cond ((a1 : Int) == 0)
 (some (⟨#[]⟩ : ByteArray))
 (cond ((a1 : Int) == 1)
 (some a0)
 ((k32 a1).bind fun r1 => cond (decide (a0.size + r1.size ≤ 9223372036854775807))
 (fk (a0 ++ r1) some)
 (none)))
theorem q112 {a0 a1} : Le (k112 a0 a1) (impl_powerText a0 a1) := by
 rw [impl_powerText_eq]; unfold k112; exact (LC LR (LC LR (LB q32 fun _ => (LC (LF LR) LR))))
abbrev c102T := ((List ByteArray) → (List (List Int)) → Int → Int → Option ByteArray) × ((List ByteArray) → Int → (List (List Int)) → Int → Int → (List Int) → Int → Int → Option ByteArray)
noncomputable def c102S (ih : c102T) : c102T := (fun x3 x9 x10 x11 => cond (decide (x11 < x10))
 (cond (inside x11 x9.length)
 (fk (x9.getD x11.toNat ([] : List Int)) fun v94 => fk ((x9.getD x11.toNat ([] : List Int)).length : Int) fun v95 => ih.2 x3 x11 x9 x10 x11 v94 v95 0)
 (none))
 (cond (((x3.length : Int) : Int) == 0)
 (fk (⟨#[48]⟩ : ByteArray) some)
 ((fk (⟨#[32, 43, 32]⟩ : ByteArray) fun v96 => k34 x3 v96).bind fun r5 => some r5)),
 fun x3 x4 x9 x10 x11 x16 x17 x18 => cond (decide (x18 < x17))
 (cond (inside x18 x16.length)
 (cond (((x16.getD x18.toNat 0) : Int) == 0)
 (fk (w64 (x18 + 1)) fun v97 => ih.2 x3 x4 x9 x10 x11 x16 x17 v97)
 ((fk (⟨#[120]⟩ : ByteArray) fun v98 => k112 v98 x4).bind fun r1 => (fk (⟨#[121]⟩ : ByteArray) fun v99 => k112 v99 x18).bind fun r2 => cond (decide (r1.size + r2.size ≤ 9223372036854775807))
 (cond (((x16.getD x18.toNat 0) : Int) == 1)
 (cond (!((r1 ++ r2).toList == (⟨#[]⟩ : ByteArray).toList))
 (cond (decide (x3.length + ([r1 ++ r2] : List ByteArray).length ≤ room))
 (fk (x3 ++ ([r1 ++ r2] : List ByteArray)) fun v0 => fk (w64 (x18 + 1)) fun v1 => ih.2 v0 x4 x9 x10 x11 x16 x17 v1)
 (none))
 ((fk (x16.getD x18.toNat 0) fun v2 => k32 v2).bind fun r3 => cond (decide (r3.size + (r1 ++ r2).size ≤ 9223372036854775807))
 (cond (decide (x3.length + ([r3 ++ (r1 ++ r2)] : List ByteArray).length ≤ room))
 (fk (x3 ++ ([r3 ++ (r1 ++ r2)] : List ByteArray)) fun v3 => fk (w64 (x18 + 1)) fun v4 => ih.2 v3 x4 x9 x10 x11 x16 x17 v4)
 (none))
 (none)))
 ((fk (x16.getD x18.toNat 0) fun v5 => k32 v5).bind fun r4 => cond (decide (r4.size + (r1 ++ r2).size ≤ 9223372036854775807))
 (cond (decide (x3.length + ([r4 ++ (r1 ++ r2)] : List ByteArray).length ≤ room))
 (fk (x3 ++ ([r4 ++ (r1 ++ r2)] : List ByteArray)) fun v6 => fk (w64 (x18 + 1)) fun v7 => ih.2 v6 x4 x9 x10 x11 x16 x17 v7)
 (none))
 (none)))
 (none)))
 (none))
 (fk (w64 (x11 + 1)) fun v8 => ih.1 x3 x9 x10 v8))
noncomputable def c102 (n : Nat) : c102T := Nat.rec (motive := fun _ => c102T) (fun _ _ _ _ => none, fun _ _ _ _ _ _ _ _ => none) (fun _ ih => c102S ih) n
theorem c102L (n : Nat) : (∀ {x3 x9 x10 x11}, Le ((c102 n).1 x3 x9 x10 x11) (impl_FormatPolynomial_l0 x3 x9 x10 x11)) ∧ (∀ {x3 x4 x9 x10 x11 x16 x17 x18}, Le ((c102 n).2 x3 x4 x9 x10 x11 x16 x17 x18) (impl_FormatPolynomial_l2 x3 x4 x9 x10 x11 x16 x17 x18)) := by
 induction n with
 | zero => exact ⟨LN, LN⟩
 | succ n ih =>
  obtain ⟨h0, h1⟩ := ih
  refine ⟨?_, ?_⟩
  · intro x3 x9 x10 x11; rw [impl_FormatPolynomial_l0_eq]; show Le ((c102S (c102 n)).1 x3 x9 x10 x11) _; exact (LC (LC (LF (LF h1)) LR) (LC (LF LR) (LB (LF q34) fun _ => LR)))
  · intro x3 x4 x9 x10 x11 x16 x17 x18; rw [impl_FormatPolynomial_l2_eq]; show Le ((c102S (c102 n)).2 x3 x4 x9 x10 x11 x16 x17 x18) _; exact (LC (LC (LC (LF h1) (LB (LF q112) fun _ => (LB (LF q112) fun _ => (LC (LC (LC (LC (LF (LF h1)) LR) (LB (LF q32) fun _ => (LC (LC (LF (LF h1)) LR) LR))) (LB (LF q32) fun _ => (LC (LC (LF (LF h1)) LR) LR))) LR)))) LR) (LF h0))
noncomputable def k113 := (c102 1000000).1
theorem q113 {x3 x9 x10 x11} : Le (k113 x3 x9 x10 x11) (impl_FormatPolynomial_l0 x3 x9 x10 x11) := (c102L 1000000).1
noncomputable def k115 (a0 : (List (List Int))) : Option ByteArray :=
 fk ([] : List ByteArray) fun v9 => fk (a0.length : Int) fun v10 => k113 v9 a0 v10 0
theorem q115 {a0} : Le (k115 a0) (impl_FormatPolynomial a0) := by
 rw [impl_FormatPolynomial_eq]; unfold k115; exact (LF (LF q113))
abbrev c104T := (ZG → (List Int) → (List Int) → Int → Option ((List Int) × Bool))
noncomputable def c104S (ih : c104T) : c104T := (fun x2 x6 x8 x9 => (k37 x2).bind fun r4 => cond (decide (x9 ≤ w64 (2 * r4)))
 (cond (inside x9 x6.length)
 (cond (inside (w64 (x9 - 1)) x6.length)
 (cond (((x6.getD x9.toNat 0) : Int) == (x6.getD ((w64 (x9 - 1)).toNat) 0))
 (cond (decide (x8.length + ([x9] : List Int).length ≤ room))
 (fk (x8 ++ ([x9] : List Int)) fun v11 => fk (w64 (x9 + 1)) fun v12 => ih x2 x6 v11 v12)
 (none))
 (fk (w64 (x9 + 1)) fun v13 => ih x2 x6 x8 v13))
 (none))
 (none))
 (fk (x8, true) some))
noncomputable def c104 (n : Nat) : c104T := Nat.rec (motive := fun _ => c104T) (fun _ _ _ _ => none) (fun _ ih => c104S ih) n
theorem c104L (n : Nat) : (∀ {x2 x6 x8 x9}, Le ((c104 n) x2 x6 x8 x9) (impl_GapsAt_l0 x2 x6 x8 x9)) := by
 induction n with
 | zero => exact LN
 | succ n ih =>
  have h0 := @ih
  · intro x2 x6 x8 x9; rw [impl_GapsAt_l0_eq]; show Le ((c104S (c104 n)) x2 x6 x8 x9) _; exact (LB q37 fun _ => (LC (LC (LC (LC (LC (LF (LF h0)) LR) (LF h0)) LR) LR) (LF LR)))
noncomputable def k116 := (c104 1000000)
theorem q116 {x2 x6 x8 x9} : Le (k116 x2 x6 x8 x9) (impl_GapsAt_l0 x2 x6 x8 x9) := (c104L 1000000)
noncomputable def k117 (a0 : ZG) (a1 : Int) (a2 : Int) : Option (List Int) :=
 cond (decide (0 ≤ a0.1) && decide (a0.1 ≤ (room : Int)))
 (cond (inside a1 (List.replicate a0.1.toNat (0 : Int)).length)
 (fk ((List.replicate a0.1.toNat (0 : Int)).set a1.toNat a2) some)
 (none))
 (none)
theorem q117 {a0 a1 a2} : Le (k117 a0 a1 a2) (impl_oneAt a0 a1 a2) := by
 rw [impl_oneAt_eq]; unfold k117; exact (LC (LC (LF LR) LR) LR)
abbrev c106T := (Int → Int → Option (List (List Int))) × (Int → Int → (List (List Int)) → Int → Option (List (List Int))) × (Int → Int → (List (List Int)) → Int → (List (List Int)) → Int → Int → Option (List (List Int)))
noncomputable def c106S (ih : c106T) : c106T := (fun a0 a1 => cond ((a0 : Int) == 1)
 (fk ([([a1] : List Int)] : List (List Int)) some)
 (fk ([] : List (List Int)) fun v14 => ih.2.1 a0 a1 v14 0),
 fun x0 x1 x5 x6 => cond (decide (x6 ≤ x1))
 ((fk (w64 (x0 - 1)) fun v15 => fk (w64 (x1 - x6)) fun v16 => ih.1 v15 v16).bind fun r1 => fk (r1.length : Int) fun v17 => ih.2.2 x0 x1 x5 x6 r1 v17 0)
 (some x5),
 fun x0 x1 x5 x6 x24 x25 x26 => cond (decide (x26 < x25))
 (cond (inside x26 x24.length)
 (cond (decide (([x6] : List Int).length + (x24.getD x26.toNat ([] : List Int)).length ≤ room))
 (cond (decide (x5.length + ([([x6] : List Int) ++ (x24.getD x26.toNat ([] : List Int))] : List (List Int)).length ≤ room))
 (fk (x5 ++ ([([x6] : List Int) ++ (x24.getD x26.toNat ([] : List Int))] : List (List Int))) fun v18 => fk (w64 (x26 + 1)) fun v19 => ih.2.2 x0 x1 v18 x6 x24 x25 v19)
 (none))
 (none))
 (none))
 (fk (w64 (x6 + 1)) fun v20 => ih.2.1 x0 x1 x5 v20))
noncomputable def c106 (n : Nat) : c106T := Nat.rec (motive := fun _ => c106T) (fun _ _ => none, fun _ _ _ _ => none, fun _ _ _ _ _ _ _ => none) (fun _ ih => c106S ih) n
theorem c106L (n : Nat) : (∀ {a0 a1}, Le ((c106 n).1 a0 a1) (impl_effective a0 a1)) ∧ (∀ {x0 x1 x5 x6}, Le ((c106 n).2.1 x0 x1 x5 x6) (impl_effective_l0 x0 x1 x5 x6)) ∧ (∀ {x0 x1 x5 x6 x24 x25 x26}, Le ((c106 n).2.2 x0 x1 x5 x6 x24 x25 x26) (impl_effective_l2 x0 x1 x5 x6 x24 x25 x26)) := by
 induction n with
 | zero => exact ⟨LN, LN, LN⟩
 | succ n ih =>
  obtain ⟨h0, h1, h2⟩ := ih
  refine ⟨?_, ?_, ?_⟩
  · intro a0 a1; rw [impl_effective_eq]; show Le ((c106S (c106 n)).1 a0 a1) _; exact (LC (LF LR) (LF h1))
  · intro x0 x1 x5 x6; rw [impl_effective_l0_eq]; show Le ((c106S (c106 n)).2.1 x0 x1 x5 x6) _; exact (LC (LB (LF (LF h0)) fun _ => (LF h2)) LR)
  · intro x0 x1 x5 x6 x24 x25 x26; rw [impl_effective_l2_eq]; show Le ((c106S (c106 n)).2.2 x0 x1 x5 x6 x24 x25 x26) _; exact (LC (LC (LC (LC (LF (LF h2)) LR) LR) LR) (LF h1))
noncomputable def k118 := (c106 1000000).1
theorem q118 {a0 a1} : Le (k118 a0 a1) (impl_effective a0 a1) := (c106L 1000000).1
abbrev c107T := ((List Int) → (List Int) → Int → Int → Option Bool)
noncomputable def c107S (ih : c107T) : c107T := (fun x0 x7 x8 x9 => cond (decide (x9 < x8))
 (cond (inside x9 x7.length)
 (cond (inside x9 x0.length)
 (cond (decide (x0.getD x9.toNat 0 < x7.getD x9.toNat 0))
 (some false)
 (fk (w64 (x9 + 1)) fun v21 => ih x0 x7 x8 v21))
 (none))
 (none))
 (some true))
noncomputable def c107 (n : Nat) : c107T := Nat.rec (motive := fun _ => c107T) (fun _ _ _ _ => none) (fun _ ih => c107S ih) n
theorem c107L (n : Nat) : (∀ {x0 x7 x8 x9}, Le ((c107 n) x0 x7 x8 x9) (impl_covers_l0 x0 x7 x8 x9)) := by
 induction n with
 | zero => exact LN
 | succ n ih =>
  have h0 := @ih
  · intro x0 x7 x8 x9; rw [impl_covers_l0_eq]; show Le ((c107S (c107 n)) x0 x7 x8 x9) _; exact (LC (LC (LC (LC LR (LF h0)) LR) LR) LR)
noncomputable def k121 := (c107 1000000)
theorem q121 {x0 x7 x8 x9} : Le (k121 x0 x7 x8 x9) (impl_covers_l0 x0 x7 x8 x9) := (c107L 1000000)
noncomputable def k122 (a0 : (List Int)) (a1 : (List Int)) : Option Bool :=
 fk (a1.length : Int) fun v22 => k121 a0 a1 v22 0
theorem q122 {a0 a1} : Le (k122 a0 a1) (impl_covers a0 a1) := by
 rw [impl_covers_eq]; unfold k122; exact (LF q121)
noncomputable def k123 (a0 : (List Int)) (a1 : (List Int)) : Option Bool :=
 (k122 a0 a1).bind fun r1 => some r1
theorem q123 {a0 a1} : Le (k123 a0 a1) (impl_rank_1 a0 a1) := by
 rw [impl_rank_1_eq]; unfold k123; exact (LB q122 fun _ => LR)
abbrev c110T := ((List (List Int)) → (List Int) → Int → Int → Option Int)
noncomputable def c110S (ih : c110T) : c110T := (fun x0 x1 x7 x8 => cond (decide (x8 < x7))
 (cond (inside x8 x0.length)
 ((fk (x0.getD x8.toNat ([] : List Int)) fun v23 => k123 v23 x1).bind fun r1 => cond (r1)
 (some x8)
 (fk (w64 (x8 + 1)) fun v24 => ih x0 x1 x7 v24))
 (none))
 (some (-1)))
noncomputable def c110 (n : Nat) : c110T := Nat.rec (motive := fun _ => c110T) (fun _ _ _ _ => none) (fun _ ih => c110S ih) n
theorem c110L (n : Nat) : (∀ {x0 x1 x7 x8}, Le ((c110 n) x0 x1 x7 x8) (slices_IndexFunc_int_int__rank_1_l0 x0 x1 x7 x8)) := by
 induction n with
 | zero => exact LN
 | succ n ih =>
  have h0 := @ih
  · intro x0 x1 x7 x8; rw [slices_IndexFunc_int_int__rank_1_l0_eq]; show Le ((c110S (c110 n)) x0 x1 x7 x8) _; exact (LC (LC (LB (LF q123) fun _ => (LC LR (LF h0))) LR) LR)
noncomputable def k124 := (c110 1000000)
theorem q124 {x0 x1 x7 x8} : Le (k124 x0 x1 x7 x8) (slices_IndexFunc_int_int__rank_1_l0 x0 x1 x7 x8) := (c110L 1000000)
noncomputable def k125 (a0 : (List (List Int))) (a1 : (List Int)) : Option Int :=
 fk (a0.length : Int) fun v25 => k124 a0 a1 v25 0
theorem q125 {a0 a1} : Le (k125 a0 a1) (slices_IndexFunc_int_int__rank_1 a0 a1) := by
 rw [slices_IndexFunc_int_int__rank_1_eq]; unfold k125; exact (LF q124)
noncomputable def k126 (a0 : (List (List Int))) (a1 : (List Int)) : Option Bool :=
 (k125 a0 a1).bind fun r1 => fk (decide (r1 ≥ 0)) some
theorem q126 {a0 a1} : Le (k126 a0 a1) (slices_ContainsFunc_int_int__rank_1 a0 a1) := by
 rw [slices_ContainsFunc_int_int__rank_1_eq]; unfold k126; exact (LB q125 fun _ => (LF LR))
abbrev c113T := (ZG → (List (List Int)) → Int → Option (Int × (List Int))) × (ZG → (List (List Int)) → Int → (List (List Int)) → Int → Int → Option (Int × (List Int)))
noncomputable def c113S (ih : c113T) : c113T := (fun x2 x6 x7 => (k118 x2.1 x7).bind fun r2 => fk (r2.length : Int) fun v26 => ih.2 x2 x6 x7 r2 v26 0,
 fun x2 x6 x7 x18 x19 x20 => cond (decide (x20 < x19))
 (cond (inside x20 x18.length)
 ((fk (x18.getD x20.toNat ([] : List Int)) fun v27 => k126 x6 v27).bind fun r3 => cond (!r3)
 (fk (w64 (x7 - 1), x18.getD x20.toNat ([] : List Int)) some)
 (fk (w64 (x20 + 1)) fun v28 => ih.2 x2 x6 x7 x18 x19 v28))
 (none))
 (fk (w64 (x7 + 1)) fun v29 => ih.1 x2 x6 v29))
noncomputable def c113 (n : Nat) : c113T := Nat.rec (motive := fun _ => c113T) (fun _ _ _ => none, fun _ _ _ _ _ _ => none) (fun _ ih => c113S ih) n
theorem c113L (n : Nat) : (∀ {x2 x6 x7}, Le ((c113 n).1 x2 x6 x7) (impl_rank_l0 x2 x6 x7)) ∧ (∀ {x2 x6 x7 x18 x19 x20}, Le ((c113 n).2 x2 x6 x7 x18 x19 x20) (impl_rank_l2 x2 x6 x7 x18 x19 x20)) := by
 induction n with
 | zero => exact ⟨LN, LN⟩
 | succ n ih =>
  obtain ⟨h0, h1⟩ := ih
  refine ⟨?_, ?_⟩
  · intro x2 x6 x7; rw [impl_rank_l0_eq]; show Le ((c113S (c113 n)).1 x2 x6 x7) _; exact (LB q118 fun _ => (LF h1))
  · intro x2 x6 x7 x18 x19 x20; rw [impl_rank_l2_eq]; show Le ((c113S (c113 n)).2 x2 x6 x7 x18 x19 x20) _; exact (LC (LC (LB (LF q126) fun _ => (LC (LF LR) (LF h1))) LR) (LF h0))
noncomputable def k127 := (c113 1000000).1
theorem q127 {x2 x6 x7} : Le (k127 x2 x6 x7) (impl_rank_l0 x2 x6 x7) := (c113L 1000000).1
noncomputable def k129 (a0 : ZG) (a1 : (List Int)) : Option (Int × (List Int)) :=
 (k110 a0 a1).bind fun r1 => k127 a0 r1 0
theorem q129 {a0 a1} : Le (k129 a0 a1) (impl_rank a0 a1) := by
 rw [impl_rank_eq]; unfold k129; exact (LB q110 fun _ => q127)
abbrev c115T := (Int → ZG → (List Int) → Int → Option ((List Int) × Bool))
noncomputable def c115S (ih : c115T) : c115T := (fun x1 x2 x6 x7 => cond (decide (x7 ≤ 7))
 ((k117 x2 x1 x7).bind fun r2 => (k129 x2 r2).bind fun r3 => cond (decide (x6.length + ([r3.1] : List Int).length ≤ room))
 (fk (x6 ++ ([r3.1] : List Int)) fun v30 => fk (w64 (x7 + 1)) fun v31 => ih x1 x2 v30 v31)
 (none))
 (fk (x6, true) some))
noncomputable def c115 (n : Nat) : c115T := Nat.rec (motive := fun _ => c115T) (fun _ _ _ _ => none) (fun _ ih => c115S ih) n
theorem c115L (n : Nat) : (∀ {x1 x2 x6 x7}, Le ((c115 n) x1 x2 x6 x7) (impl_RanksAt_l0 x1 x2 x6 x7)) := by
 induction n with
 | zero => exact LN
 | succ n ih =>
  have h0 := @ih
  · intro x1 x2 x6 x7; rw [impl_RanksAt_l0_eq]; show Le ((c115S (c115 n)) x1 x2 x6 x7) _; exact (LC (LB q117 fun _ => (LB q129 fun _ => (LC (LF (LF h0)) LR))) (LF LR))
noncomputable def k130 := (c115 1000000)
theorem q130 {x1 x2 x6 x7} : Le (k130 x1 x2 x6 x7) (impl_RanksAt_l0 x1 x2 x6 x7) := (c115L 1000000)
noncomputable def k131 (a0 : ZG) (a1 : Int) : Option ((List Int) × Bool) :=
 (k28 a0 a1).bind fun r1 => cond (!r1)
 (fk (([] : List Int), false) some)
 (k130 a1 a0 ([] : List Int) 0)
theorem q131 {a0 a1} : Le (k131 a0 a1) (impl_RanksAt a0 a1) := by
 rw [impl_RanksAt_eq]; unfold k131; exact (LB q28 fun _ => (LC (LF LR) q130))
noncomputable def k132 (a0 : ZG) (a1 : Int) : Option ((List Int) × Bool) :=
 (k28 a0 a1).bind fun r1 => cond (!r1)
 (fk (([] : List Int), false) some)
 ((k37 a0).bind fun r2 => cond (decide (r2 > 3))
 (fk (([] : List Int), false) some)
 ((k131 a0 a1).bind fun r3 => k116 a0 r3.1 ([] : List Int) 1))
theorem q132 {a0 a1} : Le (k132 a0 a1) (impl_GapsAt a0 a1) := by
 rw [impl_GapsAt_eq]; unfold k132; exact (LB q28 fun _ => (LC (LF LR) (LB q37 fun _ => (LC (LF LR) (LB q131 fun _ => q116)))))
abbrev c118T := ((List Int) → (List Int) → Int → Int → Option (List Int))
noncomputable def c118S (ih : c118T) : c118T := (fun x1 x5 x10 x11 => cond (decide (x11 < x10))
 (cond (inside x11 x5.length)
 (cond (inside x11 x1.length)
 (cond (inside x11 x5.length)
 (fk (x5.set x11.toNat (w64 ((x5.getD x11.toNat 0) + (x1.getD x11.toNat 0)))) fun v32 => fk (w64 (x11 + 1)) fun v33 => ih x1 v32 x10 v33)
 (none))
 (none))
 (none))
 (some x5))
noncomputable def c118 (n : Nat) : c118T := Nat.rec (motive := fun _ => c118T) (fun _ _ _ _ => none) (fun _ ih => c118S ih) n
theorem c118L (n : Nat) : (∀ {x1 x5 x10 x11}, Le ((c118 n) x1 x5 x10 x11) (impl_plus_l0 x1 x5 x10 x11)) := by
 induction n with
 | zero => exact LN
 | succ n ih =>
  have h0 := @ih
  · intro x1 x5 x10 x11; rw [impl_plus_l0_eq]; show Le ((c118S (c118 n)) x1 x5 x10 x11) _; exact (LC (LC (LC (LC (LF (LF h0)) LR) LR) LR) LR)
noncomputable def k133 := (c118 1000000)
theorem q133 {x1 x5 x10 x11} : Le (k133 x1 x5 x10 x11) (impl_plus_l0 x1 x5 x10 x11) := (c118L 1000000)
noncomputable def k134 (a0 : (List Int)) (a1 : (List Int)) : Option (List Int) :=
 (k60 a0).bind fun r1 => fk (r1.length : Int) fun v34 => k133 a1 r1 v34 0
theorem q134 {a0 a1} : Le (k134 a0 a1) (impl_plus a0 a1) := by
 rw [impl_plus_eq]; unfold k134; exact (LB q60 fun _ => (LF q133))
noncomputable def k135 (a0 : ZG) (a1 : (List Int)) : Option Bool :=
 (k92 a1).bind fun r1 => cond (decide (r1 < 0))
 (some false)
 ((k109 a0 a1 0).bind fun r2 => cond (inside 0 r2.1.length)
 (fk (decide (r2.1.getD 0 0 ≥ 0)) some)
 (none))
theorem q135 {a0 a1} : Le (k135 a0 a1) (impl_winnable a0 a1) := by
 rw [impl_winnable_eq]; unfold k135; exact (LB q92 fun _ => (LC LR (LB q109 fun _ => (LC (LF LR) LR))))
abbrev c121T := ((List Int) → ZG → Int → Int → Option Bool)
noncomputable def c121S (ih : c121T) : c121T := (fun x1 x2 x7 x8 => cond (decide (x8 < x7))
 ((k117 x2 x8 (-1)).bind fun r1 => (k134 x1 r1).bind fun r2 => (k135 x2 r2).bind fun r3 => cond (!r3)
 (some false)
 (fk (w64 (x8 + 1)) fun v35 => ih x1 x2 x7 v35))
 (some true))
noncomputable def c121 (n : Nat) : c121T := Nat.rec (motive := fun _ => c121T) (fun _ _ _ _ => none) (fun _ ih => c121S ih) n
theorem c121L (n : Nat) : (∀ {x1 x2 x7 x8}, Le ((c121 n) x1 x2 x7 x8) (impl_reaches_l0 x1 x2 x7 x8)) := by
 induction n with
 | zero => exact LN
 | succ n ih =>
  have h0 := @ih
  · intro x1 x2 x7 x8; rw [impl_reaches_l0_eq]; show Le ((c121S (c121 n)) x1 x2 x7 x8) _; exact (LC (LB q117 fun _ => (LB q134 fun _ => (LB q135 fun _ => (LC LR (LF h0))))) LR)
noncomputable def k136 := (c121 1000000)
theorem q136 {x1 x2 x7 x8} : Le (k136 x1 x2 x7 x8) (impl_reaches_l0 x1 x2 x7 x8) := (c121L 1000000)
noncomputable def k137 (a0 : ZG) (a1 : (List Int)) : Option Bool :=
 fk (a1.length : Int) fun v36 => k136 a1 a0 v36 0
theorem q137 {a0 a1} : Le (k137 a0 a1) (impl_reaches a0 a1) := by
 rw [impl_reaches_eq]; unfold k137; exact (LF q136)
abbrev c123T := (ZG → Int → Option ((List Int) × Bool)) × (ZG → Int → (List (List Int)) → Int → Int → Option ((List Int) × Bool))
noncomputable def c123S (ih : c123T) : c123T := (fun x1 x4 => (k118 x1.1 x4).bind fun r3 => fk (r3.length : Int) fun v37 => ih.2 x1 x4 r3 v37 0,
 fun x1 x4 x25 x26 x27 => cond (decide (x27 < x26))
 (cond (inside x27 x25.length)
 ((fk (x25.getD x27.toNat ([] : List Int)) fun v38 => k137 x1 v38).bind fun r4 => cond (r4)
 (fk (x25.getD x27.toNat ([] : List Int), true) some)
 (fk (w64 (x27 + 1)) fun v39 => ih.2 x1 x4 x25 x26 v39))
 (none))
 (fk (w64 (x4 + 1)) fun v40 => ih.1 x1 v40))
noncomputable def c123 (n : Nat) : c123T := Nat.rec (motive := fun _ => c123T) (fun _ _ => none, fun _ _ _ _ _ => none) (fun _ ih => c123S ih) n
theorem c123L (n : Nat) : (∀ {x1 x4}, Le ((c123 n).1 x1 x4) (impl_GonalDivisor_l0 x1 x4)) ∧ (∀ {x1 x4 x25 x26 x27}, Le ((c123 n).2 x1 x4 x25 x26 x27) (impl_GonalDivisor_l2 x1 x4 x25 x26 x27)) := by
 induction n with
 | zero => exact ⟨LN, LN⟩
 | succ n ih =>
  obtain ⟨h0, h1⟩ := ih
  refine ⟨?_, ?_⟩
  · intro x1 x4; rw [impl_GonalDivisor_l0_eq]; show Le ((c123S (c123 n)).1 x1 x4) _; exact (LB q118 fun _ => (LF h1))
  · intro x1 x4 x25 x26 x27; rw [impl_GonalDivisor_l2_eq]; show Le ((c123S (c123 n)).2 x1 x4 x25 x26 x27) _; exact (LC (LC (LB (LF q137) fun _ => (LC (LF LR) (LF h1))) LR) (LF h0))
noncomputable def k138 := (c123 1000000).1
theorem q138 {x1 x4} : Le (k138 x1 x4) (impl_GonalDivisor_l0 x1 x4) := (c123L 1000000).1
noncomputable def k140 (a0 : ZG) : Option ((List Int) × Bool) :=
 (k20 a0).bind fun r1 => cond (!r1)
 (fk (([] : List Int), false) some)
 (cond (decide (a0.1 > 5))
 (fk (([] : List Int), false) some)
 ((k37 a0).bind fun r2 => cond (decide (r2 > 5))
 (fk (([] : List Int), false) some)
 (k138 a0 1)))
theorem q140 {a0} : Le (k140 a0) (impl_GonalDivisor a0) := by
 rw [impl_GonalDivisor_eq]; unfold k140; exact (LB q20 fun _ => (LC (LF LR) (LC (LF LR) (LB q37 fun _ => (LC (LF LR) q138)))))
noncomputable def k141 (a0 : ZG) : Option (Int × Bool) :=
 (k140 a0).bind fun r1 => cond (!r1.2)
 (fk (0, false) some)
 ((k93 r1.1).bind fun r2 => fk (r2, true) some)
theorem q141 {a0} : Le (k141 a0) (impl_GonalityOf a0) := by
 rw [impl_GonalityOf_eq]; unfold k141; exact (LB q140 fun _ => (LC (LF LR) (LB q93 fun _ => (LF LR))))
abbrev c126T := (Int → ZG → (List Int) → Int → Int → Option (List Int))
noncomputable def c126S (ih : c126T) : c126T := (fun x1 x2 x5 x15 x16 => cond (decide (x16 < x15))
 (cond ((x16 : Int) != x1)
 ((k24 x2 x16).bind fun r2 => cond (inside x16 x5.length)
 (fk (x5.set x16.toNat (w64 (r2 - 1))) fun v41 => fk (w64 (x16 + 1)) fun v42 => ih x1 x2 v41 x15 v42)
 (none))
 (fk (w64 (x16 + 1)) fun v43 => ih x1 x2 x5 x15 v43))
 (some x5))
noncomputable def c126 (n : Nat) : c126T := Nat.rec (motive := fun _ => c126T) (fun _ _ _ _ _ => none) (fun _ ih => c126S ih) n
theorem c126L (n : Nat) : (∀ {x1 x2 x5 x15 x16}, Le ((c126 n) x1 x2 x5 x15 x16) (impl_FullPile_l0 x1 x2 x5 x15 x16)) := by
 induction n with
 | zero => exact LN
 | succ n ih =>
  have h0 := @ih
  · intro x1 x2 x5 x15 x16; rw [impl_FullPile_l0_eq]; show Le ((c126S (c126 n)) x1 x2 x5 x15 x16) _; exact (LC (LC (LB q24 fun _ => (LC (LF (LF h0)) LR)) (LF h0)) LR)
noncomputable def k142 := (c126 1000000)
theorem q142 {x1 x2 x5 x15 x16} : Le (k142 x1 x2 x5 x15 x16) (impl_FullPile_l0 x1 x2 x5 x15 x16) := (c126L 1000000)
noncomputable def k143 (a0 : ZG) (a1 : Int) : Option (List Int) :=
 (k28 a0 a1).bind fun r1 => cond (!r1)
 (some ([] : List Int))
 (cond (decide (0 ≤ a0.1) && decide (a0.1 ≤ (room : Int)))
 (fk (List.replicate a0.1.toNat (0 : Int)) fun v44 => fk ((List.replicate a0.1.toNat (0 : Int)).length : Int) fun v45 => k142 a1 a0 v44 v45 0)
 (none))
theorem q143 {a0 a1} : Le (k143 a0 a1) (impl_FullPile a0 a1) := by
 rw [impl_FullPile_eq]; unfold k143; exact (LB q28 fun _ => (LC LR (LC (LF (LF q142)) LR)))
abbrev c128T := ((List Int) → Int → Int → Option (List Int))
noncomputable def c128S (ih : c128T) : c128T := (fun x3 x8 x9 => cond (decide (x9 < x8))
 (cond (inside x9 x3.length)
 (cond (inside x9 x3.length)
 (fk (x3.set x9.toNat (w64 (0 - (x3.getD x9.toNat 0)))) fun v46 => fk (w64 (x9 + 1)) fun v47 => ih v46 x8 v47)
 (none))
 (none))
 (some x3))
noncomputable def c128 (n : Nat) : c128T := Nat.rec (motive := fun _ => c128T) (fun _ _ _ => none) (fun _ ih => c128S ih) n
theorem c128L (n : Nat) : (∀ {x3 x8 x9}, Le ((c128 n) x3 x8 x9) (impl_NegateDivisor_l0 x3 x8 x9)) := by
 induction n with
 | zero => exact LN
 | succ n ih =>
  have h0 := @ih
  · intro x3 x8 x9; rw [impl_NegateDivisor_l0_eq]; show Le ((c128S (c128 n)) x3 x8 x9) _; exact (LC (LC (LC (LF (LF h0)) LR) LR) LR)
noncomputable def k144 := (c128 1000000)
theorem q144 {x3 x8 x9} : Le (k144 x3 x8 x9) (impl_NegateDivisor_l0 x3 x8 x9) := (c128L 1000000)
noncomputable def k145 (a0 : (List Int)) : Option (List Int) :=
 (k60 a0).bind fun r1 => fk (r1.length : Int) fun v48 => k144 r1 v48 0
theorem q145 {a0} : Le (k145 a0) (impl_NegateDivisor a0) := by
 rw [impl_NegateDivisor_eq]; unfold k145; exact (LB q60 fun _ => (LF q144))
noncomputable def k146 (a0 : ZG) (a1 : (List Int)) (a2 : Int) : Option (List Int) :=
 (k143 a0 a2).bind fun r1 => (k145 a1).bind fun r2 => (k134 r1 r2).bind fun r3 => (k109 a0 r3 a2).bind fun r4 => (k145 r4.1).bind fun r5 => (k134 r1 r5).bind fun r6 => cond (inside a2 r6.length)
 (fk (r6.set a2.toNat 0) some)
 (none)
theorem q146 {a0 a1 a2} : Le (k146 a0 a1 a2) (impl_recurrentOf a0 a1 a2) := by
 rw [impl_recurrentOf_eq]; unfold k146; exact (LB q143 fun _ => (LB q145 fun _ => (LB q134 fun _ => (LB q109 fun _ => (LB q145 fun _ => (LB q134 fun _ => (LC (LF LR) LR)))))))
noncomputable def k147 (a0 : ZG) (a1 : Int) : Option ((List Int) × Bool) :=
 (k28 a0 a1).bind fun r1 => cond (!r1)
 (fk (([] : List Int), false) some)
 (cond (decide (0 ≤ a0.1) && decide (a0.1 ≤ (room : Int)))
 ((fk (List.replicate a0.1.toNat (0 : Int)) fun v49 => k146 a0 v49 a1).bind fun r2 => fk (r2, true) some)
 (none))
theorem q147 {a0 a1} : Le (k147 a0 a1) (impl_IdentityPile a0 a1) := by
 rw [impl_IdentityPile_eq]; unfold k147; exact (LB q28 fun _ => (LC (LF LR) (LC (LB (LF q146) fun _ => (LF LR)) LR)))
noncomputable def k148 (a0 : ZG) : Option Int :=
 (k30 a0).bind fun r1 => some r1
theorem q148 {a0} : Le (k148 a0) (impl_GroupOrder a0) := by
 rw [impl_GroupOrder_eq]; unfold k148; exact (LB q30 fun _ => LR)
abbrev c133T := (Int → (List (List Int)) → Int → Int → Option ((List (List Int)) × Bool))
noncomputable def c133S (ih : c133T) : c133T := (fun x1 x6 x22 x23 => cond (decide (x23 < x22))
 (cond (inside x23 x6.length)
 (cond (inside x1 (x6.getD x23.toNat ([] : List Int)).length)
 (fk (x6.set x23.toNat ((x6.getD x23.toNat ([] : List Int)).set x1.toNat (-1))) fun v50 => fk (w64 (x23 + 1)) fun v51 => ih x1 v50 x22 v51)
 (none))
 (none))
 (fk (x6, true) some))
noncomputable def c133 (n : Nat) : c133T := Nat.rec (motive := fun _ => c133T) (fun _ _ _ _ => none) (fun _ ih => c133S ih) n
theorem c133L (n : Nat) : (∀ {x1 x6 x22 x23}, Le ((c133 n) x1 x6 x22 x23) (impl_ParkingsOf_l0 x1 x6 x22 x23)) := by
 induction n with
 | zero => exact LN
 | succ n ih =>
  have h0 := @ih
  · intro x1 x6 x22 x23; rw [impl_ParkingsOf_l0_eq]; show Le ((c133S (c133 n)) x1 x6 x22 x23) _; exact (LC (LC (LC (LF (LF h0)) LR) LR) (LF LR))
noncomputable def k149 := (c133 1000000)
theorem q149 {x1 x6 x22 x23} : Le (k149 x1 x6 x22 x23) (impl_ParkingsOf_l0 x1 x6 x22 x23) := (c133L 1000000)
noncomputable def k150 (a0 : (List Int)) (a1 : ZG) (a2 : Int) : Option Bool :=
 (k105 a1 a0 a2).bind fun r1 => fk (decide ((r1.length : Int) < a1.1)) some
theorem q150 {a0 a1 a2} : Le (k150 a0 a1 a2) (impl_reducedAt_1 a0 a1 a2) := by
 rw [impl_reducedAt_1_eq]; unfold k150; exact (LB q105 fun _ => (LF LR))
noncomputable def k151 (a0 : (List (List Int))) (a1 : ZG) (a2 : Int) : Option (List (List Int)) := Lb.delRows k150 a0 a1 a2
theorem q151 {a0 a1 a2} : Le (k151 a0 a1 a2) (slices_DeleteFunc_int_int__reducedAt_1 a0 a1 a2) := by rw [slices_DeleteFunc_int_int__reducedAt_1_eq]; exact Lb.delRows_le (fun _ _ _ => q150) _ _ _
abbrev c136T := (ZG → Int → (List (List Int)) → Int → Option (List (List Int))) × (ZG → Int → (List (List Int)) → Int → Int → (List (List Int)) → Int → Int → Option (List (List Int))) × (ZG → Int → (List (List Int)) → Int → Int → (List (List Int)) → Int → Int → Int → Nat → Option (List (List Int)))
noncomputable def c136S (ih : c136T) : c136T := (fun x2 x3 x5 x6 => cond (decide (x6 < x2.1))
 ((k24 x2 x6).bind fun r1 => cond ((x6 : Int) == x3)
 (fk ([] : List (List Int)) fun v52 => fk (x5.length : Int) fun v53 => ih.2.1 x2 x3 x5 x6 0 v52 v53 0)
 (fk (w64 (r1 - 1)) fun v54 => fk ([] : List (List Int)) fun v55 => fk (x5.length : Int) fun v56 => ih.2.1 x2 x3 x5 x6 v54 v55 v56 0))
 ((k151 x5 x2 x3).bind fun r3 => some r3),
 fun x2 x3 x5 x6 x7 x8 x27 x28 => cond (decide (x28 < x27))
 (cond (inside x28 x5.length)
 (ih.2.2 x2 x3 x5 x6 x7 x8 0 x27 x28 x28.toNat)
 (none))
 (fk (w64 (x6 + 1)) fun v57 => ih.1 x2 x3 x8 v57),
 fun x2 x3 x5 x6 x7 x8 x11 x27 x28 i10_0 => cond (decide (x11 ≤ x7))
 ((fk (x5.getD i10_0 ([] : List Int)) fun v58 => k60 v58).bind fun r2 => cond (decide (r2.length + ([x11] : List Int).length ≤ room))
 (cond (decide (x8.length + ([r2 ++ ([x11] : List Int)] : List (List Int)).length ≤ room))
 (fk (x8 ++ ([r2 ++ ([x11] : List Int)] : List (List Int))) fun v59 => fk (w64 (x11 + 1)) fun v60 => ih.2.2 x2 x3 x5 x6 x7 v59 v60 x27 x28 i10_0)
 (none))
 (none))
 (fk (w64 (x28 + 1)) fun v61 => ih.2.1 x2 x3 x5 x6 x7 x8 x27 v61))
noncomputable def c136 (n : Nat) : c136T := Nat.rec (motive := fun _ => c136T) (fun _ _ _ _ => none, fun _ _ _ _ _ _ _ _ => none, fun _ _ _ _ _ _ _ _ _ _ => none) (fun _ ih => c136S ih) n
theorem c136L (n : Nat) : (∀ {x2 x3 x5 x6}, Le ((c136 n).1 x2 x3 x5 x6) (impl_reducedAt_l0 x2 x3 x5 x6)) ∧ (∀ {x2 x3 x5 x6 x7 x8 x27 x28}, Le ((c136 n).2.1 x2 x3 x5 x6 x7 x8 x27 x28) (impl_reducedAt_l2 x2 x3 x5 x6 x7 x8 x27 x28)) ∧ (∀ {x2 x3 x5 x6 x7 x8 x11 x27 x28 i10_0}, Le ((c136 n).2.2 x2 x3 x5 x6 x7 x8 x11 x27 x28 i10_0) (impl_reducedAt_l4 x2 x3 x5 x6 x7 x8 x11 x27 x28 i10_0)) := by
 induction n with
 | zero => exact ⟨LN, LN, LN⟩
 | succ n ih =>
  obtain ⟨h0, h1, h2⟩ := ih
  refine ⟨?_, ?_, ?_⟩
  · intro x2 x3 x5 x6; rw [impl_reducedAt_l0_eq]; show Le ((c136S (c136 n)).1 x2 x3 x5 x6) _; exact (LC (LB q24 fun _ => (LC (LF (LF h1)) (LF (LF (LF h1))))) (LB q151 fun _ => LR))
  · intro x2 x3 x5 x6 x7 x8 x27 x28; rw [impl_reducedAt_l2_eq]; show Le ((c136S (c136 n)).2.1 x2 x3 x5 x6 x7 x8 x27 x28) _; exact (LC (LC h2 LR) (LF h0))
  · intro x2 x3 x5 x6 x7 x8 x11 x27 x28 i10_0; rw [impl_reducedAt_l4_eq]; show Le ((c136S (c136 n)).2.2 x2 x3 x5 x6 x7 x8 x11 x27 x28 i10_0) _; exact (LC (LB (LF q60) fun _ => (LC (LC (LF (LF h2)) LR) LR)) (LF h1))
noncomputable def k152 := (c136 1000000).1
theorem q152 {x2 x3 x5 x6} : Le (k152 x2 x3 x5 x6) (impl_reducedAt_l0 x2 x3 x5 x6) := (c136L 1000000).1
noncomputable def k155 (a0 : ZG) (a1 : Int) : Option (List (List Int)) :=
 fk ([([] : List Int)] : List (List Int)) fun v62 => k152 a0 a1 v62 0
theorem q155 {a0 a1} : Le (k155 a0 a1) (impl_reducedAt a0 a1) := by
 rw [impl_reducedAt_eq]; unfold k155; exact (LF q152)
noncomputable def k156 (a0 : ZG) (a1 : Int) : Option ((List (List Int)) × Bool) :=
 (k28 a0 a1).bind fun r1 => cond (!r1)
 (fk (([] : List (List Int)), false) some)
 ((k148 a0).bind fun r2 => cond (decide (r2 > 400))
 (fk (([] : List (List Int)), false) some)
 ((k155 a0 a1).bind fun r3 => fk (r3.length : Int) fun v63 => k149 a1 r3 v63 0))
theorem q156 {a0 a1} : Le (k156 a0 a1) (impl_ParkingsOf a0 a1) := by
 rw [impl_ParkingsOf_eq]; unfold k156; exact (LB q28 fun _ => (LC (LF LR) (LB q148 fun _ => (LC (LF LR) (LB q155 fun _ => (LF q149))))))
abbrev c139T := ((List Int) → (List Int) → Int → Int → Option Bool)
noncomputable def c139S (ih : c139T) : c139T := (fun x0 x1 x12 x13 => cond (decide (x13 < x12))
 (cond (inside x13 x0.length)
 (cond (inside x13 x1.length)
 (cond (((x0.getD x13.toNat 0) : Int) != (x1.getD x13.toNat 0))
 (some false)
 (fk (w64 (x13 + 1)) fun v64 => ih x0 x1 x12 v64))
 (none))
 (none))
 (some true))
noncomputable def c139 (n : Nat) : c139T := Nat.rec (motive := fun _ => c139T) (fun _ _ _ _ => none) (fun _ ih => c139S ih) n
theorem c139L (n : Nat) : (∀ {x0 x1 x12 x13}, Le ((c139 n) x0 x1 x12 x13) (slices_Equal_int_int_l0 x0 x1 x12 x13)) := by
 induction n with
 | zero => exact LN
 | succ n ih =>
  have h0 := @ih
  · intro x0 x1 x12 x13; rw [slices_Equal_int_int_l0_eq]; show Le ((c139S (c139 n)) x0 x1 x12 x13) _; exact (LC (LC (LC (LC LR (LF h0)) LR) LR) LR)
noncomputable def k157 := (c139 1000000)
theorem q157 {x0 x1 x12 x13} : Le (k157 x0 x1 x12 x13) (slices_Equal_int_int_l0 x0 x1 x12 x13) := (c139L 1000000)
noncomputable def k158 (a0 : (List Int)) (a1 : (List Int)) : Option Bool :=
 cond (((a0.length : Int) : Int) != (a1.length : Int))
 (some false)
 (fk (a0.length : Int) fun v65 => k157 a0 a1 v65 0)
theorem q158 {a0 a1} : Le (k158 a0 a1) (slices_Equal_int_int a0 a1) := by
 rw [slices_Equal_int_int_eq]; unfold k158; exact (LC LR (LF q157))
noncomputable def k159 (a0 : (List Int)) (a1 : (List Int)) : Option Bool :=
 (k158 a0 a1).bind fun r1 => some r1
theorem q159 {a0 a1} : Le (k159 a0 a1) (impl_SameDivisor a0 a1) := by
 rw [impl_SameDivisor_eq]; unfold k159; exact (LB q158 fun _ => LR)
abbrev c142T := ((List Int) → Int → (List Int) → (List Int) → Int → Int → Option Bool)
noncomputable def c142S (ih : c142T) : c142T := (fun x1 x2 x8 x9 x34 x35 => cond (decide (x35 < x34))
 (cond (inside x35 x9.length)
 (cond ((x35 : Int) != x2)
 (cond (((x9.getD x35.toNat 0) : Int) != 1)
 (some false)
 (fk (w64 (x35 + 1)) fun v66 => ih x1 x2 x8 x9 x34 v66))
 (fk (w64 (x35 + 1)) fun v67 => ih x1 x2 x8 x9 x34 v67))
 (none))
 ((k159 x8 x1).bind fun r5 => some r5))
noncomputable def c142 (n : Nat) : c142T := Nat.rec (motive := fun _ => c142T) (fun _ _ _ _ _ _ => none) (fun _ ih => c142S ih) n
theorem c142L (n : Nat) : (∀ {x1 x2 x8 x9 x34 x35}, Le ((c142 n) x1 x2 x8 x9 x34 x35) (impl_IsRecurrent_l0 x1 x2 x8 x9 x34 x35)) := by
 induction n with
 | zero => exact LN
 | succ n ih =>
  have h0 := @ih
  · intro x1 x2 x8 x9 x34 x35; rw [impl_IsRecurrent_l0_eq]; show Le ((c142S (c142 n)) x1 x2 x8 x9 x34 x35) _; exact (LC (LC (LC (LC LR (LF h0)) (LF h0)) LR) (LB q159 fun _ => LR))
noncomputable def k160 := (c142 1000000)
theorem q160 {x1 x2 x8 x9 x34 x35} : Le (k160 x1 x2 x8 x9 x34 x35) (impl_IsRecurrent_l0 x1 x2 x8 x9 x34 x35) := (c142L 1000000)
noncomputable def k161 (a0 : ZG) (a1 : (List Int)) (a2 : Int) : Option Bool :=
 (k59 a0 a1).bind fun r1 => cond (r1)
 ((fk (w64 (a0.1 - 1)) fun v68 => k0 a2 0 v68).bind fun r2 => cond (r2)
 ((k95 a1).bind fun r3 => cond (r3)
 (cond (inside a2 a1.length)
 (fk (((a1.getD a2.toNat 0) : Int) == 0) some)
 (none))
 (some false))
 (some false))
 (some false)
theorem q161 {a0 a1 a2} : Le (k161 a0 a1 a2) (impl_PileOk a0 a1 a2) := by
 rw [impl_PileOk_eq]; unfold k161; exact (LB q59 fun _ => (LC (LB (LF q0) fun _ => (LC (LB q95 fun _ => (LC (LC (LF LR) LR) LR)) LR)) LR))
abbrev c144T := (Int → ZG → (List Int) → Int → Int → Option Int)
noncomputable def c144S (ih : c144T) : c144T := (fun x2 x3 x9 x10 x11 => cond (decide (x11 < x10))
 (cond (inside x11 x9.length)
 (cond ((x11 : Int) != x2)
 ((k24 x3 x11).bind fun r1 => cond (decide (x9.getD x11.toNat 0 ≥ r1))
 (some x11)
 (fk (w64 (x11 + 1)) fun v69 => ih x2 x3 x9 x10 v69))
 (fk (w64 (x11 + 1)) fun v70 => ih x2 x3 x9 x10 v70))
 (none))
 (some (-1)))
noncomputable def c144 (n : Nat) : c144T := Nat.rec (motive := fun _ => c144T) (fun _ _ _ _ _ => none) (fun _ ih => c144S ih) n
theorem c144L (n : Nat) : (∀ {x2 x3 x9 x10 x11}, Le ((c144 n) x2 x3 x9 x10 x11) (impl_unstable_l0 x2 x3 x9 x10 x11)) := by
 induction n with
 | zero => exact LN
 | succ n ih =>
  have h0 := @ih
  · intro x2 x3 x9 x10 x11; rw [impl_unstable_l0_eq]; show Le ((c144S (c144 n)) x2 x3 x9 x10 x11) _; exact (LC (LC (LC (LB q24 fun _ => (LC LR (LF h0))) (LF h0)) LR) LR)
noncomputable def k162 := (c144 1000000)
theorem q162 {x2 x3 x9 x10 x11} : Le (k162 x2 x3 x9 x10 x11) (impl_unstable_l0 x2 x3 x9 x10 x11) := (c144L 1000000)
noncomputable def k163 (a0 : ZG) (a1 : (List Int)) (a2 : Int) : Option Int :=
 fk (a1.length : Int) fun v71 => k162 a2 a0 a1 v71 0
theorem q163 {a0 a1 a2} : Le (k163 a0 a1 a2) (impl_unstable a0 a1 a2) := by
 rw [impl_unstable_eq]; unfold k163; exact (LF q162)
noncomputable def k164 (a0 : ZG) (a1 : (List Int)) (a2 : Int) : Option Bool :=
 (k161 a0 a1 a2).bind fun r1 => cond (r1)
 ((k163 a0 a1 a2).bind fun r2 => fk (decide (r2 < 0)) some)
 (some false)
theorem q164 {a0 a1 a2} : Le (k164 a0 a1 a2) (impl_IsStable a0 a1 a2) := by
 rw [impl_IsStable_eq]; unfold k164; exact (LB q161 fun _ => (LC (LB q163 fun _ => (LF LR)) LR))
abbrev c147T := (Int → ZG → (List Int) → (List Int) → Int → Option ((List Int) × (List Int)))
noncomputable def c147S (ih : c147T) : c147T := (fun x2 x3 x8 x9 x10 => cond (decide (x10 ≥ 0))
 (cond (inside x10 x8.length)
 ((k24 x3 x10).bind fun r3 => cond (decide (r3 = 0))
 (none)
 ((fk (w64 (Int.tdiv (x8.getD x10.toNat 0) r3)) fun v72 => k62 x3 x8 x10 v72).bind fun r4 => cond (inside x10 x9.length)
 (cond (inside x10 x9.length)
 ((k163 x3 r4 x2).bind fun r5 => fk (x9.set x10.toNat (w64 ((x9.getD x10.toNat 0) + (w64 (Int.tdiv (x8.getD x10.toNat 0) r3))))) fun v73 => ih x2 x3 r4 v73 r5)
 (none))
 (none)))
 (none))
 (cond (inside x2 x8.length)
 (fk (x8.set x2.toNat 0, x9) some)
 (none)))
noncomputable def c147 (n : Nat) : c147T := Nat.rec (motive := fun _ => c147T) (fun _ _ _ _ _ => none) (fun _ ih => c147S ih) n
theorem c147L (n : Nat) : (∀ {x2 x3 x8 x9 x10}, Le ((c147 n) x2 x3 x8 x9 x10) (impl_stabilize_l0 x2 x3 x8 x9 x10)) := by
 induction n with
 | zero => exact LN
 | succ n ih =>
  have h0 := @ih
  · intro x2 x3 x8 x9 x10; rw [impl_stabilize_l0_eq]; show Le ((c147S (c147 n)) x2 x3 x8 x9 x10) _; exact (LC (LC (LB q24 fun _ => (LC LR (LB (LF q62) fun _ => (LC (LC (LB q163 fun _ => (LF h0)) LR) LR)))) LR) (LC (LF LR) LR))
noncomputable def k165 := (c147 1000000)
theorem q165 {x2 x3 x8 x9 x10} : Le (k165 x2 x3 x8 x9 x10) (impl_stabilize_l0 x2 x3 x8 x9 x10) := (c147L 1000000)
noncomputable def k166 (a0 : ZG) (a1 : (List Int)) (a2 : Int) : Option ((List Int) × (List Int)) :=
 (k60 a1).bind fun r1 => cond (decide (0 ≤ a0.1) && decide (a0.1 ≤ (room : Int)))
 ((k163 a0 r1 a2).bind fun r2 => fk (List.replicate a0.1.toNat (0 : Int)) fun v74 => k165 a2 a0 r1 v74 r2)
 (none)
theorem q166 {a0 a1 a2} : Le (k166 a0 a1 a2) (impl_stabilize a0 a1 a2) := by
 rw [impl_stabilize_eq]; unfold k166; exact (LB q60 fun _ => (LC (LB q163 fun _ => (LF q165)) LR))
noncomputable def k167 (a0 : ZG) (a1 : (List Int)) (a2 : Int) : Option Bool :=
 (k164 a0 a1 a2).bind fun r1 => cond (!r1)
 (some false)
 ((k60 a1).bind fun r2 => (k62 a0 r2 a2 1).bind fun r3 => cond (inside a2 r3.length)
 ((fk (r3.set a2.toNat 0) fun v75 => k166 a0 v75 a2).bind fun r4 => fk (r4.2.length : Int) fun v76 => k160 a1 a2 r4.1 r4.2 v76 0)
 (none))
theorem q167 {a0 a1 a2} : Le (k167 a0 a1 a2) (impl_IsRecurrent a0 a1 a2) := by
 rw [impl_IsRecurrent_eq]; unfold k167; exact (LB q164 fun _ => (LC LR (LB q60 fun _ => (LB q62 fun _ => (LC (LB (LF q166) fun _ => (LF q160)) LR)))))
noncomputable def k168 (a0 : ZG) (a1 : (List Int)) (a2 : Int) : Option ((List Int) × ((List Int) × Bool)) :=
 (k161 a0 a1 a2).bind fun r1 => cond (!r1)
 (fk (([] : List Int), ([] : List Int), false) some)
 ((k166 a0 a1 a2).bind fun r2 => fk (r2.1, r2.2, true) some)
theorem q168 {a0 a1 a2} : Le (k168 a0 a1 a2) (impl_Stabilize a0 a1 a2) := by
 rw [impl_Stabilize_eq]; unfold k168; exact (LB q161 fun _ => (LC (LF LR) (LB q166 fun _ => (LF LR))))
noncomputable def k169 (a0 : ZG) (a1 : (List Int)) (a2 : Int) : Option ByteArray :=
 (k168 a0 a1 a2).bind fun r1 => cond (!r1.2.2)
 (some (⟨#[]⟩ : ByteArray))
 ((k36 r1.1).bind fun r2 => cond (decide (r2.size + (⟨#[32, 97, 102, 116, 101, 114, 32]⟩ : ByteArray).size ≤ 9223372036854775807))
 ((k92 r1.2.1).bind fun r3 => (k32 r3).bind fun r4 => cond (decide ((r2 ++ (⟨#[32, 97, 102, 116, 101, 114, 32]⟩ : ByteArray)).size + r4.size ≤ 9223372036854775807))
 ((k167 a0 r1.1 a2).bind fun r5 => cond (r5)
 (cond (decide (((r2 ++ (⟨#[32, 97, 102, 116, 101, 114, 32]⟩ : ByteArray)) ++ r4).size + (⟨#[32, 114, 101, 99, 117, 114, 114, 101, 110, 116]⟩ : ByteArray).size ≤ 9223372036854775807))
 (fk (((r2 ++ (⟨#[32, 97, 102, 116, 101, 114, 32]⟩ : ByteArray)) ++ r4) ++ (⟨#[32, 114, 101, 99, 117, 114, 114, 101, 110, 116]⟩ : ByteArray)) some)
 (none))
 (fk ((r2 ++ (⟨#[32, 97, 102, 116, 101, 114, 32]⟩ : ByteArray)) ++ r4) some))
 (none))
 (none))
theorem q169 {a0 a1 a2} : Le (k169 a0 a1 a2) (impl_PileLine a0 a1 a2) := by
 rw [impl_PileLine_eq]; unfold k169; exact (LB q168 fun _ => (LC LR (LB q36 fun _ => (LC (LB q92 fun _ => (LB q32 fun _ => (LC (LB q167 fun _ => (LC (LC (LF LR) LR) (LF LR))) LR))) LR))))
noncomputable def k170 (a0 : ZG) (a1 : (List Int)) : Option (Int × Bool) :=
 (k59 a0 a1).bind fun r1 => cond (!r1)
 (fk (0, false) some)
 ((k93 a1).bind fun r2 => cond (decide (r2 > 7))
 (fk (0, false) some)
 ((k129 a0 a1).bind fun r3 => fk (r3.1, true) some))
theorem q170 {a0 a1} : Le (k170 a0 a1) (impl_RankOf a0 a1) := by
 rw [impl_RankOf_eq]; unfold k170; exact (LB q59 fun _ => (LC (LF LR) (LB q93 fun _ => (LC (LF LR) (LB q129 fun _ => (LF LR))))))
noncomputable def k171 (a0 : ZG) (a1 : (List Int)) : Option ((List Int) × Bool) :=
 (k59 a0 a1).bind fun r1 => cond (!r1)
 (fk (([] : List Int), false) some)
 ((k93 a1).bind fun r2 => cond (decide (r2 > 7))
 (fk (([] : List Int), false) some)
 ((k129 a0 a1).bind fun r3 => fk (r3.2, true) some))
theorem q171 {a0 a1} : Le (k171 a0 a1) (impl_RankWitness a0 a1) := by
 rw [impl_RankWitness_eq]; unfold k171; exact (LB q59 fun _ => (LC (LF LR) (LB q93 fun _ => (LC (LF LR) (LB q129 fun _ => (LF LR))))))
noncomputable def k172 (a0 : ZG) (a1 : (List Int)) : Option ByteArray :=
 (k170 a0 a1).bind fun r1 => cond (!r1.2)
 (some (⟨#[]⟩ : ByteArray))
 ((k171 a0 a1).bind fun r2 => (k32 r1.1).bind fun r3 => cond (decide ((⟨#[114, 97, 110, 107, 32]⟩ : ByteArray).size + r3.size ≤ 9223372036854775807))
 (cond (decide (((⟨#[114, 97, 110, 107, 32]⟩ : ByteArray) ++ r3).size + (⟨#[32, 98, 117, 116, 32, 110, 111, 116, 32]⟩ : ByteArray).size ≤ 9223372036854775807))
 ((k36 r2.1).bind fun r4 => cond (decide ((((⟨#[114, 97, 110, 107, 32]⟩ : ByteArray) ++ r3) ++ (⟨#[32, 98, 117, 116, 32, 110, 111, 116, 32]⟩ : ByteArray)).size + r4.size ≤ 9223372036854775807))
 (fk ((((⟨#[114, 97, 110, 107, 32]⟩ : ByteArray) ++ r3) ++ (⟨#[32, 98, 117, 116, 32, 110, 111, 116, 32]⟩ : ByteArray)) ++ r4) some)
 (none))
 (none))
 (none))
theorem q172 {a0 a1} : Le (k172 a0 a1) (impl_RankLine a0 a1) := by
 rw [impl_RankLine_eq]; unfold k172; exact (LB q170 fun _ => (LC LR (LB q171 fun _ => (LB q32 fun _ => (LC (LC (LB q36 fun _ => (LC (LF LR) LR)) LR) LR)))))
abbrev c155T := ((List Int) → (List (List Int)) → (List (List Int)) → Int → Int → Option ((List (List Int)) × Bool))
noncomputable def c155S (ih : c155T) : c155T := (fun x6 x7 x24 x25 x26 => cond (decide (x26 < x25))
 (cond (inside x26 x24.length)
 ((fk (x24.getD x26.toNat ([] : List Int)) fun v77 => k145 v77).bind fun r5 => (k134 x6 r5).bind fun r6 => cond (decide (x7.length + ([r6] : List (List Int)).length ≤ room))
 (fk (x7 ++ ([r6] : List (List Int))) fun v78 => fk (w64 (x26 + 1)) fun v79 => ih x6 v78 x24 x25 v79)
 (none))
 (none))
 ((k96 x7).bind fun r7 => fk (r7, true) some))
noncomputable def c155 (n : Nat) : c155T := Nat.rec (motive := fun _ => c155T) (fun _ _ _ _ _ => none) (fun _ ih => c155S ih) n
theorem c155L (n : Nat) : (∀ {x6 x7 x24 x25 x26}, Le ((c155 n) x6 x7 x24 x25 x26) (impl_RecurrentPiles_l0 x6 x7 x24 x25 x26)) := by
 induction n with
 | zero => exact LN
 | succ n ih =>
  have h0 := @ih
  · intro x6 x7 x24 x25 x26; rw [impl_RecurrentPiles_l0_eq]; show Le ((c155S (c155 n)) x6 x7 x24 x25 x26) _; exact (LC (LC (LB (LF q145) fun _ => (LB q134 fun _ => (LC (LF (LF h0)) LR))) LR) (LB q96 fun _ => (LF LR)))
noncomputable def k173 := (c155 1000000)
theorem q173 {x6 x7 x24 x25 x26} : Le (k173 x6 x7 x24 x25 x26) (impl_RecurrentPiles_l0 x6 x7 x24 x25 x26) := (c155L 1000000)
noncomputable def k174 (a0 : ZG) (a1 : Int) : Option ((List (List Int)) × Bool) :=
 (k28 a0 a1).bind fun r1 => cond (!r1)
 (fk (([] : List (List Int)), false) some)
 ((k148 a0).bind fun r2 => cond (decide (r2 > 400))
 (fk (([] : List (List Int)), false) some)
 ((k143 a0 a1).bind fun r3 => (k155 a0 a1).bind fun r4 => fk ([] : List (List Int)) fun v80 => fk (r4.length : Int) fun v81 => k173 r3 v80 r4 v81 0))
theorem q174 {a0 a1} : Le (k174 a0 a1) (impl_RecurrentPiles a0 a1) := by
 rw [impl_RecurrentPiles_eq]; unfold k174; exact (LB q28 fun _ => (LC (LF LR) (LB q148 fun _ => (LC (LF LR) (LB q143 fun _ => (LB q155 fun _ => (LF (LF q173))))))))
noncomputable def k175 (a0 : ZG) (a1 : (List Int)) (a2 : Int) : Option ((List Int) × Bool) :=
 (k59 a0 a1).bind fun r1 => cond (!r1)
 (fk (([] : List Int), false) some)
 ((k28 a0 a2).bind fun r2 => cond (!r2)
 (fk (([] : List Int), false) some)
 ((k109 a0 a1 a2).bind fun r3 => fk (r3.1, true) some))
theorem q175 {a0 a1 a2} : Le (k175 a0 a1 a2) (impl_ReducedOf a0 a1 a2) := by
 rw [impl_ReducedOf_eq]; unfold k175; exact (LB q59 fun _ => (LC (LF LR) (LB q28 fun _ => (LC (LF LR) (LB q109 fun _ => (LF LR))))))
abbrev c158T := (ZG → (List Int) → Int → Option (List Int))
noncomputable def c158S (ih : c158T) : c158T := (fun x1 x3 x4 => cond (decide (x4 < x1.1))
 ((k24 x1 x4).bind fun r2 => cond (decide (x3.length + ([w64 (r2 - 2)] : List Int).length ≤ room))
 (fk (x3 ++ ([w64 (r2 - 2)] : List Int)) fun v82 => fk (w64 (x4 + 1)) fun v83 => ih x1 v82 v83)
 (none))
 (some x3))
noncomputable def c158 (n : Nat) : c158T := Nat.rec (motive := fun _ => c158T) (fun _ _ _ => none) (fun _ ih => c158S ih) n
theorem c158L (n : Nat) : (∀ {x1 x3 x4}, Le ((c158 n) x1 x3 x4) (impl_CanonicalOf_l0 x1 x3 x4)) := by
 induction n with
 | zero => exact LN
 | succ n ih =>
  have h0 := @ih
  · intro x1 x3 x4; rw [impl_CanonicalOf_l0_eq]; show Le ((c158S (c158 n)) x1 x3 x4) _; exact (LC (LB q24 fun _ => (LC (LF (LF h0)) LR)) LR)
noncomputable def k176 := (c158 1000000)
theorem q176 {x1 x3 x4} : Le (k176 x1 x3 x4) (impl_CanonicalOf_l0 x1 x3 x4) := (c158L 1000000)
noncomputable def k177 (a0 : ZG) : Option (List Int) :=
 (k20 a0).bind fun r1 => cond (!r1)
 (some ([] : List Int))
 (k176 a0 ([] : List Int) 0)
theorem q177 {a0} : Le (k177 a0) (impl_CanonicalOf a0) := by
 rw [impl_CanonicalOf_eq]; unfold k177; exact (LB q20 fun _ => (LC LR q176))
noncomputable def k178 (a0 : ZG) (a1 : (List Int)) : Option ((List Int) × Bool) :=
 (k59 a0 a1).bind fun r1 => cond (!r1)
 (fk (([] : List Int), false) some)
 ((k177 a0).bind fun r2 => (k145 a1).bind fun r3 => (k134 r2 r3).bind fun r4 => fk (r4, true) some)
theorem q178 {a0 a1} : Le (k178 a0 a1) (impl_ResidualOf a0 a1) := by
 rw [impl_ResidualOf_eq]; unfold k178; exact (LB q59 fun _ => (LC (LF LR) (LB q177 fun _ => (LB q145 fun _ => (LB q134 fun _ => (LF LR))))))
noncomputable def k179 (a0 : ZG) (a1 : (List Int)) : Option (Int × (Int × Bool)) :=
 (k178 a0 a1).bind fun r1 => (k170 a0 a1).bind fun r2 => (k170 a0 r1.1).bind fun r3 => cond (!r2.2)
 (fk (0, 0, false) some)
 (cond (!r3.2)
 (fk (0, 0, false) some)
 (fk (r2.1, r3.1, true) some))
theorem q179 {a0 a1} : Le (k179 a0 a1) (impl_RiemannRoch a0 a1) := by
 rw [impl_RiemannRoch_eq]; unfold k179; exact (LB q178 fun _ => (LB q170 fun _ => (LB q170 fun _ => (LC (LF LR) (LC (LF LR) (LF LR))))))
noncomputable def k180 (a0 : ZG) (a1 : (List Int)) : Option ByteArray :=
 (k179 a0 a1).bind fun r1 => cond (!r1.2.2)
 (some (⟨#[]⟩ : ByteArray))
 ((k32 r1.1).bind fun r2 => cond (decide (r2.size + (⟨#[32, 45, 32]⟩ : ByteArray).size ≤ 9223372036854775807))
 ((k32 r1.2.1).bind fun r3 => cond (decide ((r2 ++ (⟨#[32, 45, 32]⟩ : ByteArray)).size + r3.size ≤ 9223372036854775807))
 (cond (decide (((r2 ++ (⟨#[32, 45, 32]⟩ : ByteArray)) ++ r3).size + (⟨#[32, 61, 32]⟩ : ByteArray).size ≤ 9223372036854775807))
 ((k93 a1).bind fun r4 => (k32 r4).bind fun r5 => cond (decide ((((r2 ++ (⟨#[32, 45, 32]⟩ : ByteArray)) ++ r3) ++ (⟨#[32, 61, 32]⟩ : ByteArray)).size + r5.size ≤ 9223372036854775807))
 (cond (decide (((((r2 ++ (⟨#[32, 45, 32]⟩ : ByteArray)) ++ r3) ++ (⟨#[32, 61, 32]⟩ : ByteArray)) ++ r5).size + (⟨#[32, 43, 32, 49, 32, 45, 32]⟩ : ByteArray).size ≤ 9223372036854775807))
 ((k37 a0).bind fun r6 => (k32 r6).bind fun r7 => cond (decide ((((((r2 ++ (⟨#[32, 45, 32]⟩ : ByteArray)) ++ r3) ++ (⟨#[32, 61, 32]⟩ : ByteArray)) ++ r5) ++ (⟨#[32, 43, 32, 49, 32, 45, 32]⟩ : ByteArray)).size + r7.size ≤ 9223372036854775807))
 (fk ((((((r2 ++ (⟨#[32, 45, 32]⟩ : ByteArray)) ++ r3) ++ (⟨#[32, 61, 32]⟩ : ByteArray)) ++ r5) ++ (⟨#[32, 43, 32, 49, 32, 45, 32]⟩ : ByteArray)) ++ r7) some)
 (none))
 (none))
 (none))
 (none))
 (none))
 (none))
theorem q180 {a0 a1} : Le (k180 a0 a1) (impl_RiemannLine a0 a1) := by
 rw [impl_RiemannLine_eq]; unfold k180; exact (LB q179 fun _ => (LC LR (LB q32 fun _ => (LC (LB q32 fun _ => (LC (LC (LB q93 fun _ => (LB q32 fun _ => (LC (LC (LB q37 fun _ => (LB q32 fun _ => (LC (LF LR) LR))) LR) LR))) LR) LR)) LR))))
noncomputable def k181 (x4 : ZC) (x6 : ZC) (x34 : (List Int)) : Option (ZC × ByteArray) :=
 (k36 x34).bind fun r46 => some (x6, r46)
theorem q181 {x4 x6 x34} : Le (k181 x4 x6 x34) (impl_RunLine_c87 x4 x6 x34) := by
 rw [impl_RunLine_c87_eq]; unfold k181; exact (LB q36 fun _ => LR)
abbrev c164T := ((List Int) → Option (List Int))
noncomputable def c164S (ih : c164T) : c164T := (fun x0 => cond (decide ((x0.length : Int) > 0))
 (cond (inside (w64 ((x0.length : Int) - 1)) x0.length)
 (cond (((x0.getD ((w64 ((x0.length : Int) - 1)).toNat) 0) : Int) == 0)
 (cond (decide (0 ≤ 0) && decide (0 ≤ w64 ((x0.length : Int) - 1)) && decide (w64 ((x0.length : Int) - 1) ≤ (x0.length : Int)))
 (fk ((x0.take ((w64 ((x0.length : Int) - 1)).toNat)).drop 0) fun v84 => ih v84)
 (none))
 (some x0))
 (none))
 (some x0))
noncomputable def c164 (n : Nat) : c164T := Nat.rec (motive := fun _ => c164T) (fun _ => none) (fun _ ih => c164S ih) n
theorem c164L (n : Nat) : (∀ {x0}, Le ((c164 n) x0) (impl_trimmed_l0 x0)) := by
 induction n with
 | zero => exact LN
 | succ n ih =>
  have h0 := @ih
  · intro x0; rw [impl_trimmed_l0_eq]; show Le ((c164S (c164 n)) x0) _; exact (LC (LC (LC (LC (LF h0) LR) LR) LR) LR)
noncomputable def k182 := (c164 1000000)
theorem q182 {x0} : Le (k182 x0) (impl_trimmed_l0 x0) := (c164L 1000000)
noncomputable def k183 (a0 : (List Int)) : Option (List Int) :=
 k182 a0
theorem q183 {a0} : Le (k183 a0) (impl_trimmed a0) := by
 rw [impl_trimmed_eq]; unfold k183; exact q182
noncomputable def k184 (a0 : (Ty.den A140)) (a1 : (Ty.den A140)) (a2 : Int) (a3 : Int) : Option (Ty.den A140) := Lb.addTmK A140 a0 a1 a2 a3
theorem q184 {a0 a1 a2 a3} : Le (k184 a0 a1 a2 a3) (impl_addTerms a0 a1 a2 a3) := by rw [impl_addTerms_eq]; exact Lb.addTmK_le _ _ _ _ _
abbrev c167T := (ZS → Int → Int → Int → Int → Option Bool) × (ZS → Int → Int → Int → Int → ZS → Int → Int → Option Bool)
noncomputable def c167S (ih : c167T) : c167T := (fun x0 x2 x7 x13 x14 => cond (decide (x14 < x13))
 (fk (x0.length : Int) fun v85 => ih.2 x0 x2 x7 x13 x14 x0 v85 0)
 (cond (decide (x2 < 0))
 (none)
 (fk (((bits .and .i64 (Int.fdiv x7 (2 ^ (min x2.toNat 64))) 1) : Int) == 1) some)),
 fun x0 x2 x7 x13 x14 x16 x17 x18 => cond (decide (x18 < x17))
 (cond (inside x18 x16.length)
 (cond (decide ((x16.getD x18.toNat (0, 0)).1 < 0))
 (none)
 (cond (((bits .and .i64 (Int.fdiv x7 (2 ^ (min ((x16.getD x18.toNat (0, 0)).1).toNat 64))) 1) : Int) == 1)
 (cond (decide ((x16.getD x18.toNat (0, 0)).1 < 0))
 (none)
 (cond (decide ((x16.getD x18.toNat (0, 0)).2 < 0))
 (none)
 (fk (bits .or .i64 x7 (bits .or .i64 (w64 (1 * 2 ^ (min ((x16.getD x18.toNat (0, 0)).1).toNat 64))) (w64 (1 * 2 ^ (min ((x16.getD x18.toNat (0, 0)).2).toNat 64))))) fun v86 => fk (w64 (x18 + 1)) fun v87 => ih.2 x0 x2 v86 x13 x14 x16 x17 v87)))
 (cond (decide ((x16.getD x18.toNat (0, 0)).2 < 0))
 (none)
 (cond (((bits .and .i64 (Int.fdiv x7 (2 ^ (min ((x16.getD x18.toNat (0, 0)).2).toNat 64))) 1) : Int) == 1)
 (cond (decide ((x16.getD x18.toNat (0, 0)).1 < 0))
 (none)
 (cond (decide ((x16.getD x18.toNat (0, 0)).2 < 0))
 (none)
 (fk (bits .or .i64 x7 (bits .or .i64 (w64 (1 * 2 ^ (min ((x16.getD x18.toNat (0, 0)).1).toNat 64))) (w64 (1 * 2 ^ (min ((x16.getD x18.toNat (0, 0)).2).toNat 64))))) fun v88 => fk (w64 (x18 + 1)) fun v89 => ih.2 x0 x2 v88 x13 x14 x16 x17 v89)))
 (fk (w64 (x18 + 1)) fun v90 => ih.2 x0 x2 x7 x13 x14 x16 x17 v90)))))
 (none))
 (fk (w64 (x14 + 1)) fun v91 => ih.1 x0 x2 x7 x13 v91))
noncomputable def c167 (n : Nat) : c167T := Nat.rec (motive := fun _ => c167T) (fun _ _ _ _ _ => none, fun _ _ _ _ _ _ _ _ => none) (fun _ ih => c167S ih) n
theorem c167L (n : Nat) : (∀ {x0 x2 x7 x13 x14}, Le ((c167 n).1 x0 x2 x7 x13 x14) (impl_joins_l0 x0 x2 x7 x13 x14)) ∧ (∀ {x0 x2 x7 x13 x14 x16 x17 x18}, Le ((c167 n).2 x0 x2 x7 x13 x14 x16 x17 x18) (impl_joins_l2 x0 x2 x7 x13 x14 x16 x17 x18)) := by
 induction n with
 | zero => exact ⟨LN, LN⟩
 | succ n ih =>
  obtain ⟨h0, h1⟩ := ih
  refine ⟨?_, ?_⟩
  · intro x0 x2 x7 x13 x14; rw [impl_joins_l0_eq]; show Le ((c167S (c167 n)).1 x0 x2 x7 x13 x14) _; exact (LC (LF h1) (LC LR (LF LR)))
  · intro x0 x2 x7 x13 x14 x16 x17 x18; rw [impl_joins_l2_eq]; show Le ((c167S (c167 n)).2 x0 x2 x7 x13 x14 x16 x17 x18) _; exact (LC (LC (LC LR (LC (LC LR (LC LR (LF (LF h1)))) (LC LR (LC (LC LR (LC LR (LF (LF h1)))) (LF h1))))) LR) (LF h0))
noncomputable def k185 := (c167 1000000).1
theorem q185 {x0 x2 x7 x13 x14} : Le (k185 x0 x2 x7 x13 x14) (impl_joins_l0 x0 x2 x7 x13 x14) := (c167L 1000000).1
noncomputable def k187 (a0 : ZS) (a1 : Int) (a2 : Int) : Option Bool :=
 cond (decide (a1 < 0))
 (none)
 (fk (w64 (1 * 2 ^ (min a1.toNat 64))) fun v92 => fk (a0.length : Int) fun v93 => k185 a0 a2 v92 v93 0)
theorem q187 {a0 a1 a2} : Le (k187 a0 a1 a2) (impl_joins a0 a1 a2) := by
 rw [impl_joins_eq]; unfold k187; exact (LC LR (LF (LF q185)))
abbrev c169T := (ZS → Option (Ty.den A140)) × ((Ty.den A140) → (Ty.den A140) → (Int × Int) → ZS → ZS → ZS → Int → Int → Option (Ty.den A140))
noncomputable def c169S (ih : c169T) : c169T := (fun a0 => cond (((a0.length : Int) : Int) == 0)
 (some ((1, ((Ty.dflt A140).1).2), (Ty.dflt A140).2))
 (cond (inside 0 a0.length)
 (cond (decide (0 ≤ 1) && decide (1 ≤ (a0.length : Int)) && decide ((a0.length : Int) ≤ (a0.length : Int)))
 (cond ((((a0.getD 0 (0, 0)).1) : Int) == ((a0.getD 0 (0, 0)).2))
 ((fk ((a0.take ((a0.length : Int).toNat)).drop 1) fun v94 => ih.1 v94).bind fun r1 => (k184 (Ty.dflt A140) r1 0 1).bind fun r2 => some r2)
 (fk (a0.getD 0 (0, 0)) fun v95 => fk ((a0.take ((a0.length : Int).toNat)).drop 1) fun v96 => fk ((a0.take ((a0.length : Int).toNat)).drop 1) fun v97 => fk (((a0.take ((a0.length : Int).toNat)).drop 1).length : Int) fun v98 => ih.2 (Ty.dflt A140) (Ty.dflt A140) v95 v96 ([] : List (Int × Int)) v97 v98 0))
 (none))
 (none)),
 fun x2 x3 x4 x5 x6 x29 x30 x31 => cond (decide (x31 < x30))
 (cond (inside x31 x29.length)
 (cond ((((x29.getD x31.toNat (0, 0)).1) : Int) == x4.2)
 (cond ((((x29.getD x31.toNat (0, 0)).2) : Int) == x4.2)
 (cond (decide (x6.length + ([(x4.1, x4.1)] : List (Int × Int)).length ≤ room))
 (fk (x6 ++ ([(x4.1, x4.1)] : List (Int × Int))) fun v99 => fk (w64 (x31 + 1)) fun v0 => ih.2 x2 x3 x4 x5 v99 x29 x30 v0)
 (none))
 (cond (decide (x6.length + ([(x4.1, (x29.getD x31.toNat (0, 0)).2)] : List (Int × Int)).length ≤ room))
 (fk (x6 ++ ([(x4.1, (x29.getD x31.toNat (0, 0)).2)] : List (Int × Int))) fun v1 => fk (w64 (x31 + 1)) fun v2 => ih.2 x2 x3 x4 x5 v1 x29 x30 v2)
 (none)))
 (cond ((((x29.getD x31.toNat (0, 0)).2) : Int) == x4.2)
 (cond (decide (x6.length + ([((x29.getD x31.toNat (0, 0)).1, x4.1)] : List (Int × Int)).length ≤ room))
 (fk (x6 ++ ([((x29.getD x31.toNat (0, 0)).1, x4.1)] : List (Int × Int))) fun v3 => fk (w64 (x31 + 1)) fun v4 => ih.2 x2 x3 x4 x5 v3 x29 x30 v4)
 (none))
 (cond (decide (x6.length + ([x29.getD x31.toNat (0, 0)] : List (Int × Int)).length ≤ room))
 (fk (x6 ++ ([x29.getD x31.toNat (0, 0)] : List (Int × Int))) fun v5 => fk (w64 (x31 + 1)) fun v6 => ih.2 x2 x3 x4 x5 v5 x29 x30 v6)
 (none))))
 (none))
 ((k187 x5 x4.1 x4.2).bind fun r3 => cond (!r3)
 ((ih.1 x6).bind fun r4 => (k184 x3 r4 1 0).bind fun r5 => some r5)
 ((ih.1 x5).bind fun r6 => (k184 x3 r6 0 0).bind fun r7 => (ih.1 x6).bind fun r8 => (k184 r7 r8 0 0).bind fun r9 => some r9)))
noncomputable def c169 (n : Nat) : c169T := Nat.rec (motive := fun _ => c169T) (fun _ => none, fun _ _ _ _ _ _ _ _ => none) (fun _ ih => c169S ih) n
theorem c169L (n : Nat) : (∀ {a0}, Le ((c169 n).1 a0) (impl_tutte a0)) ∧ (∀ {x2 x3 x4 x5 x6 x29 x30 x31}, Le ((c169 n).2 x2 x3 x4 x5 x6 x29 x30 x31) (impl_tutte_l0 x2 x3 x4 x5 x6 x29 x30 x31)) := by
 induction n with
 | zero => exact ⟨LN, LN⟩
 | succ n ih =>
  obtain ⟨h0, h1⟩ := ih
  refine ⟨?_, ?_⟩
  · intro a0; rw [impl_tutte_eq]; show Le ((c169S (c169 n)).1 a0) _; exact (LC LR (LC (LC (LC (LB (LF h0) fun _ => (LB q184 fun _ => LR)) (LF (LF (LF (LF h1))))) LR) LR))
  · intro x2 x3 x4 x5 x6 x29 x30 x31; rw [impl_tutte_l0_eq]; show Le ((c169S (c169 n)).2 x2 x3 x4 x5 x6 x29 x30 x31) _; exact (LC (LC (LC (LC (LC (LF (LF h1)) LR) (LC (LF (LF h1)) LR)) (LC (LC (LF (LF h1)) LR) (LC (LF (LF h1)) LR))) LR) (LB q187 fun _ => (LC (LB h0 fun _ => (LB q184 fun _ => LR)) (LB h0 fun _ => (LB q184 fun _ => (LB h0 fun _ => (LB q184 fun _ => LR)))))))
noncomputable def k188 := (c169 1000000).1
theorem q188 {a0} : Le (k188 a0) (impl_tutte a0) := (c169L 1000000).1
noncomputable def k190 (a0 : ZG) : Option ((List (List Int)) × Bool) := Lb.tutOf A140 k20 k188 k183 k60 a0
theorem q190 {a0} : Le (k190 a0) (impl_TutteOf a0) := by rw [impl_TutteOf_eq]; exact Lb.tutOf_le (fun _ => q20) (fun _ => q188) (fun _ => q183) (fun _ => q60) _
abbrev c171T := ((List Int) → (List Int) → ZS → Int → Int → Option (List Int))
noncomputable def c171S (ih : c171T) : c171T := (fun x1 x5 x9 x10 x11 => cond (decide (x11 < x10))
 (cond (inside x11 x9.length)
 ((fk ((x9.getD x11.toNat (0, 0)).1) fun v7 => k75 x1 v7).bind fun r1 => (fk ((x9.getD x11.toNat (0, 0)).2) fun v8 => k75 x1 v8).bind fun r2 => cond (decide (r1 < r2))
 (cond (decide (x5.length + ([0] : List Int).length ≤ room))
 (fk (x5 ++ ([0] : List Int)) fun v9 => fk (w64 (x11 + 1)) fun v10 => ih x1 v9 x9 x10 v10)
 (none))
 (cond (decide (x5.length + ([1] : List Int).length ≤ room))
 (fk (x5 ++ ([1] : List Int)) fun v11 => fk (w64 (x11 + 1)) fun v12 => ih x1 v11 x9 x10 v12)
 (none)))
 (none))
 (some x5))
noncomputable def c171 (n : Nat) : c171T := Nat.rec (motive := fun _ => c171T) (fun _ _ _ _ _ => none) (fun _ ih => c171S ih) n
theorem c171L (n : Nat) : (∀ {x1 x5 x9 x10 x11}, Le ((c171 n) x1 x5 x9 x10 x11) (impl_burnt_l0 x1 x5 x9 x10 x11)) := by
 induction n with
 | zero => exact LN
 | succ n ih =>
  have h0 := @ih
  · intro x1 x5 x9 x10 x11; rw [impl_burnt_l0_eq]; show Le ((c171S (c171 n)) x1 x5 x9 x10 x11) _; exact (LC (LC (LB (LF q75) fun _ => (LB (LF q75) fun _ => (LC (LC (LF (LF h0)) LR) (LC (LF (LF h0)) LR)))) LR) LR)
noncomputable def k191 := (c171 1000000)
theorem q191 {x1 x5 x9 x10 x11} : Le (k191 x1 x5 x9 x10 x11) (impl_burnt_l0 x1 x5 x9 x10 x11) := (c171L 1000000)
noncomputable def k192 (a0 : ZG) (a1 : (List Int)) : Option (List Int) :=
 fk (a0.2.length : Int) fun v13 => k191 a1 ([] : List Int) a0.2 v13 0
theorem q192 {a0 a1} : Le (k192 a0 a1) (impl_burnt a0 a1) := by
 rw [impl_burnt_eq]; unfold k192; exact (LF q191)
noncomputable def k193 (a0 : ZG) (a1 : (List Int)) : Option ((List Int) × Bool) :=
 (k59 a0 a1).bind fun r1 => cond (!r1)
 (fk (([] : List Int), false) some)
 ((k135 a0 a1).bind fun r2 => cond (r2)
 (fk (([] : List Int), false) some)
 ((k109 a0 a1 0).bind fun r3 => (k105 a0 r3.1 0).bind fun r4 => (k192 a0 r4).bind fun r5 => fk (r5, true) some))
theorem q193 {a0 a1} : Le (k193 a0 a1) (impl_OrientOfRank a0 a1) := by
 rw [impl_OrientOfRank_eq]; unfold k193; exact (LB q59 fun _ => (LC (LF LR) (LB q135 fun _ => (LC (LF LR) (LB q109 fun _ => (LB q105 fun _ => (LB q192 fun _ => (LF LR))))))))
noncomputable def k194 (a0 : ZG) (a1 : (List Int)) : Option Bool :=
 (k59 a0 a1).bind fun r1 => cond (r1)
 ((k135 a0 a1).bind fun r2 => some r2)
 (some false)
theorem q194 {a0 a1} : Le (k194 a0 a1) (impl_IsWinnable a0 a1) := by
 rw [impl_IsWinnable_eq]; unfold k194; exact (LB q59 fun _ => (LC (LB q135 fun _ => LR) LR))
abbrev c175T := ((List Int) → Int → Int → Int → Option (List Int))
noncomputable def c175S (ih : c175T) : c175T := (fun x3 x4 x11 x12 => cond (decide (x12 < x11))
 (cond (inside x12 x3.length)
 (cond (inside x12 x3.length)
 (fk (x3.set x12.toNat (w64 ((x3.getD x12.toNat 0) - x4))) fun v14 => fk (w64 (x12 + 1)) fun v15 => ih v14 x4 x11 v15)
 (none))
 (none))
 (some x3))
noncomputable def c175 (n : Nat) : c175T := Nat.rec (motive := fun _ => c175T) (fun _ _ _ _ => none) (fun _ ih => c175S ih) n
theorem c175L (n : Nat) : (∀ {x3 x4 x11 x12}, Le ((c175 n) x3 x4 x11 x12) (impl_fromZero_l0 x3 x4 x11 x12)) := by
 induction n with
 | zero => exact LN
 | succ n ih =>
  have h0 := @ih
  · intro x3 x4 x11 x12; rw [impl_fromZero_l0_eq]; show Le ((c175S (c175 n)) x3 x4 x11 x12) _; exact (LC (LC (LC (LF (LF h0)) LR) LR) LR)
noncomputable def k195 := (c175 1000000)
theorem q195 {x3 x4 x11 x12} : Le (k195 x3 x4 x11 x12) (impl_fromZero_l0 x3 x4 x11 x12) := (c175L 1000000)
abbrev c176T := ((List Int) → Int → Int → Option Int)
noncomputable def c176S (ih : c176T) : c176T := (fun x0 x3 x4 => cond (decide (x4 < (x0.length : Int)))
 (cond (inside x4 x0.length)
 (fk (imin x3 (x0.getD x4.toNat 0)) fun v16 => fk (w64 (x4 + 1)) fun v17 => ih x0 v16 v17)
 (none))
 (some x3))
noncomputable def c176 (n : Nat) : c176T := Nat.rec (motive := fun _ => c176T) (fun _ _ _ => none) (fun _ ih => c176S ih) n
theorem c176L (n : Nat) : (∀ {x0 x3 x4}, Le ((c176 n) x0 x3 x4) (slices_Min_int_int_l0 x0 x3 x4)) := by
 induction n with
 | zero => exact LN
 | succ n ih =>
  have h0 := @ih
  · intro x0 x3 x4; rw [slices_Min_int_int_l0_eq]; show Le ((c176S (c176 n)) x0 x3 x4) _; exact (LC (LC (LF (LF h0)) LR) LR)
noncomputable def k196 := (c176 1000000)
theorem q196 {x0 x3 x4} : Le (k196 x0 x3 x4) (slices_Min_int_int_l0 x0 x3 x4) := (c176L 1000000)
noncomputable def k197 (a0 : (List Int)) : Option Int :=
 cond (decide ((a0.length : Int) < 1))
 (none)
 (cond (inside 0 a0.length)
 (fk (a0.getD 0 0) fun v18 => k196 a0 v18 1)
 (none))
theorem q197 {a0} : Le (k197 a0) (slices_Min_int_int a0) := by
 rw [slices_Min_int_int_eq]; unfold k197; exact (LC LR (LC (LF q196) LR))
noncomputable def k198 (a0 : (List Int)) : Option (List Int) :=
 (k60 a0).bind fun r1 => (k197 a0).bind fun r2 => fk (r1.length : Int) fun v19 => k195 r1 r2 v19 0
theorem q198 {a0} : Le (k198 a0) (impl_fromZero a0) := by
 rw [impl_fromZero_eq]; unfold k198; exact (LB q60 fun _ => (LB q197 fun _ => (LF q195)))
noncomputable def k199 (a0 : ZG) (a1 : (List Int)) : Option ((List Int) × Bool) :=
 (k194 a0 a1).bind fun r1 => cond (!r1)
 (fk (([] : List Int), false) some)
 ((k109 a0 a1 0).bind fun r2 => (k198 r2.2).bind fun r3 => fk (r3, true) some)
theorem q199 {a0 a1} : Le (k199 a0 a1) (impl_WinningScript a0 a1) := by
 rw [impl_WinningScript_eq]; unfold k199; exact (LB q194 fun _ => (LC (LF LR) (LB q109 fun _ => (LB q198 fun _ => (LF LR)))))
noncomputable def k200 (a0 : ZG) (a1 : (List Int)) : Option ByteArray :=
 (k59 a0 a1).bind fun r1 => cond (!r1)
 (some (⟨#[]⟩ : ByteArray))
 ((k199 a0 a1).bind fun r2 => cond (r2.2)
 ((k36 r2.1).bind fun r3 => cond (decide ((⟨#[119, 111, 110, 32, 98, 121, 32]⟩ : ByteArray).size + r3.size ≤ 9223372036854775807))
 (fk ((⟨#[119, 111, 110, 32, 98, 121, 32]⟩ : ByteArray) ++ r3) some)
 (none))
 ((k193 a0 a1).bind fun r4 => (k36 r4.1).bind fun r5 => cond (decide ((⟨#[108, 111, 115, 116, 58, 32]⟩ : ByteArray).size + r5.size ≤ 9223372036854775807))
 (fk ((⟨#[108, 111, 115, 116, 58, 32]⟩ : ByteArray) ++ r5) some)
 (none)))
theorem q200 {a0 a1} : Le (k200 a0 a1) (impl_WinLine a0 a1) := by
 rw [impl_WinLine_eq]; unfold k200; exact (LB q59 fun _ => (LC LR (LB q199 fun _ => (LC (LB q36 fun _ => (LC (LF LR) LR)) (LB q193 fun _ => (LB q36 fun _ => (LC (LF LR) LR)))))))
abbrev c181T := ((List ByteArray) → (List (List Int)) → Int → Int → Option (List ByteArray))
noncomputable def c181S (ih : c181T) : c181T := (fun x3 x6 x7 x8 => cond (decide (x8 < x7))
 (cond (inside x8 x6.length)
 ((fk (x6.getD x8.toNat ([] : List Int)) fun v20 => k36 v20).bind fun r1 => cond (decide (x3.length + ([r1] : List ByteArray).length ≤ room))
 (fk (x3 ++ ([r1] : List ByteArray)) fun v21 => fk (w64 (x8 + 1)) fun v22 => ih v21 x6 x7 v22)
 (none))
 (none))
 (some x3))
noncomputable def c181 (n : Nat) : c181T := Nat.rec (motive := fun _ => c181T) (fun _ _ _ _ => none) (fun _ ih => c181S ih) n
theorem c181L (n : Nat) : (∀ {x3 x6 x7 x8}, Le ((c181 n) x3 x6 x7 x8) (impl_ListLines_l0 x3 x6 x7 x8)) := by
 induction n with
 | zero => exact LN
 | succ n ih =>
  have h0 := @ih
  · intro x3 x6 x7 x8; rw [impl_ListLines_l0_eq]; show Le ((c181S (c181 n)) x3 x6 x7 x8) _; exact (LC (LC (LB (LF q36) fun _ => (LC (LF (LF h0)) LR)) LR) LR)
noncomputable def k201 := (c181 1000000)
theorem q201 {x3 x6 x7 x8} : Le (k201 x3 x6 x7 x8) (impl_ListLines_l0 x3 x6 x7 x8) := (c181L 1000000)
noncomputable def k202 (a0 : (List (List Int))) : Option (List ByteArray) :=
 fk ([] : List ByteArray) fun v23 => fk (a0.length : Int) fun v24 => k201 v23 a0 v24 0
theorem q202 {a0} : Le (k202 a0) (impl_ListLines a0) := by
 rw [impl_ListLines_eq]; unfold k202; exact (LF (LF q201))
noncomputable def k203 (a0 : ByteArray) : Option ByteArray :=
 cond (a0.toList == (⟨#[]⟩ : ByteArray).toList)
 (fk (⟨#[110, 111, 110, 101]⟩ : ByteArray) some)
 (some a0)
theorem q203 {a0} : Le (k203 a0) (impl_orNone a0) := by
 rw [impl_orNone_eq]; unfold k203; exact (LC (LF LR) LR)
noncomputable def k204 (a0 : (List (List Int))) (a1 : Bool) : Option ByteArray :=
 (k202 a0).bind fun r1 => (fk (⟨#[59]⟩ : ByteArray) fun v25 => k34 r1 v25).bind fun r2 => (k203 r2).bind fun r3 => some r3
theorem q204 {a0 a1} : Le (k204 a0 a1) (impl_listed a0 a1) := by
 rw [impl_listed_eq]; unfold k204; exact (LB q202 fun _ => (LB (LF q34) fun _ => (LB q203 fun _ => LR)))
noncomputable def k205 (x2 : ZC) (x4 : ZC) (x6 : ZC) (x7 : (List ByteArray)) (x10 : (List Int)) : Option (ZC × ByteArray) :=
 cond (inside 0 x7.length)
 (cond ((x7.getD 0 ByteArray.empty).toList == (⟨#[114, 101, 100, 117, 99, 101]⟩ : ByteArray).toList)
 ((k175 x2.1 x2.2.1 x2.2.2).bind fun r19 => (k67 r19.1 r19.2 x2 x6).bind fun r20 => some (r20.1, r20.2.1))
 (cond ((x7.getD 0 ByteArray.empty).toList == (⟨#[115, 101, 116, 116, 108, 101]⟩ : ByteArray).toList)
 ((k168 x2.1 x10 x2.2.2).bind fun r21 => (k67 r21.1 r21.2.2 x2 x6).bind fun r22 => some (r22.1, r22.2.1))
 (cond ((x7.getD 0 ByteArray.empty).toList == (⟨#[119, 105, 110]⟩ : ByteArray).toList)
 ((k200 x2.1 x2.2.1).bind fun r23 => (k203 r23).bind fun r24 => some (x6, r24))
 (cond ((x7.getD 0 ByteArray.empty).toList == (⟨#[114, 97, 110, 107]⟩ : ByteArray).toList)
 ((k172 x2.1 x2.2.1).bind fun r25 => (k203 r25).bind fun r26 => some (x6, r26))
 (cond ((x7.getD 0 ByteArray.empty).toList == (⟨#[114, 105, 101, 109, 97, 110, 110]⟩ : ByteArray).toList)
 ((k180 x2.1 x2.2.1).bind fun r27 => (k203 r27).bind fun r28 => some (x6, r28))
 (cond ((x7.getD 0 ByteArray.empty).toList == (⟨#[112, 105, 108, 101]⟩ : ByteArray).toList)
 ((k169 x2.1 x10 x2.2.2).bind fun r29 => (k203 r29).bind fun r30 => some (x6, r30))
 (cond ((x7.getD 0 ByteArray.empty).toList == (⟨#[97, 108, 108]⟩ : ByteArray).toList)
 ((k111 x2.1 x2.2.1).bind fun r31 => (k204 r31.1 r31.2).bind fun r32 => some (x6, r32))
 (cond ((x7.getD 0 ByteArray.empty).toList == (⟨#[105, 100, 101, 110, 116, 105, 116, 121]⟩ : ByteArray).toList)
 ((k147 x2.1 x2.2.2).bind fun r33 => cond (!r33.2)
 (some (x6, (⟨#[110, 111, 110, 101]⟩ : ByteArray)))
 ((k36 r33.1).bind fun r34 => some (x6, r34)))
 (cond ((x7.getD 0 ByteArray.empty).toList == (⟨#[116, 114, 101, 101, 115]⟩ : ByteArray).toList)
 ((k88 x2.1).bind fun r35 => (k204 r35.1 r35.2).bind fun r36 => some (x6, r36))
 (cond ((x7.getD 0 ByteArray.empty).toList == (⟨#[114, 101, 99, 117, 114, 114, 101, 110, 116]⟩ : ByteArray).toList)
 ((k174 x2.1 x2.2.2).bind fun r37 => (k204 r37.1 r37.2).bind fun r38 => some (x6, r38))
 (cond ((x7.getD 0 ByteArray.empty).toList == (⟨#[112, 97, 114, 107, 105, 110, 103]⟩ : ByteArray).toList)
 ((k156 x2.1 x2.2.2).bind fun r39 => (k204 r39.1 r39.2).bind fun r40 => some (x6, r40))
 (cond ((x7.getD 0 ByteArray.empty).toList == (⟨#[116, 117, 116, 116, 101]⟩ : ByteArray).toList)
 ((k190 x2.1).bind fun r41 => cond (!r41.2)
 (some (x6, (⟨#[110, 111, 110, 101]⟩ : ByteArray)))
 ((k115 r41.1).bind fun r42 => some (x6, r42)))
 (cond ((x7.getD 0 ByteArray.empty).toList == (⟨#[103, 111, 110, 97, 108, 105, 116, 121]⟩ : ByteArray).toList)
 ((k141 x2.1).bind fun r43 => cond (!r43.2)
 (some (x6, (⟨#[110, 111, 110, 101]⟩ : ByteArray)))
 ((k32 r43.1).bind fun r44 => some (x6, r44)))
 (cond ((x7.getD 0 ByteArray.empty).toList == (⟨#[103, 97, 112, 115]⟩ : ByteArray).toList)
 ((k132 x2.1 x2.2.2).bind fun r45 => k181 x4 x6 r45.1)
 (some (x6, (⟨#[117, 110, 107, 110, 111, 119, 110, 32, 99, 111, 109, 109, 97, 110, 100]⟩ : ByteArray)))))))))))))))))
 (none)
theorem q205 {x2 x4 x6 x7 x10} : Le (k205 x2 x4 x6 x7 x10) (impl_RunLine_c48 x2 x4 x6 x7 x10) := by
 rw [impl_RunLine_c48_eq]; unfold k205; exact (LC (LC (LB q175 fun _ => (LB q67 fun _ => LR)) (LC (LB q168 fun _ => (LB q67 fun _ => LR)) (LC (LB q200 fun _ => (LB q203 fun _ => LR)) (LC (LB q172 fun _ => (LB q203 fun _ => LR)) (LC (LB q180 fun _ => (LB q203 fun _ => LR)) (LC (LB q169 fun _ => (LB q203 fun _ => LR)) (LC (LB q111 fun _ => (LB q204 fun _ => LR)) (LC (LB q147 fun _ => (LC LR (LB q36 fun _ => LR))) (LC (LB q88 fun _ => (LB q204 fun _ => LR)) (LC (LB q174 fun _ => (LB q204 fun _ => LR)) (LC (LB q156 fun _ => (LB q204 fun _ => LR)) (LC (LB q190 fun _ => (LC LR (LB q115 fun _ => LR))) (LC (LB q141 fun _ => (LC LR (LB q32 fun _ => LR))) (LC (LB q132 fun _ => q181) LR)))))))))))))) LR)
noncomputable def k206 (a0 : ZG) : Option ZG :=
 cond (decide (([] : List (Int × Int)).length + a0.2.length ≤ room)) (some (a0.1, ([] : List (Int × Int)) ++ a0.2)) (none)
theorem q206 {a0} : Le (k206 a0) (impl_copyGraph a0) := by
 rw [impl_copyGraph_eq]; unfold k206; exact LR
noncomputable def k207 (a0 : ZC) : Option ZC :=
 (k206 a0.1).bind fun r1 => (k60 a0.2.1).bind fun r2 => some (r1, r2, a0.2.2)
theorem q207 {a0} : Le (k207 a0) (impl_copyConsole a0) := by
 rw [impl_copyConsole_eq]; unfold k207; exact (LB q206 fun _ => (LB q60 fun _ => LR))
noncomputable def k208 (a0 : ZC) (a1 : ByteArray) : Option (ZC × ByteArray) :=
 (k207 a0).bind fun r1 => cond (a1.toList == (⟨#[]⟩ : ByteArray).toList)
 (some (r1, (⟨#[]⟩ : ByteArray)))
 (cond (inside 0 a1.size)
 (cond (((bAt a1 0) : Int) == 35)
 (some (r1, (⟨#[]⟩ : ByteArray)))
 ((k56 a1 (⟨#[32]⟩ : ByteArray)).bind fun r2 => cond (decide (0 ≤ 1) && decide (1 ≤ (r2.length : Int)) && decide ((r2.length : Int) ≤ (r2.length : Int)))
 ((k60 a0.2.1).bind fun r3 => (k0 a0.2.2 0 (w64 ((r3.length : Int) - 1))).bind fun r4 => cond (r4)
 (cond (inside a0.2.2 r3.length)
 (cond (decide ((((r2.take ((r2.length : Int).toNat)).drop 1).length : Int) > 0))
 (k90 a0 ((0, ([] : List (Int × Int))), ([] : List Int), 0) r1 r2 ((r2.take ((r2.length : Int).toNat)).drop 1))
 (k205 a0 ((0, ([] : List (Int × Int))), ([] : List Int), 0) r1 r2 (r3.set a0.2.2.toNat 0)))
 (none))
 (cond (decide ((((r2.take ((r2.length : Int).toNat)).drop 1).length : Int) > 0))
 (k90 a0 ((0, ([] : List (Int × Int))), ([] : List Int), 0) r1 r2 ((r2.take ((r2.length : Int).toNat)).drop 1))
 (k205 a0 ((0, ([] : List (Int × Int))), ([] : List Int), 0) r1 r2 r3)))
 (none)))
 (none))
theorem q208 {a0 a1} : Le (k208 a0 a1) (impl_RunLine a0 a1) := by
 rw [impl_RunLine_eq]; unfold k208; exact (LB q207 fun _ => (LC LR (LC (LC LR (LB q56 fun _ => (LC (LB q60 fun _ => (LB q0 fun _ => (LC (LC (LC q90 q205) LR) (LC q90 q205)))) LR))) LR)))
noncomputable def k209 (a0 : ByteArray) : Option (List ByteArray) :=
 (fk (⟨#[10]⟩ : ByteArray) fun v26 => k56 a0 v26).bind fun r1 => cond (inside (w64 ((r1.length : Int) - 1)) r1.length)
 (cond ((r1.getD ((w64 ((r1.length : Int) - 1)).toNat) ByteArray.empty).toList == (⟨#[]⟩ : ByteArray).toList)
 (cond (decide (0 ≤ 0) && decide (0 ≤ w64 ((r1.length : Int) - 1)) && decide (w64 ((r1.length : Int) - 1) ≤ (r1.length : Int)))
 (fk ((r1.take ((w64 ((r1.length : Int) - 1)).toNat)).drop 0) some)
 (none))
 (some r1))
 (none)
theorem q209 {a0} : Le (k209 a0) (impl_SplitLines a0) := by
 rw [impl_SplitLines_eq]; unfold k209; exact (LB (LF q56) fun _ => (LC (LC (LC (LF LR) LR) LR) LR))
noncomputable abbrev impl_RunLine := @k208
theorem impl_RunLine_s {a0} {a1} : Le (impl_RunLine a0 a1) (D.impl_RunLine a0 a1) := q208
noncomputable abbrev impl_WinLine := @k200
theorem impl_WinLine_s {a0} {a1} : Le (impl_WinLine a0 a1) (D.impl_WinLine a0 a1) := q200
noncomputable abbrev impl_RankLine := @k172
theorem impl_RankLine_s {a0} {a1} : Le (impl_RankLine a0 a1) (D.impl_RankLine a0 a1) := q172
noncomputable abbrev impl_RiemannLine := @k180
theorem impl_RiemannLine_s {a0} {a1} : Le (impl_RiemannLine a0 a1) (D.impl_RiemannLine a0 a1) := q180
noncomputable abbrev impl_EffectiveIn := @k111
theorem impl_EffectiveIn_s {a0} {a1} : Le (impl_EffectiveIn a0 a1) (D.impl_EffectiveIn a0 a1) := q111
noncomputable abbrev impl_listed := @k204
theorem impl_listed_s {a0} {a1} : Le (impl_listed a0 a1) (D.impl_listed a0 a1) := q204
noncomputable abbrev impl_orNone := @k203
theorem impl_orNone_s {a0} : Le (impl_orNone a0) (D.impl_orNone a0) := q203
noncomputable abbrev impl_SplitAny := @k56
theorem impl_SplitAny_s {a0} {a1} : Le (impl_SplitAny a0 a1) (D.impl_SplitAny a0 a1) := q56
noncomputable abbrev impl_SplitLines := @k209
theorem impl_SplitLines_s {a0} : Le (impl_SplitLines a0) (D.impl_SplitLines a0) := q209
end K
end Go.Proofs.YthhogfhffpfkdaaGreatDoor.D

/-
  Copies of the told functions, carried out step by step.
-/
import Derived.Test.YthhogfhffpfkdaaGreatDoorEqs
import Derived.Test.YthhogfhffpfkdaaGreatDoorKl
namespace Go.Proofs.YthhogfhffpfkdaaGreatDoor.D
open Go Go.Den
set_option linter.unusedVariables false
set_option maxRecDepth 100000
namespace K
noncomputable def k0 : Option ZC :=
 fk ((1, ([] : List (Int × Int))), ([0] : List Int), 0) some
theorem q0 : Le (k0) (impl_NewConsole) := by
 rw [impl_NewConsole_eq]; unfold k0; exact (LF LR)
noncomputable def k1 (a0 : Int) (a1 : Int) (a2 : Int) : Option Bool :=
 cond (decide (a0 ≥ a1))
 (fk (decide (a0 ≤ a2)) some)
 (some false)
theorem q1 {a0 a1 a2} : Le (k1 a0 a1 a2) (impl_within a0 a1 a2) := by
 rw [impl_within_eq]; unfold k1; exact (LC (LF LR) LR)
abbrev c2T := (Int → Int → (List Int) → Int → Int → Option Bool)
noncomputable def c2S (ih : c2T) : c2T := (fun x1 x2 x9 x10 x11 => cond (decide (x11 < x10))
 (cond (inside x11 x9.length)
 ((fk (x9.getD x11.toNat 0) fun v1 => k1 v1 x1 x2).bind fun r1 => cond (!r1)
 (some false)
 (fk (w64 (x11 + 1)) fun v2 => ih x1 x2 x9 x10 v2))
 (none))
 (some true))
noncomputable def c2 (n : Nat) : c2T := Nat.rec (motive := fun _ => c2T) (fun _ _ _ _ _ => none) (fun _ ih => c2S ih) n
theorem c2L (n : Nat) : (∀ {x1 x2 x9 x10 x11}, Le ((c2 n) x1 x2 x9 x10 x11) (impl_allWithin_l0 x1 x2 x9 x10 x11)) := by
 induction n with
 | zero => exact LN
 | succ n ih =>
  have h0 := @ih
  · intro x1 x2 x9 x10 x11; rw [impl_allWithin_l0_eq]; show Le ((c2S (c2 n)) x1 x2 x9 x10 x11) _; exact (LC (LC (LB (LF q1) fun _ => (LC LR (LF h0))) LR) LR)
noncomputable def k2 := (c2 1000000)
theorem q2 {x1 x2 x9 x10 x11} : Le (k2 x1 x2 x9 x10 x11) (impl_allWithin_l0 x1 x2 x9 x10 x11) := (c2L 1000000)
noncomputable def k3 (a0 : (List Int)) (a1 : Int) (a2 : Int) : Option Bool :=
 fk (a0.length : Int) fun v3 => k2 a1 a2 a0 v3 0
theorem q3 {a0 a1 a2} : Le (k3 a0 a1 a2) (impl_allWithin a0 a1 a2) := by
 rw [impl_allWithin_eq]; unfold k3; exact (LF q2)
abbrev c4T := ((List (List Int)) → (List (List Int)) → Int → Int → Option Bool)
noncomputable def c4S (ih : c4T) : c4T := (fun x0 x8 x9 x10 => cond (decide (x10 < x9))
 (cond (inside x10 x8.length)
 (cond ((((x8.getD x10.toNat ([] : List Int)).length : Int) : Int) != (x0.length : Int))
 (some false)
 ((fk (x8.getD x10.toNat ([] : List Int)) fun v4 => k3 v4 (-500) 500).bind fun r1 => cond (!r1)
 (some false)
 (fk (w64 (x10 + 1)) fun v5 => ih x0 x8 x9 v5)))
 (none))
 (some true))
noncomputable def c4 (n : Nat) : c4T := Nat.rec (motive := fun _ => c4T) (fun _ _ _ _ => none) (fun _ ih => c4S ih) n
theorem c4L (n : Nat) : (∀ {x0 x8 x9 x10}, Le ((c4 n) x0 x8 x9 x10) (impl_MatrixOk_l0 x0 x8 x9 x10)) := by
 induction n with
 | zero => exact LN
 | succ n ih =>
  have h0 := @ih
  · intro x0 x8 x9 x10; rw [impl_MatrixOk_l0_eq]; show Le ((c4S (c4 n)) x0 x8 x9 x10) _; exact (LC (LC (LC LR (LB (LF q3) fun _ => (LC LR (LF h0)))) LR) LR)
noncomputable def k4 := (c4 1000000)
theorem q4 {x0 x8 x9 x10} : Le (k4 x0 x8 x9 x10) (impl_MatrixOk_l0 x0 x8 x9 x10) := (c4L 1000000)
noncomputable def k5 (a0 : (List (List Int))) : Option Bool :=
 cond (decide ((a0.length : Int) > 6))
 (some false)
 (fk (a0.length : Int) fun v6 => k4 a0 a0 v6 0)
theorem q5 {a0} : Le (k5 a0) (impl_MatrixOk a0) := by
 rw [impl_MatrixOk_eq]; unfold k5; exact (LC LR (LF q4))
abbrev c6T := (Int → (List Int) → Int → Option (List Int))
noncomputable def c6S (ih : c6T) : c6T := (fun x0 x3 x4 => cond (decide (x4 < 0))
 (none)
 (cond (decide (Int.fdiv x0 (2 ^ (min x4.toNat 64)) > 0))
 (cond (decide (x4 < 0))
 (none)
 (cond (((bits .and .i64 (Int.fdiv x0 (2 ^ (min x4.toNat 64))) 1) : Int) == 1)
 (cond (decide (x3.length + ([x4] : List Int).length ≤ room))
 (fk (x3 ++ ([x4] : List Int)) fun v7 => fk (w64 (x4 + 1)) fun v8 => ih x0 v7 v8)
 (none))
 (fk (w64 (x4 + 1)) fun v9 => ih x0 x3 v9)))
 (some x3)))
noncomputable def c6 (n : Nat) : c6T := Nat.rec (motive := fun _ => c6T) (fun _ _ _ => none) (fun _ ih => c6S ih) n
theorem c6L (n : Nat) : (∀ {x0 x3 x4}, Le ((c6 n) x0 x3 x4) (impl_bitsOf_l0 x0 x3 x4)) := by
 induction n with
 | zero => exact LN
 | succ n ih =>
  have h0 := @ih
  · intro x0 x3 x4; rw [impl_bitsOf_l0_eq]; show Le ((c6S (c6 n)) x0 x3 x4) _; exact (LC LR (LC (LC LR (LC (LC (LF (LF h0)) LR) (LF h0))) LR))
noncomputable def k6 := (c6 1000000)
theorem q6 {x0 x3 x4} : Le (k6 x0 x3 x4) (impl_bitsOf_l0 x0 x3 x4) := (c6L 1000000)
noncomputable def k7 (a0 : Int) : Option (List Int) :=
 k6 a0 ([] : List Int) 0
theorem q7 {a0} : Le (k7 a0) (impl_bitsOf a0) := by
 rw [impl_bitsOf_eq]; unfold k7; exact q6
abbrev c8T := ((List (List Int)) → (List Int) → Int → Option Int) × ((List (List Int)) → (List Int) → Int → Int → Int → (List Int) → Int → Int → Option Int)
noncomputable def c8S (ih : c8T) : c8T := (fun a0 a1 a2 => cond (((a1.length : Int) : Int) == 0)
 (some 1)
 (cond (inside 0 a1.length)
 (cond (inside (a1.getD 0 0) a0.length)
 (fk (a0.getD ((a1.getD 0 0).toNat) ([] : List Int)) fun v10 => fk ((a0.getD ((a1.getD 0 0).toNat) ([] : List Int)).length : Int) fun v11 => ih.2 a0 a1 a2 0 1 v10 v11 0)
 (none))
 (none)),
 fun x0 x1 x2 x7 x8 x19 x20 x21 => cond (decide (x21 < x20))
 (cond (inside x21 x19.length)
 (cond (decide (x21 < 0))
 (none)
 (cond (((bits .and .i64 (Int.fdiv x2 (2 ^ (min x21.toNat 64))) 1) : Int) == 0)
 (fk (w64 (x21 + 1)) fun v12 => ih.2 x0 x1 x2 x7 x8 x19 x20 v12)
 (cond (((x19.getD x21.toNat 0) : Int) != 0)
 (cond (decide (0 ≤ 1) && decide (1 ≤ (x1.length : Int)) && decide ((x1.length : Int) ≤ (x1.length : Int)))
 (cond (decide (x21 < 0))
 (none)
 ((fk ((x1.take ((x1.length : Int).toNat)).drop 1) fun v13 => fk (bits .andNot .i64 x2 (w64 (1 * 2 ^ (min x21.toNat 64)))) fun v14 => ih.1 x0 v13 v14).bind fun r1 => fk (w64 (x7 + (w64 ((w64 (x8 * (x19.getD x21.toNat 0))) * r1)))) fun v15 => fk (w64 (0 - x8)) fun v16 => fk (w64 (x21 + 1)) fun v17 => ih.2 x0 x1 x2 v15 v16 x19 x20 v17))
 (none))
 (fk (w64 (0 - x8)) fun v18 => fk (w64 (x21 + 1)) fun v19 => ih.2 x0 x1 x2 x7 v18 x19 x20 v19))))
 (none))
 (some x7))
noncomputable def c8 (n : Nat) : c8T := Nat.rec (motive := fun _ => c8T) (fun _ _ _ => none, fun _ _ _ _ _ _ _ _ => none) (fun _ ih => c8S ih) n
theorem c8L (n : Nat) : (∀ {a0 a1 a2}, Le ((c8 n).1 a0 a1 a2) (impl_determinant a0 a1 a2)) ∧ (∀ {x0 x1 x2 x7 x8 x19 x20 x21}, Le ((c8 n).2 x0 x1 x2 x7 x8 x19 x20 x21) (impl_determinant_l0 x0 x1 x2 x7 x8 x19 x20 x21)) := by
 induction n with
 | zero => exact ⟨LN, LN⟩
 | succ n ih =>
  obtain ⟨h0, h1⟩ := ih
  refine ⟨?_, ?_⟩
  · intro a0 a1 a2; rw [impl_determinant_eq]; show Le ((c8S (c8 n)).1 a0 a1 a2) _; exact (LC LR (LC (LC (LF (LF h1)) LR) LR))
  · intro x0 x1 x2 x7 x8 x19 x20 x21; rw [impl_determinant_l0_eq]; show Le ((c8S (c8 n)).2 x0 x1 x2 x7 x8 x19 x20 x21) _; exact (LC (LC (LC LR (LC (LF h1) (LC (LC (LC LR (LB (LF (LF h0)) fun _ => (LF (LF (LF h1))))) LR) (LF (LF h1))))) LR) LR)
noncomputable def k8 := (c8 1000000).1
theorem q8 {a0 a1 a2} : Le (k8 a0 a1 a2) (impl_determinant a0 a1 a2) := (c8L 1000000).1
noncomputable def k10 (a0 : (List (List Int))) : Option Int :=
 (k5 a0).bind fun r1 => cond (!r1)
 (some 0)
 (cond (decide ((a0.length : Int) < 0))
 (none)
 ((fk (w64 ((w64 (1 * 2 ^ (min (a0.length : Int).toNat 64))) - 1)) fun v20 => k7 v20).bind fun r2 => cond (decide ((a0.length : Int) < 0))
 (none)
 ((fk (w64 ((w64 (1 * 2 ^ (min (a0.length : Int).toNat 64))) - 1)) fun v21 => k8 a0 r2 v21).bind fun r3 => some r3)))
theorem q10 {a0} : Le (k10 a0) (impl_Determinant a0) := by
 rw [impl_Determinant_eq]; unfold k10; exact (LB q5 fun _ => (LC LR (LC LR (LB (LF q7) fun _ => (LC LR (LB (LF q8) fun _ => LR))))))
noncomputable def k11 (a0 : Int) : Option Bool :=
 fk ((a0 : Int) != a0) some
theorem q11 {a0} : Le (k11 a0) (cmp_isNaN_int a0) := by
 rw [cmp_isNaN_int_eq]; unfold k11; exact (LF LR)
noncomputable def k12 (a0 : Int) (a1 : Int) : Option Int :=
 (k11 a0).bind fun r1 => (k11 a1).bind fun r2 => cond (r1) (cond (r2) (some 0) (some (-1))) (cond (r2) (some 1) (cond (decide (a0 < a1)) (some (-1)) (cond (decide (a0 > a1)) (some 1) (some 0))))
theorem q12 {a0 a1} : Le (k12 a0 a1) (cmp_Compare_int a0 a1) := by
 rw [cmp_Compare_int_eq]; unfold k12; exact (LB q11 fun _ => (LB q11 fun _ => LR))
noncomputable def k13 (a0 : (Int × Int)) (a1 : (Int × Int)) : Option Int :=
 (k12 a0.1 a1.1).bind fun r1 => cond ((r1 : Int) != 0)
 (some r1)
 ((k12 a0.2 a1.2).bind fun r2 => some r2)
theorem q13 {a0 a1} : Le (k13 a0 a1) (impl_compareEdges a0 a1) := by
 rw [impl_compareEdges_eq]; unfold k13; exact (LB q12 fun _ => (LC LR (LB q12 fun _ => LR)))
abbrev c13T := (ZS → Int → Option Bool)
noncomputable def c13S (ih : c13T) : c13T := (fun x0 x5 => cond (decide (x5 > 0))
 (cond (inside x5 x0.length)
 (cond (inside (w64 (x5 - 1)) x0.length)
 ((fk (x0.getD x5.toNat (0, 0)) fun v22 => fk (x0.getD ((w64 (x5 - 1)).toNat) (0, 0)) fun v23 => k13 v22 v23).bind fun r1 => cond (decide (r1 < 0))
 (some false)
 (fk (w64 (x5 - 1)) fun v24 => ih x0 v24))
 (none))
 (none))
 (some true))
noncomputable def c13 (n : Nat) : c13T := Nat.rec (motive := fun _ => c13T) (fun _ _ => none) (fun _ ih => c13S ih) n
theorem c13L (n : Nat) : (∀ {x0 x5}, Le ((c13 n) x0 x5) (impl_Edge__compareEdges_l0 x0 x5)) := by
 induction n with
 | zero => exact LN
 | succ n ih =>
  have h0 := @ih
  · intro x0 x5; rw [impl_Edge__compareEdges_l0_eq]; show Le ((c13S (c13 n)) x0 x5) _; exact (LC (LC (LC (LB (LF (LF q13)) fun _ => (LC LR (LF h0))) LR) LR) LR)
noncomputable def k14 := (c13 1000000)
theorem q14 {x0 x5} : Le (k14 x0 x5) (impl_Edge__compareEdges_l0 x0 x5) := (c13L 1000000)
noncomputable def k15 (a0 : ZS) : Option Bool :=
 fk (w64 ((a0.length : Int) - 1)) fun v25 => k14 a0 v25
theorem q15 {a0} : Le (k15 a0) (impl_Edge__compareEdges a0) := by
 rw [impl_Edge__compareEdges_eq]; unfold k15; exact (LF q14)
abbrev c15T := (ZG → ZS → Int → Int → Option Bool)
noncomputable def c15S (ih : c15T) : c15T := (fun x1 x16 x17 x18 => cond (decide (x18 < x17))
 (cond (inside x18 x16.length)
 (cond (decide ((x16.getD x18.toNat (0, 0)).1 < 0))
 (some false)
 (cond (decide ((x16.getD x18.toNat (0, 0)).1 ≥ (x16.getD x18.toNat (0, 0)).2))
 (some false)
 (cond (decide ((x16.getD x18.toNat (0, 0)).2 ≥ x1.1))
 (some false)
 (fk (w64 (x18 + 1)) fun v26 => ih x1 x16 x17 v26))))
 (none))
 (some true))
noncomputable def c15 (n : Nat) : c15T := Nat.rec (motive := fun _ => c15T) (fun _ _ _ _ => none) (fun _ ih => c15S ih) n
theorem c15L (n : Nat) : (∀ {x1 x16 x17 x18}, Le ((c15 n) x1 x16 x17 x18) (impl_EdgesOk_l0 x1 x16 x17 x18)) := by
 induction n with
 | zero => exact LN
 | succ n ih =>
  have h0 := @ih
  · intro x1 x16 x17 x18; rw [impl_EdgesOk_l0_eq]; show Le ((c15S (c15 n)) x1 x16 x17 x18) _; exact (LC (LC (LC LR (LC LR (LC LR (LF h0)))) LR) LR)
noncomputable def k16 := (c15 1000000)
theorem q16 {x1 x16 x17 x18} : Le (k16 x1 x16 x17 x18) (impl_EdgesOk_l0 x1 x16 x17 x18) := (c15L 1000000)
noncomputable def k17 (a0 : ZG) : Option Bool :=
 (k1 a0.1 1 6).bind fun r1 => cond (!r1)
 (some false)
 (cond (decide ((a0.2.length : Int) > 12))
 (some false)
 (fk (a0.2.length : Int) fun v27 => k16 a0 a0.2 v27 0))
theorem q17 {a0} : Le (k17 a0) (impl_EdgesOk a0) := by
 rw [impl_EdgesOk_eq]; unfold k17; exact (LB q1 fun _ => (LC LR (LC LR (LF q16))))
abbrev c17T := (Int → ZS → Int → Int → Int → Option Bool) × (Int → ZS → Int → Int → Int → ZS → Int → Int → Option Bool)
noncomputable def c17S (ih : c17T) : c17T := (fun x0 x1 x5 x8 x9 => cond (decide (x9 < x8))
 (fk (x1.length : Int) fun v28 => ih.2 x0 x1 x5 x8 x9 x1 v28 0)
 (cond (decide (x0 < 0))
 (none)
 (fk ((x5 : Int) == (w64 ((w64 (1 * 2 ^ (min x0.toNat 64))) - 1))) some)),
 fun x0 x1 x5 x8 x9 x11 x12 x13 => cond (decide (x13 < x12))
 (cond (inside x13 x11.length)
 (cond (decide ((x11.getD x13.toNat (0, 0)).1 < 0))
 (none)
 (cond (((bits .and .i64 (Int.fdiv x5 (2 ^ (min ((x11.getD x13.toNat (0, 0)).1).toNat 64))) 1) : Int) == 1)
 (cond (decide ((x11.getD x13.toNat (0, 0)).1 < 0))
 (none)
 (cond (decide ((x11.getD x13.toNat (0, 0)).2 < 0))
 (none)
 (fk (bits .or .i64 x5 (bits .or .i64 (w64 (1 * 2 ^ (min ((x11.getD x13.toNat (0, 0)).1).toNat 64))) (w64 (1 * 2 ^ (min ((x11.getD x13.toNat (0, 0)).2).toNat 64))))) fun v29 => fk (w64 (x13 + 1)) fun v30 => ih.2 x0 x1 v29 x8 x9 x11 x12 v30)))
 (cond (decide ((x11.getD x13.toNat (0, 0)).2 < 0))
 (none)
 (cond (((bits .and .i64 (Int.fdiv x5 (2 ^ (min ((x11.getD x13.toNat (0, 0)).2).toNat 64))) 1) : Int) == 1)
 (cond (decide ((x11.getD x13.toNat (0, 0)).1 < 0))
 (none)
 (cond (decide ((x11.getD x13.toNat (0, 0)).2 < 0))
 (none)
 (fk (bits .or .i64 x5 (bits .or .i64 (w64 (1 * 2 ^ (min ((x11.getD x13.toNat (0, 0)).1).toNat 64))) (w64 (1 * 2 ^ (min ((x11.getD x13.toNat (0, 0)).2).toNat 64))))) fun v31 => fk (w64 (x13 + 1)) fun v32 => ih.2 x0 x1 v31 x8 x9 x11 x12 v32)))
 (fk (w64 (x13 + 1)) fun v33 => ih.2 x0 x1 x5 x8 x9 x11 x12 v33)))))
 (none))
 (fk (w64 (x9 + 1)) fun v34 => ih.1 x0 x1 x5 x8 v34))
noncomputable def c17 (n : Nat) : c17T := Nat.rec (motive := fun _ => c17T) (fun _ _ _ _ _ => none, fun _ _ _ _ _ _ _ _ => none) (fun _ ih => c17S ih) n
theorem c17L (n : Nat) : (∀ {x0 x1 x5 x8 x9}, Le ((c17 n).1 x0 x1 x5 x8 x9) (impl_connected_l0 x0 x1 x5 x8 x9)) ∧ (∀ {x0 x1 x5 x8 x9 x11 x12 x13}, Le ((c17 n).2 x0 x1 x5 x8 x9 x11 x12 x13) (impl_connected_l2 x0 x1 x5 x8 x9 x11 x12 x13)) := by
 induction n with
 | zero => exact ⟨LN, LN⟩
 | succ n ih =>
  obtain ⟨h0, h1⟩ := ih
  refine ⟨?_, ?_⟩
  · intro x0 x1 x5 x8 x9; rw [impl_connected_l0_eq]; show Le ((c17S (c17 n)).1 x0 x1 x5 x8 x9) _; exact (LC (LF h1) (LC LR (LF LR)))
  · intro x0 x1 x5 x8 x9 x11 x12 x13; rw [impl_connected_l2_eq]; show Le ((c17S (c17 n)).2 x0 x1 x5 x8 x9 x11 x12 x13) _; exact (LC (LC (LC LR (LC (LC LR (LC LR (LF (LF h1)))) (LC LR (LC (LC LR (LC LR (LF (LF h1)))) (LF h1))))) LR) (LF h0))
noncomputable def k18 := (c17 1000000).1
theorem q18 {x0 x1 x5 x8 x9} : Le (k18 x0 x1 x5 x8 x9) (impl_connected_l0 x0 x1 x5 x8 x9) := (c17L 1000000).1
noncomputable def k20 (a0 : Int) (a1 : ZS) : Option Bool :=
 k18 a0 a1 1 a0 0
theorem q20 {a0 a1} : Le (k20 a0 a1) (impl_connected a0 a1) := by
 rw [impl_connected_eq]; unfold k20; exact q18
noncomputable def k21 (a0 : ZG) : Option Bool :=
 (k17 a0).bind fun r1 => cond (r1)
 ((k15 a0.2).bind fun r2 => cond (r2)
 ((k20 a0.1 a0.2).bind fun r3 => some r3)
 (some false))
 (some false)
theorem q21 {a0} : Le (k21 a0) (impl_GraphOk a0) := by
 rw [impl_GraphOk_eq]; unfold k21; exact (LB q17 fun _ => (LC (LB q15 fun _ => (LC (LB q20 fun _ => LR) LR)) LR))
abbrev c20T := (Int → Int → Int → ZS → Int → Int → Option Int)
noncomputable def c20S (ih : c20T) : c20T := (fun x1 x2 x7 x28 x29 x30 => cond (decide (x30 < x29))
 (cond (inside x30 x28.length)
 (cond ((((x28.getD x30.toNat (0, 0)).1) : Int) == (imin x1 x2))
 (cond ((((x28.getD x30.toNat (0, 0)).2) : Int) == (imax x1 x2))
 (fk (w64 (x7 + 1)) fun v35 => fk (w64 (x30 + 1)) fun v36 => ih x1 x2 v35 x28 x29 v36)
 (fk (w64 (x30 + 1)) fun v37 => ih x1 x2 x7 x28 x29 v37))
 (fk (w64 (x30 + 1)) fun v38 => ih x1 x2 x7 x28 x29 v38))
 (none))
 (some x7))
noncomputable def c20 (n : Nat) : c20T := Nat.rec (motive := fun _ => c20T) (fun _ _ _ _ _ _ => none) (fun _ ih => c20S ih) n
theorem c20L (n : Nat) : (∀ {x1 x2 x7 x28 x29 x30}, Le ((c20 n) x1 x2 x7 x28 x29 x30) (impl_Multiplicity_l0 x1 x2 x7 x28 x29 x30)) := by
 induction n with
 | zero => exact LN
 | succ n ih =>
  have h0 := @ih
  · intro x1 x2 x7 x28 x29 x30; rw [impl_Multiplicity_l0_eq]; show Le ((c20S (c20 n)) x1 x2 x7 x28 x29 x30) _; exact (LC (LC (LC (LC (LF (LF h0)) (LF h0)) (LF h0)) LR) LR)
noncomputable def k22 := (c20 1000000)
theorem q22 {x1 x2 x7 x28 x29 x30} : Le (k22 x1 x2 x7 x28 x29 x30) (impl_Multiplicity_l0 x1 x2 x7 x28 x29 x30) := (c20L 1000000)
noncomputable def k23 (a0 : ZG) (a1 : Int) (a2 : Int) : Option Int :=
 cond (decide (imin a1 a2 < 0))
 (some 0)
 (cond (decide (imax a1 a2 ≥ a0.1))
 (some 0)
 (cond ((a1 : Int) == a2)
 (some 0)
 (fk (a0.2.length : Int) fun v39 => k22 a1 a2 0 a0.2 v39 0)))
theorem q23 {a0 a1 a2} : Le (k23 a0 a1 a2) (impl_Multiplicity a0 a1 a2) := by
 rw [impl_Multiplicity_eq]; unfold k23; exact (LC LR (LC LR (LC LR (LF q22))))
abbrev c22T := (Int → Int → ZS → Int → Int → Option Int)
noncomputable def c22S (ih : c22T) : c22T := (fun x1 x5 x17 x18 x19 => cond (decide (x19 < x18))
 (cond (inside x19 x17.length)
 (cond ((((x17.getD x19.toNat (0, 0)).1) : Int) == x1)
 (fk (w64 (x5 + 1)) fun v40 => fk (w64 (x19 + 1)) fun v41 => ih x1 v40 x17 x18 v41)
 (cond ((((x17.getD x19.toNat (0, 0)).2) : Int) == x1)
 (fk (w64 (x5 + 1)) fun v42 => fk (w64 (x19 + 1)) fun v43 => ih x1 v42 x17 x18 v43)
 (fk (w64 (x19 + 1)) fun v44 => ih x1 x5 x17 x18 v44)))
 (none))
 (some x5))
noncomputable def c22 (n : Nat) : c22T := Nat.rec (motive := fun _ => c22T) (fun _ _ _ _ _ => none) (fun _ ih => c22S ih) n
theorem c22L (n : Nat) : (∀ {x1 x5 x17 x18 x19}, Le ((c22 n) x1 x5 x17 x18 x19) (impl_Valence_l0 x1 x5 x17 x18 x19)) := by
 induction n with
 | zero => exact LN
 | succ n ih =>
  have h0 := @ih
  · intro x1 x5 x17 x18 x19; rw [impl_Valence_l0_eq]; show Le ((c22S (c22 n)) x1 x5 x17 x18 x19) _; exact (LC (LC (LC (LF (LF h0)) (LC (LF (LF h0)) (LF h0))) LR) LR)
noncomputable def k24 := (c22 1000000)
theorem q24 {x1 x5 x17 x18 x19} : Le (k24 x1 x5 x17 x18 x19) (impl_Valence_l0 x1 x5 x17 x18 x19) := (c22L 1000000)
noncomputable def k25 (a0 : ZG) (a1 : Int) : Option Int :=
 cond (decide (a1 < 0))
 (some 0)
 (cond (decide (a1 ≥ a0.1))
 (some 0)
 (fk (a0.2.length : Int) fun v45 => k24 a1 0 a0.2 v45 0))
theorem q25 {a0 a1} : Le (k25 a0 a1) (impl_Valence a0 a1) := by
 rw [impl_Valence_eq]; unfold k25; exact (LC LR (LC LR (LF q24)))
abbrev c24T := (ZG → (List (List Int)) → Int → Option (List (List Int))) × (ZG → (List (List Int)) → Int → (List Int) → Int → Int → Option (List (List Int)))
noncomputable def c24S (ih : c24T) : c24T := (fun x1 x3 x4 => cond (decide (x4 < x1.1))
 (cond (decide (0 ≤ x1.1) && decide (x1.1 ≤ (room : Int)))
 (fk (List.replicate x1.1.toNat (0 : Int)) fun v46 => fk ((List.replicate x1.1.toNat (0 : Int)).length : Int) fun v47 => ih.2 x1 x3 x4 v46 v47 0)
 (none))
 (some x3),
 fun x1 x3 x4 x5 x20 x21 => cond (decide (x21 < x20))
 ((k23 x1 x4 x21).bind fun r2 => cond (inside x21 x5.length)
 (fk (x5.set x21.toNat (w64 (0 - r2))) fun v48 => fk (w64 (x21 + 1)) fun v49 => ih.2 x1 x3 x4 v48 x20 v49)
 (none))
 ((k25 x1 x4).bind fun r3 => cond (inside x4 x5.length)
 (cond (decide (x3.length + ([x5.set x4.toNat r3] : List (List Int)).length ≤ room))
 (fk (x3 ++ ([x5.set x4.toNat r3] : List (List Int))) fun v50 => fk (w64 (x4 + 1)) fun v51 => ih.1 x1 v50 v51)
 (none))
 (none)))
noncomputable def c24 (n : Nat) : c24T := Nat.rec (motive := fun _ => c24T) (fun _ _ _ => none, fun _ _ _ _ _ _ => none) (fun _ ih => c24S ih) n
theorem c24L (n : Nat) : (∀ {x1 x3 x4}, Le ((c24 n).1 x1 x3 x4) (impl_LaplacianOf_l0 x1 x3 x4)) ∧ (∀ {x1 x3 x4 x5 x20 x21}, Le ((c24 n).2 x1 x3 x4 x5 x20 x21) (impl_LaplacianOf_l2 x1 x3 x4 x5 x20 x21)) := by
 induction n with
 | zero => exact ⟨LN, LN⟩
 | succ n ih =>
  obtain ⟨h0, h1⟩ := ih
  refine ⟨?_, ?_⟩
  · intro x1 x3 x4; rw [impl_LaplacianOf_l0_eq]; show Le ((c24S (c24 n)).1 x1 x3 x4) _; exact (LC (LC (LF (LF h1)) LR) LR)
  · intro x1 x3 x4 x5 x20 x21; rw [impl_LaplacianOf_l2_eq]; show Le ((c24S (c24 n)).2 x1 x3 x4 x5 x20 x21) _; exact (LC (LB q23 fun _ => (LC (LF (LF h1)) LR)) (LB q25 fun _ => (LC (LC (LF (LF h0)) LR) LR)))
noncomputable def k26 := (c24 1000000).1
theorem q26 {x1 x3 x4} : Le (k26 x1 x3 x4) (impl_LaplacianOf_l0 x1 x3 x4) := (c24L 1000000).1
noncomputable def k28 (a0 : ZG) : Option (List (List Int)) :=
 (k21 a0).bind fun r1 => cond (!r1)
 (fk ([] : List (List Int)) some)
 (fk ([] : List (List Int)) fun v52 => k26 a0 v52 0)
theorem q28 {a0} : Le (k28 a0) (impl_LaplacianOf a0) := by
 rw [impl_LaplacianOf_eq]; unfold k28; exact (LB q21 fun _ => (LC (LF LR) (LF q26)))
noncomputable def k29 (a0 : ZG) (a1 : Int) : Option Bool :=
 (k21 a0).bind fun r1 => cond (r1)
 ((fk (w64 (a0.1 - 1)) fun v53 => k1 a1 0 v53).bind fun r2 => some r2)
 (some false)
theorem q29 {a0 a1} : Le (k29 a0 a1) (impl_isVertex a0 a1) := by
 rw [impl_isVertex_eq]; unfold k29; exact (LB q21 fun _ => (LC (LB (LF q1) fun _ => LR) LR))
noncomputable def k30 (a0 : ZG) (a1 : Int) : Option (List (List Int)) := Lb.redLap k29 k28 a0 a1
theorem q30 {a0 a1} : Le (k30 a0 a1) (impl_ReducedLaplacian a0 a1) := by rw [impl_ReducedLaplacian_eq]; exact Lb.redLap_le (fun _ _ => q29) (fun _ => q28) _ _
noncomputable def k31 (a0 : ZG) : Option Int :=
 (k21 a0).bind fun r1 => cond (!r1)
 (some 0)
 ((k30 a0 0).bind fun r2 => (k10 r2).bind fun r3 => some r3)
theorem q31 {a0} : Le (k31 a0) (impl_CountTrees a0) := by
 rw [impl_CountTrees_eq]; unfold k31; exact (LB q21 fun _ => (LC LR (LB q30 fun _ => (LB q10 fun _ => LR))))
noncomputable def k32 (a0 : Int) : Option ByteArray := Lb.itoa a0
theorem q32 {a0} : Le (k32 a0) (strconv_Itoa a0) := by rw [strconv_Itoa_eq]; exact LR
noncomputable def k33 (a0 : Int) : Option ByteArray :=
 (k32 a0).bind fun r1 => some r1
theorem q33 {a0} : Le (k33 a0) (impl_FormatInt a0) := by
 rw [impl_FormatInt_eq]; unfold k33; exact (LB q32 fun _ => LR)
noncomputable def k34 (a0 : (List ByteArray)) (a1 : ByteArray) : Option ByteArray := Lb.join a0 a1
theorem q34 {a0 a1} : Le (k34 a0 a1) (strings_Join a0 a1) := by rw [strings_Join_eq]; exact LR
noncomputable def k35 (a0 : (List ByteArray)) (a1 : ByteArray) : Option ByteArray :=
 (k34 a0 a1).bind fun r1 => some r1
theorem q35 {a0 a1} : Le (k35 a0 a1) (impl_Join a0 a1) := by
 rw [impl_Join_eq]; unfold k35; exact (LB q34 fun _ => LR)
abbrev c33T := ((List ByteArray) → (List Int) → Int → Int → Option ByteArray)
noncomputable def c33S (ih : c33T) : c33T := (fun x3 x9 x10 x11 => cond (decide (x11 < x10))
 (cond (inside x11 x9.length)
 ((fk (x9.getD x11.toNat 0) fun v54 => k33 v54).bind fun r1 => cond (decide (x3.length + ([r1] : List ByteArray).length ≤ room))
 (fk (x3 ++ ([r1] : List ByteArray)) fun v55 => fk (w64 (x11 + 1)) fun v56 => ih v55 x9 x10 v56)
 (none))
 (none))
 ((fk (⟨#[32]⟩ : ByteArray) fun v57 => k35 x3 v57).bind fun r2 => some r2))
noncomputable def c33 (n : Nat) : c33T := Nat.rec (motive := fun _ => c33T) (fun _ _ _ _ => none) (fun _ ih => c33S ih) n
theorem c33L (n : Nat) : (∀ {x3 x9 x10 x11}, Le ((c33 n) x3 x9 x10 x11) (impl_FormatDivisor_l0 x3 x9 x10 x11)) := by
 induction n with
 | zero => exact LN
 | succ n ih =>
  have h0 := @ih
  · intro x3 x9 x10 x11; rw [impl_FormatDivisor_l0_eq]; show Le ((c33S (c33 n)) x3 x9 x10 x11) _; exact (LC (LC (LB (LF q33) fun _ => (LC (LF (LF h0)) LR)) LR) (LB (LF q35) fun _ => LR))
noncomputable def k36 := (c33 1000000)
theorem q36 {x3 x9 x10 x11} : Le (k36 x3 x9 x10 x11) (impl_FormatDivisor_l0 x3 x9 x10 x11) := (c33L 1000000)
noncomputable def k37 (a0 : (List Int)) : Option ByteArray :=
 cond (((a0.length : Int) : Int) == 0)
 (fk (⟨#[110, 111, 110, 101]⟩ : ByteArray) some)
 (fk ([] : List ByteArray) fun v58 => fk (a0.length : Int) fun v59 => k36 v58 a0 v59 0)
theorem q37 {a0} : Le (k37 a0) (impl_FormatDivisor a0) := by
 rw [impl_FormatDivisor_eq]; unfold k37; exact (LC (LF LR) (LF (LF q36)))
noncomputable def k38 (a0 : ZG) : Option Int :=
 (k21 a0).bind fun r1 => cond (!r1)
 (some (-1))
 (fk (w64 ((w64 ((a0.2.length : Int) - a0.1)) + 1)) some)
theorem q38 {a0} : Le (k38 a0) (impl_GenusOf a0) := by
 rw [impl_GenusOf_eq]; unfold k38; exact (LB q21 fun _ => (LC LR (LF LR)))
abbrev c36T := ((List Int) → (List Int) → Int → Int → Option (List Int))
noncomputable def c36S (ih : c36T) : c36T := (fun x3 x11 x12 x13 => cond (decide (x13 < x12))
 (cond (inside x13 x11.length)
 (cond (decide (x11.getD x13.toNat 0 > 1))
 (cond (decide (x3.length + ([x11.getD x13.toNat 0] : List Int).length ≤ room))
 (fk (x3 ++ ([x11.getD x13.toNat 0] : List Int)) fun v60 => fk (w64 (x13 + 1)) fun v61 => ih v60 x11 x12 v61)
 (none))
 (fk (w64 (x13 + 1)) fun v62 => ih x3 x11 x12 v62))
 (none))
 (some x3))
noncomputable def c36 (n : Nat) : c36T := Nat.rec (motive := fun _ => c36T) (fun _ _ _ _ => none) (fun _ ih => c36S ih) n
theorem c36L (n : Nat) : (∀ {x3 x11 x12 x13}, Le ((c36 n) x3 x11 x12 x13) (impl_GroupFactors_l0 x3 x11 x12 x13)) := by
 induction n with
 | zero => exact LN
 | succ n ih =>
  have h0 := @ih
  · intro x3 x11 x12 x13; rw [impl_GroupFactors_l0_eq]; show Le ((c36S (c36 n)) x3 x11 x12 x13) _; exact (LC (LC (LC (LC (LF (LF h0)) LR) (LF h0)) LR) LR)
noncomputable def k39 := (c36 1000000)
theorem q39 {x3 x11 x12 x13} : Le (k39 x3 x11 x12 x13) (impl_GroupFactors_l0 x3 x11 x12 x13) := (c36L 1000000)
noncomputable def k40 (a0 : Int) : Option Int :=
 fk (imax a0 (w64 (0 - a0))) some
theorem q40 {a0} : Le (k40 a0) (impl_magnitude a0) := by
 rw [impl_magnitude_eq]; unfold k40; exact (LF LR)
abbrev c38T := (Int → Int → Option Int)
noncomputable def c38S (ih : c38T) : c38T := (fun x0 x1 => cond ((x1 : Int) != 0)
 (cond (decide (x1 = 0))
 (none)
 (fk (Int.tmod x0 x1) fun v63 => ih x1 v63))
 ((k40 x0).bind fun r1 => some r1))
noncomputable def c38 (n : Nat) : c38T := Nat.rec (motive := fun _ => c38T) (fun _ _ => none) (fun _ ih => c38S ih) n
theorem c38L (n : Nat) : (∀ {x0 x1}, Le ((c38 n) x0 x1) (impl_divisor_l0 x0 x1)) := by
 induction n with
 | zero => exact LN
 | succ n ih =>
  have h0 := @ih
  · intro x0 x1; rw [impl_divisor_l0_eq]; show Le ((c38S (c38 n)) x0 x1) _; exact (LC (LC LR (LF h0)) (LB q40 fun _ => LR))
noncomputable def k41 := (c38 1000000)
theorem q41 {x0 x1} : Le (k41 x0 x1) (impl_divisor_l0 x0 x1) := (c38L 1000000)
noncomputable def k42 (a0 : Int) (a1 : Int) : Option Int :=
 k41 a0 a1
theorem q42 {a0 a1} : Le (k42 a0 a1) (impl_divisor a0 a1) := by
 rw [impl_divisor_eq]; unfold k42; exact q41
abbrev c40T := ((List Int) → (List Int) → Int → Int → Option (List Int))
noncomputable def c40S (ih : c40T) : c40T := (fun x3 x7 x58 x59 => cond (decide (x59 < x58))
 (cond (inside (w64 (x59 + 1)) x3.length)
 (cond (((x3.getD ((w64 (x59 + 1)).toNat) 0) : Int) == 0)
 (cond (decide (x7.length + ([0] : List Int).length ≤ room))
 (fk (x7 ++ ([0] : List Int)) fun v64 => fk (w64 (x59 + 1)) fun v65 => ih x3 v64 x58 v65)
 (none))
 (cond (inside (w64 (x59 + 1)) x3.length)
 (cond (inside x59 x3.length)
 (cond (decide (x3.getD x59.toNat 0 = 0))
 (none)
 (cond (decide (x7.length + ([w64 (Int.tdiv (x3.getD ((w64 (x59 + 1)).toNat) 0) (x3.getD x59.toNat 0))] : List Int).length ≤ room))
 (fk (x7 ++ ([w64 (Int.tdiv (x3.getD ((w64 (x59 + 1)).toNat) 0) (x3.getD x59.toNat 0))] : List Int)) fun v66 => fk (w64 (x59 + 1)) fun v67 => ih x3 v66 x58 v67)
 (none)))
 (none))
 (none)))
 (none))
 (some x7))
noncomputable def c40 (n : Nat) : c40T := Nat.rec (motive := fun _ => c40T) (fun _ _ _ _ => none) (fun _ ih => c40S ih) n
theorem c40L (n : Nat) : (∀ {x3 x7 x58 x59}, Le ((c40 n) x3 x7 x58 x59) (impl_InvariantFactors_l4 x3 x7 x58 x59)) := by
 induction n with
 | zero => exact LN
 | succ n ih =>
  have h0 := @ih
  · intro x3 x7 x58 x59; rw [impl_InvariantFactors_l4_eq]; show Le ((c40S (c40 n)) x3 x7 x58 x59) _; exact (LC (LC (LC (LC (LF (LF h0)) LR) (LC (LC (LC LR (LC (LF (LF h0)) LR)) LR) LR)) LR) LR)
noncomputable def k43 := (c40 1000000)
theorem q43 {x3 x7 x58 x59} : Le (k43 x3 x7 x58 x59) (impl_InvariantFactors_l4 x3 x7 x58 x59) := (c40L 1000000)
abbrev c41T := ((List (List Int)) → (List Int) → Int → Option (List Int)) × ((List (List Int)) → (List Int) → Int → (List Int) → Int → Option (List Int))
noncomputable def c41S (ih : c41T) : c41T := (fun x0 x3 x4 => cond (decide ((x0.length : Int) < 0))
 (none)
 (cond (decide (x4 < w64 (1 * 2 ^ (min (x0.length : Int).toNat 64))))
 ((k7 x4).bind fun r2 => ih.2 x0 x3 x4 r2 0)
 (fk (x0.length : Int) fun v68 => k43 x3 ([] : List Int) v68 0)),
 fun x0 x3 x4 x5 x6 => cond (decide ((x0.length : Int) < 0))
 (none)
 (cond (decide (x6 < w64 (1 * 2 ^ (min (x0.length : Int).toNat 64))))
 ((k7 x6).bind fun r3 => cond (((r3.length : Int) : Int) == (x5.length : Int))
 (cond (inside (x5.length : Int) x3.length)
 ((k8 x0 x5 x6).bind fun r4 => (fk (x3.getD ((x5.length : Int).toNat) 0) fun v69 => k42 v69 r4).bind fun r5 => cond (inside (x5.length : Int) x3.length)
 (fk (x3.set ((x5.length : Int).toNat) r5) fun v70 => fk (w64 (x6 + 1)) fun v71 => ih.2 x0 v70 x4 x5 v71)
 (none))
 (none))
 (fk (w64 (x6 + 1)) fun v72 => ih.2 x0 x3 x4 x5 v72))
 (fk (w64 (x4 + 1)) fun v73 => ih.1 x0 x3 v73)))
noncomputable def c41 (n : Nat) : c41T := Nat.rec (motive := fun _ => c41T) (fun _ _ _ => none, fun _ _ _ _ _ => none) (fun _ ih => c41S ih) n
theorem c41L (n : Nat) : (∀ {x0 x3 x4}, Le ((c41 n).1 x0 x3 x4) (impl_InvariantFactors_l0 x0 x3 x4)) ∧ (∀ {x0 x3 x4 x5 x6}, Le ((c41 n).2 x0 x3 x4 x5 x6) (impl_InvariantFactors_l2 x0 x3 x4 x5 x6)) := by
 induction n with
 | zero => exact ⟨LN, LN⟩
 | succ n ih =>
  obtain ⟨h0, h1⟩ := ih
  refine ⟨?_, ?_⟩
  · intro x0 x3 x4; rw [impl_InvariantFactors_l0_eq]; show Le (cond (decide ((x0.length : Int) < 0))
 (none)
 (cond (decide (x4 < w64 (1 * 2 ^ (min (x0.length : Int).toNat 64))))
 ((k7 x4).bind fun r2 => (c41 n).2 x0 x3 x4 r2 0)
 (fk (x0.length : Int) fun v74 => k43 x3 ([] : List Int) v74 0))) _; exact (LC LR (LC (LB q7 fun _ => h1) (LF q43)))
  · intro x0 x3 x4 x5 x6; rw [impl_InvariantFactors_l2_eq]; show Le (cond (decide ((x0.length : Int) < 0))
 (none)
 (cond (decide (x6 < w64 (1 * 2 ^ (min (x0.length : Int).toNat 64))))
 ((k7 x6).bind fun r3 => cond (((r3.length : Int) : Int) == (x5.length : Int))
 (cond (inside (x5.length : Int) x3.length)
 ((k8 x0 x5 x6).bind fun r4 => (fk (x3.getD ((x5.length : Int).toNat) 0) fun v75 => k42 v75 r4).bind fun r5 => cond (inside (x5.length : Int) x3.length)
 (fk (x3.set ((x5.length : Int).toNat) r5) fun v76 => fk (w64 (x6 + 1)) fun v77 => (c41 n).2 x0 v76 x4 x5 v77)
 (none))
 (none))
 (fk (w64 (x6 + 1)) fun v78 => (c41 n).2 x0 x3 x4 x5 v78))
 (fk (w64 (x4 + 1)) fun v79 => (c41 n).1 x0 x3 v79))) _; exact (LC LR (LC (LB q7 fun _ => (LC (LC (LB q8 fun _ => (LB (LF q42) fun _ => (LC (LF (LF h1)) LR))) LR) (LF h1))) (LF h0)))
noncomputable def k44 := (c41 1000000).1
theorem q44 {x0 x3 x4} : Le (k44 x0 x3 x4) (impl_InvariantFactors_l0 x0 x3 x4) := (c41L 1000000).1
noncomputable def k46 (a0 : (List (List Int))) : Option (List Int) :=
 (k5 a0).bind fun r1 => cond (!r1)
 (some ([] : List Int))
 (cond (((a0.length : Int) : Int) == 0)
 (some ([] : List Int))
 (cond (decide (0 ≤ w64 ((a0.length : Int) + 1)) && decide (w64 ((a0.length : Int) + 1) ≤ (room : Int)))
 (fk (List.replicate (w64 ((a0.length : Int) + 1)).toNat (0 : Int)) fun v80 => k44 a0 v80 0)
 (none)))
theorem q46 {a0} : Le (k46 a0) (impl_InvariantFactors a0) := by
 rw [impl_InvariantFactors_eq]; unfold k46; exact (LB q5 fun _ => (LC LR (LC LR (LC (LF q44) LR))))
noncomputable def k47 (a0 : ZG) : Option (List Int) :=
 (k21 a0).bind fun r1 => cond (!r1)
 (some ([] : List Int))
 ((k30 a0 0).bind fun r2 => (k46 r2).bind fun r3 => fk (r3.length : Int) fun v81 => k39 ([] : List Int) r3 v81 0)
theorem q47 {a0} : Le (k47 a0) (impl_GroupFactors a0) := by
 rw [impl_GroupFactors_eq]; unfold k47; exact (LB q21 fun _ => (LC LR (LB q30 fun _ => (LB q46 fun _ => (LF q39)))))
noncomputable def k48 (a0 : ZG) : Option ByteArray :=
 (k21 a0).bind fun r1 => cond (!r1)
 (some (⟨#[]⟩ : ByteArray))
 ((k47 a0).bind fun r2 => cond (decide ((r2.length : Int) > 0))
 ((k37 r2).bind fun r3 => (k38 a0).bind fun r4 => (k33 r4).bind fun r5 => cond (decide ((⟨#[103, 101, 110, 117, 115, 32]⟩ : ByteArray).size + r5.size ≤ 9223372036854775807))
 (cond (decide (((⟨#[103, 101, 110, 117, 115, 32]⟩ : ByteArray) ++ r5).size + (⟨#[32, 116, 114, 101, 101, 115, 32]⟩ : ByteArray).size ≤ 9223372036854775807))
 ((k31 a0).bind fun r6 => (k33 r6).bind fun r7 => cond (decide ((((⟨#[103, 101, 110, 117, 115, 32]⟩ : ByteArray) ++ r5) ++ (⟨#[32, 116, 114, 101, 101, 115, 32]⟩ : ByteArray)).size + r7.size ≤ 9223372036854775807))
 (cond (decide (((((⟨#[103, 101, 110, 117, 115, 32]⟩ : ByteArray) ++ r5) ++ (⟨#[32, 116, 114, 101, 101, 115, 32]⟩ : ByteArray)) ++ r7).size + (⟨#[32, 103, 114, 111, 117, 112, 32]⟩ : ByteArray).size ≤ 9223372036854775807))
 (cond (decide ((((((⟨#[103, 101, 110, 117, 115, 32]⟩ : ByteArray) ++ r5) ++ (⟨#[32, 116, 114, 101, 101, 115, 32]⟩ : ByteArray)) ++ r7) ++ (⟨#[32, 103, 114, 111, 117, 112, 32]⟩ : ByteArray)).size + r3.size ≤ 9223372036854775807))
 (fk ((((((⟨#[103, 101, 110, 117, 115, 32]⟩ : ByteArray) ++ r5) ++ (⟨#[32, 116, 114, 101, 101, 115, 32]⟩ : ByteArray)) ++ r7) ++ (⟨#[32, 103, 114, 111, 117, 112, 32]⟩ : ByteArray)) ++ r3) some)
 (none))
 (none))
 (none))
 (none))
 (none))
 ((k38 a0).bind fun r8 => (k33 r8).bind fun r9 => cond (decide ((⟨#[103, 101, 110, 117, 115, 32]⟩ : ByteArray).size + r9.size ≤ 9223372036854775807))
 (cond (decide (((⟨#[103, 101, 110, 117, 115, 32]⟩ : ByteArray) ++ r9).size + (⟨#[32, 116, 114, 101, 101, 115, 32]⟩ : ByteArray).size ≤ 9223372036854775807))
 ((k31 a0).bind fun r10 => (k33 r10).bind fun r11 => cond (decide ((((⟨#[103, 101, 110, 117, 115, 32]⟩ : ByteArray) ++ r9) ++ (⟨#[32, 116, 114, 101, 101, 115, 32]⟩ : ByteArray)).size + r11.size ≤ 9223372036854775807))
 (cond (decide (((((⟨#[103, 101, 110, 117, 115, 32]⟩ : ByteArray) ++ r9) ++ (⟨#[32, 116, 114, 101, 101, 115, 32]⟩ : ByteArray)) ++ r11).size + (⟨#[32, 103, 114, 111, 117, 112, 32]⟩ : ByteArray).size ≤ 9223372036854775807))
 (cond (decide ((((((⟨#[103, 101, 110, 117, 115, 32]⟩ : ByteArray) ++ r9) ++ (⟨#[32, 116, 114, 101, 101, 115, 32]⟩ : ByteArray)) ++ r11) ++ (⟨#[32, 103, 114, 111, 117, 112, 32]⟩ : ByteArray)).size + (⟨#[116, 114, 105, 118, 105, 97, 108]⟩ : ByteArray).size ≤ 9223372036854775807))
 (fk ((((((⟨#[103, 101, 110, 117, 115, 32]⟩ : ByteArray) ++ r9) ++ (⟨#[32, 116, 114, 101, 101, 115, 32]⟩ : ByteArray)) ++ r11) ++ (⟨#[32, 103, 114, 111, 117, 112, 32]⟩ : ByteArray)) ++ (⟨#[116, 114, 105, 118, 105, 97, 108]⟩ : ByteArray)) some)
 (none))
 (none))
 (none))
 (none))
 (none)))
theorem q48 {a0} : Le (k48 a0) (impl_GraphLine a0) := by
 rw [impl_GraphLine_eq]; unfold k48; exact (LB q21 fun _ => (LC LR (LB q47 fun _ => (LC (LB q37 fun _ => (LB q38 fun _ => (LB q33 fun _ => (LC (LC (LB q31 fun _ => (LB q33 fun _ => (LC (LC (LC (LF LR) LR) LR) LR))) LR) LR)))) (LB q38 fun _ => (LB q33 fun _ => (LC (LC (LB q31 fun _ => (LB q33 fun _ => (LC (LC (LC (LF LR) LR) LR) LR))) LR) LR)))))))
abbrev c45T := (ByteArray → ZS → Int → Int → Option ByteArray)
noncomputable def c45S (ih : c45T) : c45T := (fun x3 x14 x15 x16 => cond (decide (x16 < x15))
 (cond (inside x16 x14.length)
 ((fk ((x14.getD x16.toNat (0, 0)).1) fun v82 => k33 v82).bind fun r3 => cond (decide ((⟨#[32]⟩ : ByteArray).size + r3.size ≤ 9223372036854775807))
 (cond (decide (((⟨#[32]⟩ : ByteArray) ++ r3).size + (⟨#[45]⟩ : ByteArray).size ≤ 9223372036854775807))
 ((fk ((x14.getD x16.toNat (0, 0)).2) fun v83 => k33 v83).bind fun r4 => cond (decide ((((⟨#[32]⟩ : ByteArray) ++ r3) ++ (⟨#[45]⟩ : ByteArray)).size + r4.size ≤ 9223372036854775807))
 (cond (decide (x3.size + ((((⟨#[32]⟩ : ByteArray) ++ r3) ++ (⟨#[45]⟩ : ByteArray)) ++ r4).size ≤ 9223372036854775807))
 (fk (x3 ++ ((((⟨#[32]⟩ : ByteArray) ++ r3) ++ (⟨#[45]⟩ : ByteArray)) ++ r4)) fun v84 => fk (w64 (x16 + 1)) fun v85 => ih v84 x14 x15 v85)
 (none))
 (none))
 (none))
 (none))
 (none))
 (some x3))
noncomputable def c45 (n : Nat) : c45T := Nat.rec (motive := fun _ => c45T) (fun _ _ _ _ => none) (fun _ ih => c45S ih) n
theorem c45L (n : Nat) : (∀ {x3 x14 x15 x16}, Le ((c45 n) x3 x14 x15 x16) (impl_FormatGraph_l0 x3 x14 x15 x16)) := by
 induction n with
 | zero => exact LN
 | succ n ih =>
  have h0 := @ih
  · intro x3 x14 x15 x16; rw [impl_FormatGraph_l0_eq]; show Le ((c45S (c45 n)) x3 x14 x15 x16) _; exact (LC (LC (LB (LF q33) fun _ => (LC (LC (LB (LF q33) fun _ => (LC (LC (LF (LF h0)) LR) LR)) LR) LR)) LR) LR)
noncomputable def k49 := (c45 1000000)
theorem q49 {x3 x14 x15 x16} : Le (k49 x3 x14 x15 x16) (impl_FormatGraph_l0 x3 x14 x15 x16) := (c45L 1000000)
noncomputable def k50 (a0 : ZG) : Option ByteArray :=
 (k21 a0).bind fun r1 => cond (!r1)
 (some (⟨#[]⟩ : ByteArray))
 ((k33 a0.1).bind fun r2 => cond (decide (r2.size + (⟨#[58]⟩ : ByteArray).size ≤ 9223372036854775807))
 (fk (r2 ++ (⟨#[58]⟩ : ByteArray)) fun v86 => fk (a0.2.length : Int) fun v87 => k49 v86 a0.2 v87 0)
 (none))
theorem q50 {a0} : Le (k50 a0) (impl_FormatGraph a0) := by
 rw [impl_FormatGraph_eq]; unfold k50; exact (LB q21 fun _ => (LC LR (LB q33 fun _ => (LC (LF (LF q49)) LR))))
noncomputable def k51 (a0 : ByteArray) : Option (Int × Bool) := Lb.pint a0
theorem q51 {a0} : Le (k51 a0) (impl_ParseInt a0) := by rw [impl_ParseInt_eq]; exact LR
noncomputable def k52 (a0 : ByteArray) (a1 : ByteArray) : Option (ByteArray × (ByteArray × Bool)) := Lb.cut a0 a1
theorem q52 {a0 a1} : Le (k52 a0 a1) (strings_Cut a0 a1) := by rw [strings_Cut_eq]; exact LR
abbrev c49T := (ByteArray → ZG → ZG → (List ByteArray) → Int → Int → Option (ZG × Bool)) × (ByteArray → ZG → ZG → (List ByteArray) → Int → Int → Option (ZG × Bool))
noncomputable def c49S (ih : c49T) : c49T := (fun x0 x2 x7 x33 x34 x35 => fk (w64 (x35 + 1)) fun v88 => ih.2 x0 x2 x7 x33 x34 v88,
 fun x0 x2 x7 x33 x34 x35 => cond (decide (x35 < x34))
 (cond (inside x35 x33.length)
 ((fk (x33.getD x35.toNat ByteArray.empty) fun v89 => fk (⟨#[45]⟩ : ByteArray) fun v90 => k52 v89 v90).bind fun r4 => (k51 r4.1).bind fun r5 => (k51 r4.2.1).bind fun r6 => cond (!r5.2)
 (fk ((0, ([] : List (Int × Int))), false) some)
 (cond (!r6.2)
 (fk ((0, ([] : List (Int × Int))), false) some)
 (cond (decide (x7.2.length + ([(r5.1, r6.1)] : List (Int × Int)).length ≤ room))
 (fk (x7.1, x7.2 ++ ([(r5.1, r6.1)] : List (Int × Int))) fun v91 => ih.1 x0 x2 v91 x33 x34 x35)
 (none))))
 (none))
 ((k21 x7).bind fun r7 => cond (!r7)
 (fk ((0, ([] : List (Int × Int))), false) some)
 ((k50 x7).bind fun r8 => cond (!(r8.toList == x0.toList))
 (fk ((0, ([] : List (Int × Int))), false) some)
 (fk (x7, true) some))))
noncomputable def c49 (n : Nat) : c49T := Nat.rec (motive := fun _ => c49T) (fun _ _ _ _ _ _ => none, fun _ _ _ _ _ _ => none) (fun _ ih => c49S ih) n
theorem c49L (n : Nat) : (∀ {x0 x2 x7 x33 x34 x35}, Le ((c49 n).1 x0 x2 x7 x33 x34 x35) (impl_ParseGraph_c15 x0 x2 x7 x33 x34 x35)) ∧ (∀ {x0 x2 x7 x33 x34 x35}, Le ((c49 n).2 x0 x2 x7 x33 x34 x35) (impl_ParseGraph_l0 x0 x2 x7 x33 x34 x35)) := by
 induction n with
 | zero => exact ⟨LN, LN⟩
 | succ n ih =>
  obtain ⟨h0, h1⟩ := ih
  refine ⟨?_, ?_⟩
  · intro x0 x2 x7 x33 x34 x35; rw [impl_ParseGraph_c15_eq]; show Le ((c49S (c49 n)).1 x0 x2 x7 x33 x34 x35) _; exact (LF h1)
  · intro x0 x2 x7 x33 x34 x35; rw [impl_ParseGraph_l0_eq]; show Le ((c49S (c49 n)).2 x0 x2 x7 x33 x34 x35) _; exact (LC (LC (LB (LF (LF q52)) fun _ => (LB q51 fun _ => (LB q51 fun _ => (LC (LF LR) (LC (LF LR) (LC (LF h0) LR)))))) LR) (LB q21 fun _ => (LC (LF LR) (LB q50 fun _ => (LC (LF LR) (LF LR))))))
noncomputable def k54 := (c49 1000000).2
theorem q54 {x0 x2 x7 x33 x34 x35} : Le (k54 x0 x2 x7 x33 x34 x35) (impl_ParseGraph_l0 x0 x2 x7 x33 x34 x35) := (c49L 1000000).2
noncomputable def k55 (a0 : ByteArray) (a1 : Int) : Option Int := Lb.indexByte a0 a1
theorem q55 {a0 a1} : Le (k55 a0 a1) (strings_IndexByte a0 a1) := by rw [strings_IndexByte_eq]; exact LR
abbrev c51T := (ByteArray → ByteArray → (List ByteArray) → Int → Int → Option (List ByteArray))
noncomputable def c51S (ih : c51T) : c51T := (fun x0 x1 x5 x6 x7 => cond (decide (x7 < (x0.size : Int)))
 (cond (inside x7 x0.size)
 ((fk (bAt x0 x7.toNat) fun v92 => k55 x1 v92).bind fun r1 => cond (decide (r1 ≥ 0))
 (cond (decide (0 ≤ x6) && decide (x6 ≤ x7) && decide (x7 ≤ (x0.size : Int)))
 (cond (decide (x5.length + ([x0.extract x6.toNat x7.toNat] : List ByteArray).length ≤ room))
 (fk (x5 ++ ([x0.extract x6.toNat x7.toNat] : List ByteArray)) fun v93 => fk (w64 (x7 + 1)) fun v94 => fk (w64 (x7 + 1)) fun v95 => ih x0 x1 v93 v94 v95)
 (none))
 (none))
 (fk (w64 (x7 + 1)) fun v96 => ih x0 x1 x5 x6 v96))
 (none))
 (cond (decide (0 ≤ x6) && decide (x6 ≤ (x0.size : Int)) && decide ((x0.size : Int) ≤ (x0.size : Int)))
 (cond (decide (x5.length + ([x0.extract x6.toNat ((x0.size : Int).toNat)] : List ByteArray).length ≤ room))
 (fk (x5 ++ ([x0.extract x6.toNat ((x0.size : Int).toNat)] : List ByteArray)) some)
 (none))
 (none)))
noncomputable def c51 (n : Nat) : c51T := Nat.rec (motive := fun _ => c51T) (fun _ _ _ _ _ => none) (fun _ ih => c51S ih) n
theorem c51L (n : Nat) : (∀ {x0 x1 x5 x6 x7}, Le ((c51 n) x0 x1 x5 x6 x7) (impl_SplitAny_l0 x0 x1 x5 x6 x7)) := by
 induction n with
 | zero => exact LN
 | succ n ih =>
  have h0 := @ih
  · intro x0 x1 x5 x6 x7; rw [impl_SplitAny_l0_eq]; show Le ((c51S (c51 n)) x0 x1 x5 x6 x7) _; exact (LC (LC (LB (LF q55) fun _ => (LC (LC (LC (LF (LF (LF h0))) LR) LR) (LF h0))) LR) (LC (LC (LF LR) LR) LR))
noncomputable def k56 := (c51 1000000)
theorem q56 {x0 x1 x5 x6 x7} : Le (k56 x0 x1 x5 x6 x7) (impl_SplitAny_l0 x0 x1 x5 x6 x7) := (c51L 1000000)
noncomputable def k57 (a0 : ByteArray) (a1 : ByteArray) : Option (List ByteArray) :=
 fk ([] : List ByteArray) fun v97 => k56 a0 a1 v97 0 0
theorem q57 {a0 a1} : Le (k57 a0 a1) (impl_SplitAny a0 a1) := by
 rw [impl_SplitAny_eq]; unfold k57; exact (LF q56)
noncomputable def k58 (a0 : ByteArray) (a1 : ByteArray) : Option ByteArray := Lb.trimSuffix a0 a1
theorem q58 {a0 a1} : Le (k58 a0 a1) (strings_TrimSuffix a0 a1) := by rw [strings_TrimSuffix_eq]; exact LR
noncomputable def k59 (a0 : ByteArray) : Option (ZG × Bool) :=
 (fk (⟨#[32]⟩ : ByteArray) fun v98 => k57 a0 v98).bind fun r1 => cond (inside 0 r1.length)
 ((fk (r1.getD 0 ByteArray.empty) fun v99 => fk (⟨#[58]⟩ : ByteArray) fun v0 => k58 v99 v0).bind fun r2 => (k51 r2).bind fun r3 => cond (!r3.2)
 (fk ((0, ([] : List (Int × Int))), false) some)
 (cond (decide (0 ≤ 1) && decide (1 ≤ (r1.length : Int)) && decide ((r1.length : Int) ≤ (r1.length : Int)))
 (fk (0, ([] : List (Int × Int))) fun v1 => fk (r3.1, ([] : List (Int × Int))) fun v2 => fk ((r1.take ((r1.length : Int).toNat)).drop 1) fun v3 => fk (((r1.take ((r1.length : Int).toNat)).drop 1).length : Int) fun v4 => k54 a0 v1 v2 v3 v4 0)
 (none)))
 (none)
theorem q59 {a0} : Le (k59 a0) (impl_ParseGraph a0) := by
 rw [impl_ParseGraph_eq]; unfold k59; exact (LB (LF q57) fun _ => (LC (LB (LF (LF q58)) fun _ => (LB q51 fun _ => (LC (LF LR) (LC (LF (LF (LF (LF q54)))) LR)))) LR))
noncomputable def k60 (a0 : ZG) (a1 : (List Int)) : Option Bool :=
 (k21 a0).bind fun r1 => cond (r1)
 (cond (((a1.length : Int) : Int) == a0.1)
 ((k3 a1 (-60) 60).bind fun r2 => some r2)
 (some false))
 (some false)
theorem q60 {a0 a1} : Le (k60 a0 a1) (impl_DivisorOk a0 a1) := by
 rw [impl_DivisorOk_eq]; unfold k60; exact (LB q21 fun _ => (LC (LC (LB q3 fun _ => LR) LR) LR))
noncomputable def k61 (a0 : (List Int)) : Option (List Int) :=
 cond (decide (([] : List Int).length + a0.length ≤ room))
 (fk (([] : List Int) ++ a0) some)
 (none)
theorem q61 {a0} : Le (k61 a0) (impl_copyInts a0) := by
 rw [impl_copyInts_eq]; unfold k61; exact (LC (LF LR) LR)
noncomputable def k62 (a0 : (List Int)) (a1 : Bool) (a2 : ZC) (a3 : ZC) : Option (ZC × (ByteArray × ZC)) :=
 cond (!a1)
 (fk (a3, (⟨#[110, 111, 110, 101]⟩ : ByteArray), a3) some)
 ((k60 a2.1 a0).bind fun r1 => cond (!r1)
 (fk (a3, (⟨#[110, 111, 110, 101]⟩ : ByteArray), a3) some)
 ((k61 a0).bind fun r2 => (k37 a0).bind fun r3 => fk ((a3.1, r2, a3.2.2), r3, a3.1, r2, a3.2.2) some))
theorem q62 {a0 a1 a2 a3} : Le (k62 a0 a1 a2 a3) (impl_RunLine_1 a0 a1 a2 a3) := by
 rw [impl_RunLine_1_eq]; unfold k62; exact (LC (LF LR) (LB q60 fun _ => (LC (LF LR) (LB q61 fun _ => (LB q37 fun _ => (LF LR))))))
abbrev c58T := (ZG → ZS → (List Int) → Int → Int → Option ZS)
noncomputable def c58S (ih : c58T) : c58T := (fun x2 x5 x8 x9 x10 => cond (decide (x10 < x9))
 (cond (inside x10 x8.length)
 (cond (inside (x8.getD x10.toNat 0) x2.2.length)
 (cond (decide (x5.length + ([x2.2.getD ((x8.getD x10.toNat 0).toNat) (0, 0)] : List (Int × Int)).length ≤ room))
 (fk (x5 ++ ([x2.2.getD ((x8.getD x10.toNat 0).toNat) (0, 0)] : List (Int × Int))) fun v5 => fk (w64 (x10 + 1)) fun v6 => ih x2 v5 x8 x9 v6)
 (none))
 (none))
 (none))
 (some x5))
noncomputable def c58 (n : Nat) : c58T := Nat.rec (motive := fun _ => c58T) (fun _ _ _ _ _ => none) (fun _ ih => c58S ih) n
theorem c58L (n : Nat) : (∀ {x2 x5 x8 x9 x10}, Le ((c58 n) x2 x5 x8 x9 x10) (impl_edgesOf_l0 x2 x5 x8 x9 x10)) := by
 induction n with
 | zero => exact LN
 | succ n ih =>
  have h0 := @ih
  · intro x2 x5 x8 x9 x10; rw [impl_edgesOf_l0_eq]; show Le ((c58S (c58 n)) x2 x5 x8 x9 x10) _; exact (LC (LC (LC (LC (LF (LF h0)) LR) LR) LR) LR)
noncomputable def k63 := (c58 1000000)
theorem q63 {x2 x5 x8 x9 x10} : Le (k63 x2 x5 x8 x9 x10) (impl_edgesOf_l0 x2 x5 x8 x9 x10) := (c58L 1000000)
noncomputable def k64 (a0 : ZG) (a1 : (List Int)) : Option ZS :=
 fk (a1.length : Int) fun v7 => k63 a0 ([] : List (Int × Int)) a1 v7 0
theorem q64 {a0 a1} : Le (k64 a0 a1) (impl_edgesOf a0 a1) := by
 rw [impl_edgesOf_eq]; unfold k64; exact (LF q63)
abbrev c60T := ((List Int) → ZG → Int → Option Bool)
noncomputable def c60S (ih : c60T) : c60T := (fun x1 x2 x5 => cond (decide (x5 < (x1.length : Int)))
 (cond (inside (w64 (x5 - 1)) x1.length)
 (cond (inside x5 x1.length)
 (cond (decide (x1.getD ((w64 (x5 - 1)).toNat) 0 ≥ x1.getD x5.toNat 0))
 (some false)
 (fk (w64 (x5 + 1)) fun v8 => ih x1 x2 v8))
 (none))
 (none))
 ((k64 x2 x1).bind fun r3 => (k20 x2.1 r3).bind fun r4 => some r4))
noncomputable def c60 (n : Nat) : c60T := Nat.rec (motive := fun _ => c60T) (fun _ _ _ => none) (fun _ ih => c60S ih) n
theorem c60L (n : Nat) : (∀ {x1 x2 x5}, Le ((c60 n) x1 x2 x5) (impl_IsTree_l0 x1 x2 x5)) := by
 induction n with
 | zero => exact LN
 | succ n ih =>
  have h0 := @ih
  · intro x1 x2 x5; rw [impl_IsTree_l0_eq]; show Le ((c60S (c60 n)) x1 x2 x5) _; exact (LC (LC (LC (LC LR (LF h0)) LR) LR) (LB q64 fun _ => (LB q20 fun _ => LR)))
noncomputable def k65 := (c60 1000000)
theorem q65 {x1 x2 x5} : Le (k65 x1 x2 x5) (impl_IsTree_l0 x1 x2 x5) := (c60L 1000000)
noncomputable def k66 (a0 : ZG) (a1 : (List Int)) : Option Bool :=
 (k21 a0).bind fun r1 => cond (!r1)
 (some false)
 (cond (((a1.length : Int) : Int) != (w64 (a0.1 - 1)))
 (some false)
 ((fk (w64 ((a0.2.length : Int) - 1)) fun v9 => k3 a1 0 v9).bind fun r2 => cond (!r2)
 (some false)
 (k65 a1 a0 1)))
theorem q66 {a0 a1} : Le (k66 a0 a1) (impl_IsTree a0 a1) := by
 rw [impl_IsTree_eq]; unfold k66; exact (LB q21 fun _ => (LC LR (LC LR (LB (LF q3) fun _ => (LC LR q65)))))
noncomputable def k67 (a0 : ZG) (a1 : Int) (a2 : Int) : Option Int :=
 cond (inside a1 a0.2.length)
 (cond (inside a1 a0.2.length)
 (fk (w64 ((w64 (((a0.2.getD a1.toNat (0, 0)).1) + ((a0.2.getD a1.toNat (0, 0)).2))) - a2)) some)
 (none))
 (none)
theorem q67 {a0 a1 a2} : Le (k67 a0 a1 a2) (impl_across a0 a1 a2) := by
 rw [impl_across_eq]; unfold k67; exact (LC (LC (LF LR) LR) LR)
noncomputable def k68 (a0 : ZG) (a1 : Int) (a2 : Int) : Option Bool :=
 (fk (w64 ((a0.2.length : Int) - 1)) fun v10 => k1 a1 0 v10).bind fun r1 => cond (r1)
 (cond (inside a1 a0.2.length)
 (cond ((((a0.2.getD a1.toNat (0, 0)).1) : Int) == a2)
 (some true)
 (cond (inside a1 a0.2.length)
 (fk ((((a0.2.getD a1.toNat (0, 0)).2) : Int) == a2) some)
 (none)))
 (none))
 (some false)
theorem q68 {a0 a1 a2} : Le (k68 a0 a1 a2) (impl_isAt a0 a1 a2) := by
 rw [impl_isAt_eq]; unfold k68; exact (LB (LF q1) fun _ => (LC (LC (LC LR (LC (LF LR) LR)) LR) LR))
abbrev c64T := ((List Int) → Int → Int → Int → Option Int)
noncomputable def c64S (ih : c64T) : c64T := (fun x0 x1 x7 x8 => cond (decide (x8 < x7))
 (cond (inside x8 x0.length)
 (cond ((x1 : Int) == (x0.getD x8.toNat 0))
 (some x8)
 (fk (w64 (x8 + 1)) fun v11 => ih x0 x1 x7 v11))
 (none))
 (some (-1)))
noncomputable def c64 (n : Nat) : c64T := Nat.rec (motive := fun _ => c64T) (fun _ _ _ _ => none) (fun _ ih => c64S ih) n
theorem c64L (n : Nat) : (∀ {x0 x1 x7 x8}, Le ((c64 n) x0 x1 x7 x8) (slices_Index_int_int_l0 x0 x1 x7 x8)) := by
 induction n with
 | zero => exact LN
 | succ n ih =>
  have h0 := @ih
  · intro x0 x1 x7 x8; rw [slices_Index_int_int_l0_eq]; show Le ((c64S (c64 n)) x0 x1 x7 x8) _; exact (LC (LC (LC LR (LF h0)) LR) LR)
noncomputable def k69 := (c64 1000000)
theorem q69 {x0 x1 x7 x8} : Le (k69 x0 x1 x7 x8) (slices_Index_int_int_l0 x0 x1 x7 x8) := (c64L 1000000)
noncomputable def k70 (a0 : (List Int)) (a1 : Int) : Option Int :=
 fk (a0.length : Int) fun v12 => k69 a0 a1 v12 0
theorem q70 {a0 a1} : Le (k70 a0 a1) (slices_Index_int_int a0 a1) := by
 rw [slices_Index_int_int_eq]; unfold k70; exact (LF q69)
noncomputable def k71 (a0 : (List Int)) (a1 : Int) : Option Bool :=
 (k70 a0 a1).bind fun r1 => fk (decide (r1 ≥ 0)) some
theorem q71 {a0 a1} : Le (k71 a0 a1) (slices_Contains_int_int a0 a1) := by
 rw [slices_Contains_int_int_eq]; unfold k71; exact (LB q70 fun _ => (LF LR))
abbrev c67T := ((List Int) → ZG → (List Int) → (List Int) → Int → Option ((List Int) × Bool)) × ((List Int) → ZG → (List Int) → (List Int) → Int → (List Int) → Int → Int → Option ((List Int) × Bool))
noncomputable def c67S (ih : c67T) : c67T := (fun x1 x3 x8 x10 x11 => cond (decide (x11 < (x10.length : Int)))
 (fk (x1.length : Int) fun v13 => ih.2 x1 x3 x8 x10 x11 x1 v13 0)
 (fk (x8, true) some),
 fun x1 x3 x8 x10 x11 x47 x48 x49 => cond (decide (x49 < x48))
 (cond (inside x49 x47.length)
 (cond (inside x11 x10.length)
 ((fk (x47.getD x49.toNat 0) fun v14 => fk (x10.getD x11.toNat 0) fun v15 => k68 x3 v14 v15).bind fun r3 => cond (!r3)
 (fk (w64 (x49 + 1)) fun v16 => ih.2 x1 x3 x8 x10 x11 x47 x48 v16)
 (cond (inside x11 x10.length)
 ((fk (x47.getD x49.toNat 0) fun v17 => fk (x10.getD x11.toNat 0) fun v18 => k67 x3 v17 v18).bind fun r4 => (k71 x10 r4).bind fun r5 => cond (!r5)
 (cond (inside r4 x8.length)
 (cond (decide (x10.length + ([r4] : List Int).length ≤ room))
 (fk (x8.set r4.toNat (x47.getD x49.toNat 0)) fun v19 => fk (x10 ++ ([r4] : List Int)) fun v20 => fk (w64 (x49 + 1)) fun v21 => ih.2 x1 x3 v19 v20 x11 x47 x48 v21)
 (none))
 (none))
 (fk (w64 (x49 + 1)) fun v22 => ih.2 x1 x3 x8 x10 x11 x47 x48 v22))
 (none)))
 (none))
 (none))
 (fk (w64 (x11 + 1)) fun v23 => ih.1 x1 x3 x8 x10 v23))
noncomputable def c67 (n : Nat) : c67T := Nat.rec (motive := fun _ => c67T) (fun _ _ _ _ _ => none, fun _ _ _ _ _ _ _ _ => none) (fun _ ih => c67S ih) n
theorem c67L (n : Nat) : (∀ {x1 x3 x8 x10 x11}, Le ((c67 n).1 x1 x3 x8 x10 x11) (impl_StateOfTree_l2 x1 x3 x8 x10 x11)) ∧ (∀ {x1 x3 x8 x10 x11 x47 x48 x49}, Le ((c67 n).2 x1 x3 x8 x10 x11 x47 x48 x49) (impl_StateOfTree_l4 x1 x3 x8 x10 x11 x47 x48 x49)) := by
 induction n with
 | zero => exact ⟨LN, LN⟩
 | succ n ih =>
  obtain ⟨h0, h1⟩ := ih
  refine ⟨?_, ?_⟩
  · intro x1 x3 x8 x10 x11; rw [impl_StateOfTree_l2_eq]; show Le ((c67S (c67 n)).1 x1 x3 x8 x10 x11) _; exact (LC (LF h1) (LF LR))
  · intro x1 x3 x8 x10 x11 x47 x48 x49; rw [impl_StateOfTree_l4_eq]; show Le ((c67S (c67 n)).2 x1 x3 x8 x10 x11 x47 x48 x49) _; exact (LC (LC (LC (LB (LF (LF q68)) fun _ => (LC (LF h1) (LC (LB (LF (LF q67)) fun _ => (LB q71 fun _ => (LC (LC (LC (LF (LF (LF h1))) LR) LR) (LF h1)))) LR))) LR) LR) (LF h0))
noncomputable def k72 := (c67 1000000).1
theorem q72 {x1 x3 x8 x10 x11} : Le (k72 x1 x3 x8 x10 x11) (impl_StateOfTree_l2 x1 x3 x8 x10 x11) := (c67L 1000000).1
abbrev c68T := ((List Int) → Int → ZG → (List Int) → Int → Int → Option ((List Int) × Bool))
noncomputable def c68S (ih : c68T) : c68T := (fun x1 x2 x3 x8 x31 x32 => cond (decide (x32 < x31))
 (cond (inside x32 x8.length)
 (fk (x8.set x32.toNat (-1)) fun v24 => fk (w64 (x32 + 1)) fun v25 => ih x1 x2 x3 v24 x31 v25)
 (none))
 (fk ([x2] : List Int) fun v26 => k72 x1 x3 x8 v26 0))
noncomputable def c68 (n : Nat) : c68T := Nat.rec (motive := fun _ => c68T) (fun _ _ _ _ _ _ => none) (fun _ ih => c68S ih) n
theorem c68L (n : Nat) : (∀ {x1 x2 x3 x8 x31 x32}, Le ((c68 n) x1 x2 x3 x8 x31 x32) (impl_StateOfTree_l0 x1 x2 x3 x8 x31 x32)) := by
 induction n with
 | zero => exact LN
 | succ n ih =>
  have h0 := @ih
  · intro x1 x2 x3 x8 x31 x32; rw [impl_StateOfTree_l0_eq]; show Le ((c68S (c68 n)) x1 x2 x3 x8 x31 x32) _; exact (LC (LC (LF (LF h0)) LR) (LF q72))
noncomputable def k74 := (c68 1000000)
theorem q74 {x1 x2 x3 x8 x31 x32} : Le (k74 x1 x2 x3 x8 x31 x32) (impl_StateOfTree_l0 x1 x2 x3 x8 x31 x32) := (c68L 1000000)
noncomputable def k75 (a0 : ZG) (a1 : (List Int)) (a2 : Int) : Option ((List Int) × Bool) :=
 (k66 a0 a1).bind fun r1 => cond (!r1)
 (fk (([] : List Int), false) some)
 ((fk (w64 (a0.1 - 1)) fun v27 => k1 a2 0 v27).bind fun r2 => cond (!r2)
 (fk (([] : List Int), false) some)
 (cond (decide (0 ≤ a0.1) && decide (a0.1 ≤ (room : Int)))
 (fk (List.replicate a0.1.toNat (0 : Int)) fun v28 => fk ((List.replicate a0.1.toNat (0 : Int)).length : Int) fun v29 => k74 a1 a2 a0 v28 v29 0)
 (none)))
theorem q75 {a0 a1 a2} : Le (k75 a0 a1 a2) (impl_StateOfTree a0 a1 a2) := by
 rw [impl_StateOfTree_eq]; unfold k75; exact (LB q66 fun _ => (LC (LF LR) (LB (LF q1) fun _ => (LC (LF LR) (LC (LF (LF q74)) LR)))))
abbrev c70T := (Int → ZG → (List Int) → Int → Int → Option Bool)
noncomputable def c70S (ih : c70T) : c70T := (fun x2 x3 x27 x28 x29 => cond (decide (x29 < x28))
 (cond (inside x29 x27.length)
 (cond ((x29 : Int) != x2)
 ((fk (x27.getD x29.toNat 0) fun v30 => k68 x3 v30 x29).bind fun r2 => cond (!r2)
 (some false)
 (fk (w64 (x29 + 1)) fun v31 => ih x2 x3 x27 x28 v31))
 (fk (w64 (x29 + 1)) fun v32 => ih x2 x3 x27 x28 v32))
 (none))
 (some true))
noncomputable def c70 (n : Nat) : c70T := Nat.rec (motive := fun _ => c70T) (fun _ _ _ _ _ => none) (fun _ ih => c70S ih) n
theorem c70L (n : Nat) : (∀ {x2 x3 x27 x28 x29}, Le ((c70 n) x2 x3 x27 x28 x29) (impl_RotorsOk_l0 x2 x3 x27 x28 x29)) := by
 induction n with
 | zero => exact LN
 | succ n ih =>
  have h0 := @ih
  · intro x2 x3 x27 x28 x29; rw [impl_RotorsOk_l0_eq]; show Le ((c70S (c70 n)) x2 x3 x27 x28 x29) _; exact (LC (LC (LC (LB (LF q68) fun _ => (LC LR (LF h0))) (LF h0)) LR) LR)
noncomputable def k76 := (c70 1000000)
theorem q76 {x2 x3 x27 x28 x29} : Le (k76 x2 x3 x27 x28 x29) (impl_RotorsOk_l0 x2 x3 x27 x28 x29) := (c70L 1000000)
noncomputable def k77 (a0 : ZG) (a1 : (List Int)) (a2 : Int) : Option Bool :=
 (k29 a0 a2).bind fun r1 => cond (!r1)
 (some false)
 (cond (((a1.length : Int) : Int) != a0.1)
 (some false)
 (cond (inside a2 a1.length)
 (cond (((a1.getD a2.toNat 0) : Int) != (-1))
 (some false)
 (fk (a1.length : Int) fun v33 => k76 a2 a0 a1 v33 0))
 (none)))
theorem q77 {a0 a1 a2} : Le (k77 a0 a1 a2) (impl_RotorsOk a0 a1 a2) := by
 rw [impl_RotorsOk_eq]; unfold k77; exact (LB q29 fun _ => (LC LR (LC LR (LC (LC LR (LF q76)) LR))))
abbrev c72T := (Int → ZG → Int → Int → Option Int)
noncomputable def c72S (ih : c72T) : c72T := (fun x1 x3 x7 x8 => (k68 x3 x8 x1).bind fun r3 => cond (!r3)
 (cond (decide (x7 = 0))
 (none)
 (fk (Int.tmod (w64 (x8 + 1)) x7) fun v34 => ih x1 x3 x7 v34))
 (some x8))
noncomputable def c72 (n : Nat) : c72T := Nat.rec (motive := fun _ => c72T) (fun _ _ _ _ => none) (fun _ ih => c72S ih) n
theorem c72L (n : Nat) : (∀ {x1 x3 x7 x8}, Le ((c72 n) x1 x3 x7 x8) (impl_NextRotor_l0 x1 x3 x7 x8)) := by
 induction n with
 | zero => exact LN
 | succ n ih =>
  have h0 := @ih
  · intro x1 x3 x7 x8; rw [impl_NextRotor_l0_eq]; show Le ((c72S (c72 n)) x1 x3 x7 x8) _; exact (LB q68 fun _ => (LC (LC LR (LF h0)) LR))
noncomputable def k78 := (c72 1000000)
theorem q78 {x1 x3 x7 x8} : Le (k78 x1 x3 x7 x8) (impl_NextRotor_l0 x1 x3 x7 x8) := (c72L 1000000)
noncomputable def k79 (a0 : ZG) (a1 : Int) (a2 : Int) : Option Int :=
 (k29 a0 a1).bind fun r1 => cond (!r1)
 (some (-1))
 ((k68 a0 a2 a1).bind fun r2 => cond (!r2)
 (some (-1))
 (cond (decide ((a0.2.length : Int) = 0))
 (none)
 (fk (a0.2.length : Int) fun v35 => fk (Int.tmod (w64 (a2 + 1)) (a0.2.length : Int)) fun v36 => k78 a1 a0 v35 v36)))
theorem q79 {a0 a1 a2} : Le (k79 a0 a1 a2) (impl_NextRotor a0 a1 a2) := by
 rw [impl_NextRotor_eq]; unfold k79; exact (LB q29 fun _ => (LC LR (LB q68 fun _ => (LC LR (LC LR (LF (LF q78)))))))
abbrev c74T := (Int → Int → ZG → (List Int) → Int → Option ((List Int) × (Int × Bool)))
noncomputable def c74S (ih : c74T) : c74T := (fun x2 x3 x4 x11 x12 => cond ((x3 : Int) != x2)
 (cond ((x12 : Int) == 2000)
 (fk (([] : List Int), 0, false) some)
 (cond (inside x3 x11.length)
 ((fk (x11.getD x3.toNat 0) fun v37 => k79 x4 x3 v37).bind fun r4 => cond (inside x3 x11.length)
 (cond (inside x3 (x11.set x3.toNat r4).length)
 ((fk ((x11.set x3.toNat r4).getD x3.toNat 0) fun v38 => k67 x4 v38 x3).bind fun r5 => fk (x11.set x3.toNat r4) fun v39 => fk (w64 (x12 + 1)) fun v40 => ih x2 r5 x4 v39 v40)
 (none))
 (none))
 (none)))
 (fk (x11, x12, true) some))
noncomputable def c74 (n : Nat) : c74T := Nat.rec (motive := fun _ => c74T) (fun _ _ _ _ _ => none) (fun _ ih => c74S ih) n
theorem c74L (n : Nat) : (∀ {x2 x3 x4 x11 x12}, Le ((c74 n) x2 x3 x4 x11 x12) (impl_WalkToSink_l0 x2 x3 x4 x11 x12)) := by
 induction n with
 | zero => exact LN
 | succ n ih =>
  have h0 := @ih
  · intro x2 x3 x4 x11 x12; rw [impl_WalkToSink_l0_eq]; show Le ((c74S (c74 n)) x2 x3 x4 x11 x12) _; exact (LC (LC (LF LR) (LC (LB (LF q79) fun _ => (LC (LC (LB (LF q67) fun _ => (LF (LF h0))) LR) LR)) LR)) (LF LR))
noncomputable def k80 := (c74 1000000)
theorem q80 {x2 x3 x4 x11 x12} : Le (k80 x2 x3 x4 x11 x12) (impl_WalkToSink_l0 x2 x3 x4 x11 x12) := (c74L 1000000)
noncomputable def k81 (a0 : ZG) (a1 : (List Int)) (a2 : Int) (a3 : Int) : Option ((List Int) × (Int × Bool)) :=
 (k77 a0 a1 a2).bind fun r1 => cond (!r1)
 (fk (([] : List Int), 0, false) some)
 ((fk (w64 (a0.1 - 1)) fun v41 => k1 a3 0 v41).bind fun r2 => cond (!r2)
 (fk (([] : List Int), 0, false) some)
 ((k61 a1).bind fun r3 => k80 a2 a3 a0 r3 0))
theorem q81 {a0 a1 a2 a3} : Le (k81 a0 a1 a2 a3) (impl_WalkToSink a0 a1 a2 a3) := by
 rw [impl_WalkToSink_eq]; unfold k81; exact (LB q77 fun _ => (LC (LF LR) (LB (LF q1) fun _ => (LC (LF LR) (LB q61 fun _ => q80)))))
noncomputable def k82 (x2 : ZC) (x4 : ZC) (x6 : ZC) (x13 : (List Int)) (x18 : (List (List Int))) : Option (ZC × ByteArray) :=
 cond (((x18.length : Int) : Int) == 0)
 (fk (x6, (⟨#[110, 111, 110, 101]⟩ : ByteArray)) some)
 (cond (inside 0 x18.length)
 ((fk (x18.getD 0 ([] : List Int)) fun v42 => k75 x2.1 v42 x2.2.2).bind fun r13 => cond (inside 0 x13.length)
 ((fk (x13.getD 0 0) fun v43 => k81 x2.1 r13.1 x2.2.2 v43).bind fun r14 => cond (!r14.2.2)
 (fk (x6, (⟨#[110, 111, 110, 101]⟩ : ByteArray)) some)
 ((k33 r14.2.1).bind fun r15 => fk (x6, r15) some))
 (none))
 (none))
theorem q82 {x2 x4 x6 x13 x18} : Le (k82 x2 x4 x6 x13 x18) (impl_RunLine_c40 x2 x4 x6 x13 x18) := by
 rw [impl_RunLine_c40_eq]; unfold k82; exact (LC (LF LR) (LC (LB (LF q75) fun _ => (LC (LB (LF q81) fun _ => (LC (LF LR) (LB q33 fun _ => (LF LR)))) LR)) LR))
noncomputable def k83 (a0 : ZG) : Option ((List (List Int)) × Bool) := Lb.treesOf k21 k31 k66 k61 a0
theorem q83 {a0} : Le (k83 a0) (impl_TreesOf a0) := by rw [impl_TreesOf_eq]; exact Lb.treesOf_le (fun _ => q21) (fun _ => q31) (fun _ _ => q66) (fun _ => q61) _
abbrev c78T := (ZC → ZC → ZC → (List ByteArray) → (List ByteArray) → (List Int) → (List ByteArray) → Int → Int → Option (ZC × ByteArray))
noncomputable def c78S (ih : c78T) : c78T := (fun x2 x4 x6 x7 x8 x13 x87 x88 x89 => cond (decide (x89 < x88))
 (cond (inside x89 x87.length)
 ((fk (x87.getD x89.toNat ByteArray.empty) fun v44 => k51 v44).bind fun r8 => cond (!r8.2)
 (fk (x6, (⟨#[117, 110, 107, 110, 111, 119, 110, 32, 99, 111, 109, 109, 97, 110, 100]⟩ : ByteArray)) some)
 (cond (decide (x13.length + ([r8.1] : List Int).length ≤ room))
 (fk (x13 ++ ([r8.1] : List Int)) fun v45 => fk (w64 (x89 + 1)) fun v46 => ih x2 x4 x6 x7 x8 v45 x87 x88 v46)
 (none)))
 (none))
 (cond (inside 0 x7.length)
 (cond ((x7.getD 0 ByteArray.empty).toList == (⟨#[99, 104, 105, 112, 115]⟩ : ByteArray).toList)
 ((k60 x2.1 x13).bind fun r9 => cond (r9)
 (fk ((x6.1, x13, x6.2.2), (⟨#[111, 107]⟩ : ByteArray)) some)
 (fk (x6, (⟨#[110, 111, 110, 101]⟩ : ByteArray)) some))
 (cond (inside 0 x7.length)
 (cond ((x7.getD 0 ByteArray.empty).toList == (⟨#[115, 105, 110, 107]⟩ : ByteArray).toList)
 (cond (((x8.length : Int) : Int) == 1)
 (cond (inside 0 x13.length)
 (cond (decide (x13.getD 0 0 ≥ 0))
 (cond (inside 0 x13.length)
 (cond (decide (x13.getD 0 0 < x2.1.1))
 (cond (inside 0 x13.length)
 (fk ((x6.1, x6.2.1, x13.getD 0 0), (⟨#[111, 107]⟩ : ByteArray)) some)
 (none))
 (fk (x6, (⟨#[110, 111, 110, 101]⟩ : ByteArray)) some))
 (none))
 (fk (x6, (⟨#[110, 111, 110, 101]⟩ : ByteArray)) some))
 (none))
 (cond (inside 0 x7.length)
 (cond ((x7.getD 0 ByteArray.empty).toList == (⟨#[102, 105, 114, 101]⟩ : ByteArray).toList)
 (none)
 (cond (inside 0 x7.length)
 (cond ((x7.getD 0 ByteArray.empty).toList == (⟨#[119, 97, 108, 107]⟩ : ByteArray).toList)
 (cond (((x8.length : Int) : Int) == 1)
 ((k83 x2.1).bind fun r12 => k82 x2 x4 x6 x13 r12.1)
 (fk (x6, (⟨#[117, 110, 107, 110, 111, 119, 110, 32, 99, 111, 109, 109, 97, 110, 100]⟩ : ByteArray)) some))
 (fk (x6, (⟨#[117, 110, 107, 110, 111, 119, 110, 32, 99, 111, 109, 109, 97, 110, 100]⟩ : ByteArray)) some))
 (none)))
 (none)))
 (cond (inside 0 x7.length)
 (cond ((x7.getD 0 ByteArray.empty).toList == (⟨#[102, 105, 114, 101]⟩ : ByteArray).toList)
 (none)
 (cond (inside 0 x7.length)
 (cond ((x7.getD 0 ByteArray.empty).toList == (⟨#[119, 97, 108, 107]⟩ : ByteArray).toList)
 (cond (((x8.length : Int) : Int) == 1)
 ((k83 x2.1).bind fun r18 => k82 x2 x4 x6 x13 r18.1)
 (fk (x6, (⟨#[117, 110, 107, 110, 111, 119, 110, 32, 99, 111, 109, 109, 97, 110, 100]⟩ : ByteArray)) some))
 (fk (x6, (⟨#[117, 110, 107, 110, 111, 119, 110, 32, 99, 111, 109, 109, 97, 110, 100]⟩ : ByteArray)) some))
 (none)))
 (none)))
 (none)))
 (none)))
noncomputable def c78 (n : Nat) : c78T := Nat.rec (motive := fun _ => c78T) (fun _ _ _ _ _ _ _ _ _ => none) (fun _ ih => c78S ih) n
theorem c78L (n : Nat) : (∀ {x2 x4 x6 x7 x8 x13 x87 x88 x89}, Le ((c78 n) x2 x4 x6 x7 x8 x13 x87 x88 x89) (impl_RunLine_l0 x2 x4 x6 x7 x8 x13 x87 x88 x89)) := by
 induction n with
 | zero => exact LN
 | succ n ih =>
  have h0 := @ih
  · intro x2 x4 x6 x7 x8 x13 x87 x88 x89; rw [impl_RunLine_l0_eq]; show Le ((c78S (c78 n)) x2 x4 x6 x7 x8 x13 x87 x88 x89) _; exact (LC (LC (LB (LF q51) fun _ => (LC (LF LR) (LC (LF (LF h0)) LR))) LR) (LC (LC (LB q60 fun _ => (LC (LF LR) (LF LR))) (LC (LC (LC (LC (LC (LC (LC (LC (LF LR) LR) (LF LR)) LR) (LF LR)) LR) (LC (LC LN (LC (LC (LC (LB q83 fun _ => q82) (LF LR)) (LF LR)) LR)) LR)) (LC (LC LN (LC (LC (LC (LB q83 fun _ => q82) (LF LR)) (LF LR)) LR)) LR)) LR)) LR))
noncomputable def k84 := (c78 1000000)
theorem q84 {x2 x4 x6 x7 x8 x13 x87 x88 x89} : Le (k84 x2 x4 x6 x7 x8 x13 x87 x88 x89) (impl_RunLine_l0 x2 x4 x6 x7 x8 x13 x87 x88 x89) := (c78L 1000000)
noncomputable def k85 (x2 : ZC) (x4 : ZC) (x6 : ZC) (x7 : (List ByteArray)) (x8 : (List ByteArray)) : Option (ZC × ByteArray) :=
 cond (inside 0 x7.length)
 (cond ((x7.getD 0 ByteArray.empty).toList == (⟨#[103, 114, 97, 112, 104]⟩ : ByteArray).toList)
 ((fk (⟨#[32]⟩ : ByteArray) fun v47 => k35 x8 v47).bind fun r5 => (k59 r5).bind fun r6 => cond (r6.2)
 (cond (decide (0 ≤ r6.1.1) && decide (r6.1.1 ≤ (room : Int)))
 ((k48 r6.1).bind fun r7 => fk ((r6.1, List.replicate r6.1.1.toNat (0 : Int), 0), r7) some)
 (none))
 (fk (x6, (⟨#[117, 110, 107, 110, 111, 119, 110, 32, 99, 111, 109, 109, 97, 110, 100]⟩ : ByteArray)) some))
 (fk (x8.length : Int) fun v48 => k84 x2 x4 x6 x7 x8 ([] : List Int) x8 v48 0))
 (none)
theorem q85 {x2 x4 x6 x7 x8} : Le (k85 x2 x4 x6 x7 x8) (impl_RunLine_c11 x2 x4 x6 x7 x8) := by
 rw [impl_RunLine_c11_eq]; unfold k85; exact (LC (LC (LB (LF q35) fun _ => (LB q59 fun _ => (LC (LC (LB q48 fun _ => (LF LR)) LR) (LF LR)))) (LF q84)) LR)
abbrev c80T := (Int → (List Int) → Int → Int → Option Int)
noncomputable def c80S (ih : c80T) : c80T := (fun x3 x6 x7 x8 => cond (decide (x8 < x7))
 (cond (inside x8 x6.length)
 (fk (w64 (x3 + (x6.getD x8.toNat 0))) fun v49 => fk (w64 (x8 + 1)) fun v50 => ih v49 x6 x7 v50)
 (none))
 (some x3))
noncomputable def c80 (n : Nat) : c80T := Nat.rec (motive := fun _ => c80T) (fun _ _ _ _ => none) (fun _ ih => c80S ih) n
theorem c80L (n : Nat) : (∀ {x3 x6 x7 x8}, Le ((c80 n) x3 x6 x7 x8) (impl_sumOf_l0 x3 x6 x7 x8)) := by
 induction n with
 | zero => exact LN
 | succ n ih =>
  have h0 := @ih
  · intro x3 x6 x7 x8; rw [impl_sumOf_l0_eq]; show Le ((c80S (c80 n)) x3 x6 x7 x8) _; exact (LC (LC (LF (LF h0)) LR) LR)
noncomputable def k86 := (c80 1000000)
theorem q86 {x3 x6 x7 x8} : Le (k86 x3 x6 x7 x8) (impl_sumOf_l0 x3 x6 x7 x8) := (c80L 1000000)
noncomputable def k87 (a0 : (List Int)) : Option Int :=
 fk (a0.length : Int) fun v51 => k86 0 a0 v51 0
theorem q87 {a0} : Le (k87 a0) (impl_sumOf a0) := by
 rw [impl_sumOf_eq]; unfold k87; exact (LF q86)
noncomputable def k88 (a0 : (List Int)) : Option Int :=
 (k87 a0).bind fun r1 => some r1
theorem q88 {a0} : Le (k88 a0) (impl_DegreeOf a0) := by
 rw [impl_DegreeOf_eq]; unfold k88; exact (LB q87 fun _ => LR)
abbrev c83T := ((List Int) → Int → Int → Option Bool)
noncomputable def c83S (ih : c83T) : c83T := (fun x5 x6 x7 => cond (decide (x7 < x6))
 (cond (inside x7 x5.length)
 (cond (decide (x5.getD x7.toNat 0 < 0))
 (some false)
 (fk (w64 (x7 + 1)) fun v52 => ih x5 x6 v52))
 (none))
 (some true))
noncomputable def c83 (n : Nat) : c83T := Nat.rec (motive := fun _ => c83T) (fun _ _ _ => none) (fun _ ih => c83S ih) n
theorem c83L (n : Nat) : (∀ {x5 x6 x7}, Le ((c83 n) x5 x6 x7) (impl_IsEffective_l0 x5 x6 x7)) := by
 induction n with
 | zero => exact LN
 | succ n ih =>
  have h0 := @ih
  · intro x5 x6 x7; rw [impl_IsEffective_l0_eq]; show Le ((c83S (c83 n)) x5 x6 x7) _; exact (LC (LC (LC LR (LF h0)) LR) LR)
noncomputable def k89 := (c83 1000000)
theorem q89 {x5 x6 x7} : Le (k89 x5 x6 x7) (impl_IsEffective_l0 x5 x6 x7) := (c83L 1000000)
noncomputable def k90 (a0 : (List Int)) : Option Bool :=
 fk (a0.length : Int) fun v53 => k89 a0 v53 0
theorem q90 {a0} : Le (k90 a0) (impl_IsEffective a0) := by
 rw [impl_IsEffective_eq]; unfold k90; exact (LF q89)
abbrev c85T := ((List Int) → Int → Int → ZS → Int → Int → Option (List Int))
noncomputable def c85S (ih : c85T) : c85T := (fun x1 x2 x3 x11 x12 x13 => cond (decide (x13 < x12))
 (cond (inside x13 x11.length)
 (cond ((x2 : Int) == ((x11.getD x13.toNat (0, 0)).1))
 (cond (inside x2 x1.length)
 (cond (inside x2 x1.length)
 (cond (inside ((x11.getD x13.toNat (0, 0)).2) (x1.set x2.toNat (w64 ((x1.getD x2.toNat 0) - x3))).length)
 (cond (inside ((x11.getD x13.toNat (0, 0)).2) (x1.set x2.toNat (w64 ((x1.getD x2.toNat 0) - x3))).length)
 (fk ((x1.set x2.toNat (w64 ((x1.getD x2.toNat 0) - x3))).set (((x11.getD x13.toNat (0, 0)).2).toNat) (w64 (((x1.set x2.toNat (w64 ((x1.getD x2.toNat 0) - x3))).getD (((x11.getD x13.toNat (0, 0)).2).toNat) 0) + x3))) fun v54 => fk (w64 (x13 + 1)) fun v55 => ih v54 x2 x3 x11 x12 v55)
 (none))
 (none))
 (none))
 (none))
 (cond ((x2 : Int) == ((x11.getD x13.toNat (0, 0)).2))
 (cond (inside x2 x1.length)
 (cond (inside x2 x1.length)
 (cond (inside ((x11.getD x13.toNat (0, 0)).1) (x1.set x2.toNat (w64 ((x1.getD x2.toNat 0) - x3))).length)
 (cond (inside ((x11.getD x13.toNat (0, 0)).1) (x1.set x2.toNat (w64 ((x1.getD x2.toNat 0) - x3))).length)
 (fk ((x1.set x2.toNat (w64 ((x1.getD x2.toNat 0) - x3))).set (((x11.getD x13.toNat (0, 0)).1).toNat) (w64 (((x1.set x2.toNat (w64 ((x1.getD x2.toNat 0) - x3))).getD (((x11.getD x13.toNat (0, 0)).1).toNat) 0) + x3))) fun v56 => fk (w64 (x13 + 1)) fun v57 => ih v56 x2 x3 x11 x12 v57)
 (none))
 (none))
 (none))
 (none))
 (fk (w64 (x13 + 1)) fun v58 => ih x1 x2 x3 x11 x12 v58)))
 (none))
 (some x1))
noncomputable def c85 (n : Nat) : c85T := Nat.rec (motive := fun _ => c85T) (fun _ _ _ _ _ _ => none) (fun _ ih => c85S ih) n
theorem c85L (n : Nat) : (∀ {x1 x2 x3 x11 x12 x13}, Le ((c85 n) x1 x2 x3 x11 x12 x13) (impl_fire_l0 x1 x2 x3 x11 x12 x13)) := by
 induction n with
 | zero => exact LN
 | succ n ih =>
  have h0 := @ih
  · intro x1 x2 x3 x11 x12 x13; rw [impl_fire_l0_eq]; show Le ((c85S (c85 n)) x1 x2 x3 x11 x12 x13) _; exact (LC (LC (LC (LC (LC (LC (LC (LF (LF h0)) LR) LR) LR) LR) (LC (LC (LC (LC (LC (LF (LF h0)) LR) LR) LR) LR) (LF h0))) LR) LR)
noncomputable def k91 := (c85 1000000)
theorem q91 {x1 x2 x3 x11 x12 x13} : Le (k91 x1 x2 x3 x11 x12 x13) (impl_fire_l0 x1 x2 x3 x11 x12 x13) := (c85L 1000000)
noncomputable def k92 (a0 : ZG) (a1 : (List Int)) (a2 : Int) (a3 : Int) : Option (List Int) :=
 fk (a0.2.length : Int) fun v59 => k91 a1 a2 a3 a0.2 v59 0
theorem q92 {a0 a1 a2 a3} : Le (k92 a0 a1 a2 a3) (impl_fire a0 a1 a2 a3) := by
 rw [impl_fire_eq]; unfold k92; exact (LF q91)
noncomputable def k93 (a0 : (List (List Int))) : Option (List (List Int)) := Lb.sortRowsK a0
theorem q93 {a0} : Le (k93 a0) (slices_SortFunc_int_int__Compare_int_int a0) := by rw [slices_SortFunc_int_int__Compare_int_int_eq]; exact Lb.sortRowsK_le _
abbrev c88T := (ZG → (List (List Int)) → Int → (List (ByteArray × Int)) → Option (List (List Int))) × (ZG → (List (List Int)) → Int → Int → (List (ByteArray × Int)) → Option (List (List Int))) × (ZG → (List (List Int)) → Int → Int → (List Int) → (List (ByteArray × Int)) → Int → Int → Option (List (List Int)))
noncomputable def c88S (ih : c88T) : c88T := (fun x2 x8 x10 x32 => cond (decide (x10 < (x8.length : Int)))
 (ih.2.1 x2 x8 x10 1 x32)
 ((k93 x8).bind fun r9 => some r9),
 fun x2 x8 x10 x11 x32 => cond (decide (x2.1 < 0))
 (none)
 (cond (decide (x11 < w64 ((w64 (1 * 2 ^ (min x2.1.toNat 64))) - 1)))
 (cond (inside x10 x8.length)
 ((fk (x8.getD x10.toNat ([] : List Int)) fun v60 => k61 v60).bind fun r4 => fk (r4.length : Int) fun v61 => ih.2.2 x2 x8 x10 x11 r4 x32 v61 0)
 (none))
 (fk (w64 (x10 + 1)) fun v62 => ih.1 x2 x8 v62 x32)),
 fun x2 x8 x10 x11 x12 x32 x56 x57 => cond (decide (x57 < x56))
 (cond (decide (x57 < 0))
 (none)
 ((fk (bits .and .i64 (Int.fdiv x11 (2 ^ (min x57.toNat 64))) 1) fun v63 => k92 x2 x12 x57 v63).bind fun r5 => fk (w64 (x57 + 1)) fun v64 => ih.2.2 x2 x8 x10 x11 r5 x32 x56 v64))
 ((k90 x12).bind fun r6 => cond (r6)
 ((k37 x12).bind fun r7 => cond (((mget x32 r7) : Int) == 0)
 ((k37 x12).bind fun r8 => cond (decide (x8.length + ([x12] : List (List Int)).length ≤ room))
 (fk (x8 ++ ([x12] : List (List Int))) fun v65 => fk (w64 (x11 + 1)) fun v66 => fk (mput x32 r8 1) fun v67 => ih.2.1 x2 v65 x10 v66 v67)
 (none))
 (fk (w64 (x11 + 1)) fun v68 => ih.2.1 x2 x8 x10 v68 x32))
 (fk (w64 (x11 + 1)) fun v69 => ih.2.1 x2 x8 x10 v69 x32)))
noncomputable def c88 (n : Nat) : c88T := Nat.rec (motive := fun _ => c88T) (fun _ _ _ _ => none, fun _ _ _ _ _ => none, fun _ _ _ _ _ _ _ _ => none) (fun _ ih => c88S ih) n
theorem c88L (n : Nat) : (∀ {x2 x8 x10 x32}, Le ((c88 n).1 x2 x8 x10 x32) (impl_effectiveIn_l0 x2 x8 x10 x32)) ∧ (∀ {x2 x8 x10 x11 x32}, Le ((c88 n).2.1 x2 x8 x10 x11 x32) (impl_effectiveIn_l2 x2 x8 x10 x11 x32)) ∧ (∀ {x2 x8 x10 x11 x12 x32 x56 x57}, Le ((c88 n).2.2 x2 x8 x10 x11 x12 x32 x56 x57) (impl_effectiveIn_l4 x2 x8 x10 x11 x12 x32 x56 x57)) := by
 induction n with
 | zero => exact ⟨LN, LN, LN⟩
 | succ n ih =>
  obtain ⟨h0, h1, h2⟩ := ih
  refine ⟨?_, ?_, ?_⟩
  · intro x2 x8 x10 x32; rw [impl_effectiveIn_l0_eq]; show Le ((c88S (c88 n)).1 x2 x8 x10 x32) _; exact (LC h1 (LB q93 fun _ => LR))
  · intro x2 x8 x10 x11 x32; rw [impl_effectiveIn_l2_eq]; show Le ((c88S (c88 n)).2.1 x2 x8 x10 x11 x32) _; exact (LC LR (LC (LC (LB (LF q61) fun _ => (LF h2)) LR) (LF h0)))
  · intro x2 x8 x10 x11 x12 x32 x56 x57; rw [impl_effectiveIn_l4_eq]; show Le ((c88S (c88 n)).2.2 x2 x8 x10 x11 x12 x32 x56 x57) _; exact (LC (LC LR (LB (LF q92) fun _ => (LF h2))) (LB q90 fun _ => (LC (LB q37 fun _ => (LC (LB q37 fun _ => (LC (LF (LF (LF h1))) LR)) (LF h1))) (LF h1))))
noncomputable def k94 := (c88 1000000).1
theorem q94 {x2 x8 x10 x32} : Le (k94 x2 x8 x10 x32) (impl_effectiveIn_l0 x2 x8 x10 x32) := (c88L 1000000).1
abbrev c89T := (Int → (List Int) → Int → Int → Option Int)
noncomputable def c89S (ih : c89T) : c89T := (fun x1 x7 x8 x9 => cond (decide (x9 < x8))
 (cond (inside x9 x7.length)
 (cond ((x9 : Int) != x1)
 (cond (decide (x7.getD x9.toNat 0 < 0))
 (some x9)
 (fk (w64 (x9 + 1)) fun v70 => ih x1 x7 x8 v70))
 (fk (w64 (x9 + 1)) fun v71 => ih x1 x7 x8 v71))
 (none))
 (some (-1)))
noncomputable def c89 (n : Nat) : c89T := Nat.rec (motive := fun _ => c89T) (fun _ _ _ _ => none) (fun _ ih => c89S ih) n
theorem c89L (n : Nat) : (∀ {x1 x7 x8 x9}, Le ((c89 n) x1 x7 x8 x9) (impl_inDebt_l0 x1 x7 x8 x9)) := by
 induction n with
 | zero => exact LN
 | succ n ih =>
  have h0 := @ih
  · intro x1 x7 x8 x9; rw [impl_inDebt_l0_eq]; show Le ((c89S (c89 n)) x1 x7 x8 x9) _; exact (LC (LC (LC (LC LR (LF h0)) (LF h0)) LR) LR)
noncomputable def k97 := (c89 1000000)
theorem q97 {x1 x7 x8 x9} : Le (k97 x1 x7 x8 x9) (impl_inDebt_l0 x1 x7 x8 x9) := (c89L 1000000)
noncomputable def k98 (a0 : (List Int)) (a1 : Int) : Option Int :=
 fk (a0.length : Int) fun v72 => k97 a1 a0 v72 0
theorem q98 {a0 a1} : Le (k98 a0 a1) (impl_inDebt a0 a1) := by
 rw [impl_inDebt_eq]; unfold k98; exact (LF q97)
abbrev c91T := ((List Int) → ZG → (List Int) → Option (List Int)) × ((List Int) → ZG → (List Int) → Int → Int → Option (List Int)) × ((List Int) → ZG → (List Int) → Int → Int → Int → Int → Int → Option (List Int))
noncomputable def c91S (ih : c91T) : c91T := (fun x1 x3 x7 => ih.2.1 x1 x3 x7 (-1) 0,
 fun x1 x3 x7 x8 x9 => cond (decide (x9 < x3.1))
 (cond (decide (x8 < 0))
 (fk (x7.length : Int) fun v73 => ih.2.2 x1 x3 x7 x8 x9 0 v73 0)
 (cond (decide (x8 < 0))
 (some x7)
 (cond (decide (x7.length + ([x8] : List Int).length ≤ room))
 (fk (x7 ++ ([x8] : List Int)) fun v74 => ih.1 x1 x3 v74)
 (none))))
 (cond (decide (x8 < 0))
 (some x7)
 (cond (decide (x7.length + ([x8] : List Int).length ≤ room))
 (fk (x7 ++ ([x8] : List Int)) fun v75 => ih.1 x1 x3 v75)
 (none))),
 fun x1 x3 x7 x8 x9 x10 x26 x27 => cond (decide (x27 < x26))
 (cond (inside x27 x7.length)
 ((fk (x7.getD x27.toNat 0) fun v76 => k23 x3 x9 v76).bind fun r1 => fk (w64 (x10 + r1)) fun v77 => fk (w64 (x27 + 1)) fun v78 => ih.2.2 x1 x3 x7 x8 x9 v77 x26 v78)
 (none))
 ((k71 x7 x9).bind fun r2 => cond (!r2)
 (cond (inside x9 x1.length)
 (cond (decide (x1.getD x9.toNat 0 < x10))
 (fk (w64 (x9 + 1)) fun v79 => ih.2.1 x1 x3 x7 x9 v79)
 (fk (w64 (x9 + 1)) fun v80 => ih.2.1 x1 x3 x7 x8 v80))
 (none))
 (fk (w64 (x9 + 1)) fun v81 => ih.2.1 x1 x3 x7 x8 v81)))
noncomputable def c91 (n : Nat) : c91T := Nat.rec (motive := fun _ => c91T) (fun _ _ _ => none, fun _ _ _ _ _ => none, fun _ _ _ _ _ _ _ _ => none) (fun _ ih => c91S ih) n
theorem c91L (n : Nat) : (∀ {x1 x3 x7}, Le ((c91 n).1 x1 x3 x7) (impl_burn_l0 x1 x3 x7)) ∧ (∀ {x1 x3 x7 x8 x9}, Le ((c91 n).2.1 x1 x3 x7 x8 x9) (impl_burn_l2 x1 x3 x7 x8 x9)) ∧ (∀ {x1 x3 x7 x8 x9 x10 x26 x27}, Le ((c91 n).2.2 x1 x3 x7 x8 x9 x10 x26 x27) (impl_burn_l4 x1 x3 x7 x8 x9 x10 x26 x27)) := by
 induction n with
 | zero => exact ⟨LN, LN, LN⟩
 | succ n ih =>
  obtain ⟨h0, h1, h2⟩ := ih
  refine ⟨?_, ?_, ?_⟩
  · intro x1 x3 x7; rw [impl_burn_l0_eq]; show Le ((c91S (c91 n)).1 x1 x3 x7) _; exact h1
  · intro x1 x3 x7 x8 x9; rw [impl_burn_l2_eq]; show Le ((c91S (c91 n)).2.1 x1 x3 x7 x8 x9) _; exact (LC (LC (LF h2) (LC LR (LC (LF h0) LR))) (LC LR (LC (LF h0) LR)))
  · intro x1 x3 x7 x8 x9 x10 x26 x27; rw [impl_burn_l4_eq]; show Le ((c91S (c91 n)).2.2 x1 x3 x7 x8 x9 x10 x26 x27) _; exact (LC (LC (LB (LF q23) fun _ => (LF (LF h2))) LR) (LB q71 fun _ => (LC (LC (LC (LF h1) (LF h1)) LR) (LF h1))))
noncomputable def k99 := (c91 1000000).1
theorem q99 {x1 x3 x7} : Le (k99 x1 x3 x7) (impl_burn_l0 x1 x3 x7) := (c91L 1000000).1
noncomputable def k102 (a0 : ZG) (a1 : (List Int)) (a2 : Int) : Option (List Int) :=
 fk ([a2] : List Int) fun v82 => k99 a1 a0 v82
theorem q102 {a0 a1 a2} : Le (k102 a0 a1 a2) (impl_burn a0 a1 a2) := by
 rw [impl_burn_eq]; unfold k102; exact (LF q99)
abbrev c93T := (Int → ZG → (List Int) → (List Int) → Option ((List Int) × (List Int))) × (Int → ZG → (List Int) → (List Int) → (List Int) → Int → Int → Option ((List Int) × (List Int)))
noncomputable def c93S (ih : c93T) : c93T := (fun x2 x3 x8 x9 => (k102 x3 x8 x2).bind fun r6 => cond (((r6.length : Int) : Int) == x3.1)
 (fk (x8, x9) some)
 (fk (x9.length : Int) fun v83 => ih.2 x2 x3 x8 x9 r6 v83 0),
 fun x2 x3 x8 x9 x13 x65 x66 => cond (decide (x66 < x65))
 ((k71 x13 x66).bind fun r7 => cond (!r7)
 ((k92 x3 x8 x66 1).bind fun r8 => cond (inside x66 x9.length)
 (cond (inside x66 x9.length)
 (fk (x9.set x66.toNat (w64 ((x9.getD x66.toNat 0) + 1))) fun v84 => fk (w64 (x66 + 1)) fun v85 => ih.2 x2 x3 r8 v84 x13 x65 v85)
 (none))
 (none))
 (fk (w64 (x66 + 1)) fun v86 => ih.2 x2 x3 x8 x9 x13 x65 v86))
 (ih.1 x2 x3 x8 x9))
noncomputable def c93 (n : Nat) : c93T := Nat.rec (motive := fun _ => c93T) (fun _ _ _ _ => none, fun _ _ _ _ _ _ _ => none) (fun _ ih => c93S ih) n
theorem c93L (n : Nat) : (∀ {x2 x3 x8 x9}, Le ((c93 n).1 x2 x3 x8 x9) (impl_reduce_l2 x2 x3 x8 x9)) ∧ (∀ {x2 x3 x8 x9 x13 x65 x66}, Le ((c93 n).2 x2 x3 x8 x9 x13 x65 x66) (impl_reduce_l4 x2 x3 x8 x9 x13 x65 x66)) := by
 induction n with
 | zero => exact ⟨LN, LN⟩
 | succ n ih =>
  obtain ⟨h0, h1⟩ := ih
  refine ⟨?_, ?_⟩
  · intro x2 x3 x8 x9; rw [impl_reduce_l2_eq]; show Le ((c93S (c93 n)).1 x2 x3 x8 x9) _; exact (LB q102 fun _ => (LC (LF LR) (LF h1)))
  · intro x2 x3 x8 x9 x13 x65 x66; rw [impl_reduce_l4_eq]; show Le ((c93S (c93 n)).2 x2 x3 x8 x9 x13 x65 x66) _; exact (LC (LB q71 fun _ => (LC (LB q92 fun _ => (LC (LC (LF (LF h1)) LR) LR)) (LF h1))) h0)
noncomputable def k103 := (c93 1000000).1
theorem q103 {x2 x3 x8 x9} : Le (k103 x2 x3 x8 x9) (impl_reduce_l2 x2 x3 x8 x9) := (c93L 1000000).1
abbrev c94T := (Int → ZG → (List Int) → (List Int) → Int → Option ((List Int) × (List Int)))
noncomputable def c94S (ih : c94T) : c94T := (fun x2 x3 x8 x9 x10 => cond (decide (x10 ≥ 0))
 ((k25 x3 x10).bind fun r3 => cond (inside x10 x8.length)
 (cond (decide (r3 = 0))
 (none)
 ((fk (w64 (0 - (w64 (Int.tdiv (w64 ((w64 (r3 - 1)) - (x8.getD x10.toNat 0))) r3)))) fun v87 => k92 x3 x8 x10 v87).bind fun r4 => cond (inside x10 x9.length)
 (cond (inside x10 x9.length)
 ((k98 r4 x2).bind fun r5 => fk (x9.set x10.toNat (w64 ((x9.getD x10.toNat 0) - (w64 (Int.tdiv (w64 ((w64 (r3 - 1)) - (x8.getD x10.toNat 0))) r3))))) fun v88 => ih x2 x3 r4 v88 r5)
 (none))
 (none)))
 (none))
 (k103 x2 x3 x8 x9))
noncomputable def c94 (n : Nat) : c94T := Nat.rec (motive := fun _ => c94T) (fun _ _ _ _ _ => none) (fun _ ih => c94S ih) n
theorem c94L (n : Nat) : (∀ {x2 x3 x8 x9 x10}, Le ((c94 n) x2 x3 x8 x9 x10) (impl_reduce_l0 x2 x3 x8 x9 x10)) := by
 induction n with
 | zero => exact LN
 | succ n ih =>
  have h0 := @ih
  · intro x2 x3 x8 x9 x10; rw [impl_reduce_l0_eq]; show Le ((c94S (c94 n)) x2 x3 x8 x9 x10) _; exact (LC (LB q25 fun _ => (LC (LC LR (LB (LF q92) fun _ => (LC (LC (LB q98 fun _ => (LF h0)) LR) LR))) LR)) q103)
noncomputable def k105 := (c94 1000000)
theorem q105 {x2 x3 x8 x9 x10} : Le (k105 x2 x3 x8 x9 x10) (impl_reduce_l0 x2 x3 x8 x9 x10) := (c94L 1000000)
noncomputable def k106 (a0 : ZG) (a1 : (List Int)) (a2 : Int) : Option ((List Int) × (List Int)) :=
 (k61 a1).bind fun r1 => cond (decide (0 ≤ a0.1) && decide (a0.1 ≤ (room : Int)))
 ((k98 r1 a2).bind fun r2 => fk (List.replicate a0.1.toNat (0 : Int)) fun v89 => k105 a2 a0 r1 v89 r2)
 (none)
theorem q106 {a0 a1 a2} : Le (k106 a0 a1 a2) (impl_reduce a0 a1 a2) := by
 rw [impl_reduce_eq]; unfold k106; exact (LB q61 fun _ => (LC (LB q98 fun _ => (LF q105)) LR))
noncomputable def k107 (a0 : ZG) (a1 : (List Int)) : Option (List (List Int)) :=
 (k87 a1).bind fun r1 => (k106 a0 a1 0).bind fun r2 => cond (decide (r1 < 0))
 (fk ([] : List (List Int)) some)
 (cond (inside 0 r2.1.length)
 (cond (decide (r2.1.getD 0 0 < 0))
 (fk ([] : List (List Int)) some)
 ((k37 r2.1).bind fun r3 => fk ([r2.1] : List (List Int)) fun v90 => fk (mput ([] : List (ByteArray × Int)) r3 1) fun v91 => k94 a0 v90 0 v91))
 (none))
theorem q107 {a0 a1} : Le (k107 a0 a1) (impl_effectiveIn a0 a1) := by
 rw [impl_effectiveIn_eq]; unfold k107; exact (LB q87 fun _ => (LB q106 fun _ => (LC (LF LR) (LC (LC (LF LR) (LB q37 fun _ => (LF (LF q94)))) LR))))
noncomputable def k108 (a0 : ZG) (a1 : (List Int)) : Option ((List (List Int)) × Bool) :=
 (k60 a0 a1).bind fun r1 => cond (!r1)
 (fk (([] : List (List Int)), false) some)
 ((k88 a1).bind fun r2 => cond (decide (r2 > 7))
 (fk (([] : List (List Int)), false) some)
 ((k107 a0 a1).bind fun r3 => fk (r3, true) some))
theorem q108 {a0 a1} : Le (k108 a0 a1) (impl_EffectiveIn a0 a1) := by
 rw [impl_EffectiveIn_eq]; unfold k108; exact (LB q60 fun _ => (LC (LF LR) (LB q88 fun _ => (LC (LF LR) (LB q107 fun _ => (LF LR))))))
noncomputable def k109 (a0 : ByteArray) (a1 : Int) : Option ByteArray :=
 cond ((a1 : Int) == 0)
 (some (⟨#[]⟩ : ByteArray))
 (cond ((a1 : Int) == 1)
 (some a0)
 ((k33 a1).bind fun r1 => cond (decide (a0.size + r1.size ≤ 9223372036854775807))
 (fk (a0 ++ r1) some)
 (none)))
theorem q109 {a0 a1} : Le (k109 a0 a1) (impl_powerText a0 a1) := by
 rw [impl_powerText_eq]; unfold k109; exact (LC LR (LC LR (LB q33 fun _ => (LC (LF LR) LR))))
abbrev c99T := ((List ByteArray) → (List (List Int)) → Int → Int → Option ByteArray) × ((List ByteArray) → Int → (List (List Int)) → Int → Int → (List Int) → Int → Int → Option ByteArray)
noncomputable def c99S (ih : c99T) : c99T := (fun x3 x9 x10 x11 => cond (decide (x11 < x10))
 (cond (inside x11 x9.length)
 (fk (x9.getD x11.toNat ([] : List Int)) fun v92 => fk ((x9.getD x11.toNat ([] : List Int)).length : Int) fun v93 => ih.2 x3 x11 x9 x10 x11 v92 v93 0)
 (none))
 (cond (((x3.length : Int) : Int) == 0)
 (fk (⟨#[48]⟩ : ByteArray) some)
 ((fk (⟨#[32, 43, 32]⟩ : ByteArray) fun v94 => k35 x3 v94).bind fun r5 => some r5)),
 fun x3 x4 x9 x10 x11 x16 x17 x18 => cond (decide (x18 < x17))
 (cond (inside x18 x16.length)
 (cond (((x16.getD x18.toNat 0) : Int) == 0)
 (fk (w64 (x18 + 1)) fun v95 => ih.2 x3 x4 x9 x10 x11 x16 x17 v95)
 ((fk (⟨#[120]⟩ : ByteArray) fun v96 => k109 v96 x4).bind fun r1 => (fk (⟨#[121]⟩ : ByteArray) fun v97 => k109 v97 x18).bind fun r2 => cond (decide (r1.size + r2.size ≤ 9223372036854775807))
 (cond (((x16.getD x18.toNat 0) : Int) == 1)
 (cond (!((r1 ++ r2).toList == (⟨#[]⟩ : ByteArray).toList))
 (cond (decide (x3.length + ([r1 ++ r2] : List ByteArray).length ≤ room))
 (fk (x3 ++ ([r1 ++ r2] : List ByteArray)) fun v98 => fk (w64 (x18 + 1)) fun v99 => ih.2 v98 x4 x9 x10 x11 x16 x17 v99)
 (none))
 ((fk (x16.getD x18.toNat 0) fun v0 => k33 v0).bind fun r3 => cond (decide (r3.size + (r1 ++ r2).size ≤ 9223372036854775807))
 (cond (decide (x3.length + ([r3 ++ (r1 ++ r2)] : List ByteArray).length ≤ room))
 (fk (x3 ++ ([r3 ++ (r1 ++ r2)] : List ByteArray)) fun v1 => fk (w64 (x18 + 1)) fun v2 => ih.2 v1 x4 x9 x10 x11 x16 x17 v2)
 (none))
 (none)))
 ((fk (x16.getD x18.toNat 0) fun v3 => k33 v3).bind fun r4 => cond (decide (r4.size + (r1 ++ r2).size ≤ 9223372036854775807))
 (cond (decide (x3.length + ([r4 ++ (r1 ++ r2)] : List ByteArray).length ≤ room))
 (fk (x3 ++ ([r4 ++ (r1 ++ r2)] : List ByteArray)) fun v4 => fk (w64 (x18 + 1)) fun v5 => ih.2 v4 x4 x9 x10 x11 x16 x17 v5)
 (none))
 (none)))
 (none)))
 (none))
 (fk (w64 (x11 + 1)) fun v6 => ih.1 x3 x9 x10 v6))
noncomputable def c99 (n : Nat) : c99T := Nat.rec (motive := fun _ => c99T) (fun _ _ _ _ => none, fun _ _ _ _ _ _ _ _ => none) (fun _ ih => c99S ih) n
theorem c99L (n : Nat) : (∀ {x3 x9 x10 x11}, Le ((c99 n).1 x3 x9 x10 x11) (impl_FormatPolynomial_l0 x3 x9 x10 x11)) ∧ (∀ {x3 x4 x9 x10 x11 x16 x17 x18}, Le ((c99 n).2 x3 x4 x9 x10 x11 x16 x17 x18) (impl_FormatPolynomial_l2 x3 x4 x9 x10 x11 x16 x17 x18)) := by
 induction n with
 | zero => exact ⟨LN, LN⟩
 | succ n ih =>
  obtain ⟨h0, h1⟩ := ih
  refine ⟨?_, ?_⟩
  · intro x3 x9 x10 x11; rw [impl_FormatPolynomial_l0_eq]; show Le ((c99S (c99 n)).1 x3 x9 x10 x11) _; exact (LC (LC (LF (LF h1)) LR) (LC (LF LR) (LB (LF q35) fun _ => LR)))
  · intro x3 x4 x9 x10 x11 x16 x17 x18; rw [impl_FormatPolynomial_l2_eq]; show Le ((c99S (c99 n)).2 x3 x4 x9 x10 x11 x16 x17 x18) _; exact (LC (LC (LC (LF h1) (LB (LF q109) fun _ => (LB (LF q109) fun _ => (LC (LC (LC (LC (LF (LF h1)) LR) (LB (LF q33) fun _ => (LC (LC (LF (LF h1)) LR) LR))) (LB (LF q33) fun _ => (LC (LC (LF (LF h1)) LR) LR))) LR)))) LR) (LF h0))
noncomputable def k110 := (c99 1000000).1
theorem q110 {x3 x9 x10 x11} : Le (k110 x3 x9 x10 x11) (impl_FormatPolynomial_l0 x3 x9 x10 x11) := (c99L 1000000).1
noncomputable def k112 (a0 : (List (List Int))) : Option ByteArray :=
 fk ([] : List ByteArray) fun v7 => fk (a0.length : Int) fun v8 => k110 v7 a0 v8 0
theorem q112 {a0} : Le (k112 a0) (impl_FormatPolynomial a0) := by
 rw [impl_FormatPolynomial_eq]; unfold k112; exact (LF (LF q110))
abbrev c101T := (ZG → (List Int) → (List Int) → Int → Option ((List Int) × Bool))
noncomputable def c101S (ih : c101T) : c101T := (fun x2 x6 x8 x9 => (k38 x2).bind fun r4 => cond (decide (x9 ≤ w64 (2 * r4)))
 (cond (inside x9 x6.length)
 (cond (inside (w64 (x9 - 1)) x6.length)
 (cond (((x6.getD x9.toNat 0) : Int) == (x6.getD ((w64 (x9 - 1)).toNat) 0))
 (cond (decide (x8.length + ([x9] : List Int).length ≤ room))
 (fk (x8 ++ ([x9] : List Int)) fun v9 => fk (w64 (x9 + 1)) fun v10 => ih x2 x6 v9 v10)
 (none))
 (fk (w64 (x9 + 1)) fun v11 => ih x2 x6 x8 v11))
 (none))
 (none))
 (fk (x8, true) some))
noncomputable def c101 (n : Nat) : c101T := Nat.rec (motive := fun _ => c101T) (fun _ _ _ _ => none) (fun _ ih => c101S ih) n
theorem c101L (n : Nat) : (∀ {x2 x6 x8 x9}, Le ((c101 n) x2 x6 x8 x9) (impl_GapsAt_l0 x2 x6 x8 x9)) := by
 induction n with
 | zero => exact LN
 | succ n ih =>
  have h0 := @ih
  · intro x2 x6 x8 x9; rw [impl_GapsAt_l0_eq]; show Le ((c101S (c101 n)) x2 x6 x8 x9) _; exact (LB q38 fun _ => (LC (LC (LC (LC (LC (LF (LF h0)) LR) (LF h0)) LR) LR) (LF LR)))
noncomputable def k113 := (c101 1000000)
theorem q113 {x2 x6 x8 x9} : Le (k113 x2 x6 x8 x9) (impl_GapsAt_l0 x2 x6 x8 x9) := (c101L 1000000)
noncomputable def k114 (a0 : ZG) (a1 : Int) (a2 : Int) : Option (List Int) :=
 cond (decide (0 ≤ a0.1) && decide (a0.1 ≤ (room : Int)))
 (cond (inside a1 (List.replicate a0.1.toNat (0 : Int)).length)
 (fk ((List.replicate a0.1.toNat (0 : Int)).set a1.toNat a2) some)
 (none))
 (none)
theorem q114 {a0 a1 a2} : Le (k114 a0 a1 a2) (impl_oneAt a0 a1 a2) := by
 rw [impl_oneAt_eq]; unfold k114; exact (LC (LC (LF LR) LR) LR)
abbrev c103T := (Int → Int → Option (List (List Int))) × (Int → Int → (List (List Int)) → Int → Option (List (List Int))) × (Int → Int → (List (List Int)) → Int → (List (List Int)) → Int → Int → Option (List (List Int)))
noncomputable def c103S (ih : c103T) : c103T := (fun a0 a1 => cond ((a0 : Int) == 1)
 (fk ([([a1] : List Int)] : List (List Int)) some)
 (fk ([] : List (List Int)) fun v12 => ih.2.1 a0 a1 v12 0),
 fun x0 x1 x5 x6 => cond (decide (x6 ≤ x1))
 ((fk (w64 (x0 - 1)) fun v13 => fk (w64 (x1 - x6)) fun v14 => ih.1 v13 v14).bind fun r1 => fk (r1.length : Int) fun v15 => ih.2.2 x0 x1 x5 x6 r1 v15 0)
 (some x5),
 fun x0 x1 x5 x6 x24 x25 x26 => cond (decide (x26 < x25))
 (cond (inside x26 x24.length)
 (cond (decide (([x6] : List Int).length + (x24.getD x26.toNat ([] : List Int)).length ≤ room))
 (cond (decide (x5.length + ([([x6] : List Int) ++ (x24.getD x26.toNat ([] : List Int))] : List (List Int)).length ≤ room))
 (fk (x5 ++ ([([x6] : List Int) ++ (x24.getD x26.toNat ([] : List Int))] : List (List Int))) fun v16 => fk (w64 (x26 + 1)) fun v17 => ih.2.2 x0 x1 v16 x6 x24 x25 v17)
 (none))
 (none))
 (none))
 (fk (w64 (x6 + 1)) fun v18 => ih.2.1 x0 x1 x5 v18))
noncomputable def c103 (n : Nat) : c103T := Nat.rec (motive := fun _ => c103T) (fun _ _ => none, fun _ _ _ _ => none, fun _ _ _ _ _ _ _ => none) (fun _ ih => c103S ih) n
theorem c103L (n : Nat) : (∀ {a0 a1}, Le ((c103 n).1 a0 a1) (impl_effective a0 a1)) ∧ (∀ {x0 x1 x5 x6}, Le ((c103 n).2.1 x0 x1 x5 x6) (impl_effective_l0 x0 x1 x5 x6)) ∧ (∀ {x0 x1 x5 x6 x24 x25 x26}, Le ((c103 n).2.2 x0 x1 x5 x6 x24 x25 x26) (impl_effective_l2 x0 x1 x5 x6 x24 x25 x26)) := by
 induction n with
 | zero => exact ⟨LN, LN, LN⟩
 | succ n ih =>
  obtain ⟨h0, h1, h2⟩ := ih
  refine ⟨?_, ?_, ?_⟩
  · intro a0 a1; rw [impl_effective_eq]; show Le ((c103S (c103 n)).1 a0 a1) _; exact (LC (LF LR) (LF h1))
  · intro x0 x1 x5 x6; rw [impl_effective_l0_eq]; show Le ((c103S (c103 n)).2.1 x0 x1 x5 x6) _; exact (LC (LB (LF (LF h0)) fun _ => (LF h2)) LR)
  · intro x0 x1 x5 x6 x24 x25 x26; rw [impl_effective_l2_eq]; show Le ((c103S (c103 n)).2.2 x0 x1 x5 x6 x24 x25 x26) _; exact (LC (LC (LC (LC (LF (LF h2)) LR) LR) LR) (LF h1))
noncomputable def k115 := (c103 1000000).1
theorem q115 {a0 a1} : Le (k115 a0 a1) (impl_effective a0 a1) := (c103L 1000000).1
abbrev c104T := ((List Int) → (List Int) → Int → Int → Option Bool)
noncomputable def c104S (ih : c104T) : c104T := (fun x0 x7 x8 x9 => cond (decide (x9 < x8))
 (cond (inside x9 x7.length)
 (cond (inside x9 x0.length)
 (cond (decide (x0.getD x9.toNat 0 < x7.getD x9.toNat 0))
 (some false)
 (fk (w64 (x9 + 1)) fun v19 => ih x0 x7 x8 v19))
 (none))
 (none))
 (some true))
noncomputable def c104 (n : Nat) : c104T := Nat.rec (motive := fun _ => c104T) (fun _ _ _ _ => none) (fun _ ih => c104S ih) n
theorem c104L (n : Nat) : (∀ {x0 x7 x8 x9}, Le ((c104 n) x0 x7 x8 x9) (impl_covers_l0 x0 x7 x8 x9)) := by
 induction n with
 | zero => exact LN
 | succ n ih =>
  have h0 := @ih
  · intro x0 x7 x8 x9; rw [impl_covers_l0_eq]; show Le ((c104S (c104 n)) x0 x7 x8 x9) _; exact (LC (LC (LC (LC LR (LF h0)) LR) LR) LR)
noncomputable def k118 := (c104 1000000)
theorem q118 {x0 x7 x8 x9} : Le (k118 x0 x7 x8 x9) (impl_covers_l0 x0 x7 x8 x9) := (c104L 1000000)
noncomputable def k119 (a0 : (List Int)) (a1 : (List Int)) : Option Bool :=
 fk (a1.length : Int) fun v20 => k118 a0 a1 v20 0
theorem q119 {a0 a1} : Le (k119 a0 a1) (impl_covers a0 a1) := by
 rw [impl_covers_eq]; unfold k119; exact (LF q118)
noncomputable def k120 (a0 : (List Int)) (a1 : (List Int)) : Option Bool :=
 (k119 a0 a1).bind fun r1 => some r1
theorem q120 {a0 a1} : Le (k120 a0 a1) (impl_rank_1 a0 a1) := by
 rw [impl_rank_1_eq]; unfold k120; exact (LB q119 fun _ => LR)
abbrev c107T := ((List (List Int)) → (List Int) → Int → Int → Option Int)
noncomputable def c107S (ih : c107T) : c107T := (fun x0 x1 x7 x8 => cond (decide (x8 < x7))
 (cond (inside x8 x0.length)
 ((fk (x0.getD x8.toNat ([] : List Int)) fun v21 => k120 v21 x1).bind fun r1 => cond (r1)
 (some x8)
 (fk (w64 (x8 + 1)) fun v22 => ih x0 x1 x7 v22))
 (none))
 (some (-1)))
noncomputable def c107 (n : Nat) : c107T := Nat.rec (motive := fun _ => c107T) (fun _ _ _ _ => none) (fun _ ih => c107S ih) n
theorem c107L (n : Nat) : (∀ {x0 x1 x7 x8}, Le ((c107 n) x0 x1 x7 x8) (slices_IndexFunc_int_int__rank_1_l0 x0 x1 x7 x8)) := by
 induction n with
 | zero => exact LN
 | succ n ih =>
  have h0 := @ih
  · intro x0 x1 x7 x8; rw [slices_IndexFunc_int_int__rank_1_l0_eq]; show Le ((c107S (c107 n)) x0 x1 x7 x8) _; exact (LC (LC (LB (LF q120) fun _ => (LC LR (LF h0))) LR) LR)
noncomputable def k121 := (c107 1000000)
theorem q121 {x0 x1 x7 x8} : Le (k121 x0 x1 x7 x8) (slices_IndexFunc_int_int__rank_1_l0 x0 x1 x7 x8) := (c107L 1000000)
noncomputable def k122 (a0 : (List (List Int))) (a1 : (List Int)) : Option Int :=
 fk (a0.length : Int) fun v23 => k121 a0 a1 v23 0
theorem q122 {a0 a1} : Le (k122 a0 a1) (slices_IndexFunc_int_int__rank_1 a0 a1) := by
 rw [slices_IndexFunc_int_int__rank_1_eq]; unfold k122; exact (LF q121)
noncomputable def k123 (a0 : (List (List Int))) (a1 : (List Int)) : Option Bool :=
 (k122 a0 a1).bind fun r1 => fk (decide (r1 ≥ 0)) some
theorem q123 {a0 a1} : Le (k123 a0 a1) (slices_ContainsFunc_int_int__rank_1 a0 a1) := by
 rw [slices_ContainsFunc_int_int__rank_1_eq]; unfold k123; exact (LB q122 fun _ => (LF LR))
abbrev c110T := (ZG → (List (List Int)) → Int → Option (Int × (List Int))) × (ZG → (List (List Int)) → Int → (List (List Int)) → Int → Int → Option (Int × (List Int)))
noncomputable def c110S (ih : c110T) : c110T := (fun x2 x6 x7 => (k115 x2.1 x7).bind fun r2 => fk (r2.length : Int) fun v24 => ih.2 x2 x6 x7 r2 v24 0,
 fun x2 x6 x7 x18 x19 x20 => cond (decide (x20 < x19))
 (cond (inside x20 x18.length)
 ((fk (x18.getD x20.toNat ([] : List Int)) fun v25 => k123 x6 v25).bind fun r3 => cond (!r3)
 (fk (w64 (x7 - 1), x18.getD x20.toNat ([] : List Int)) some)
 (fk (w64 (x20 + 1)) fun v26 => ih.2 x2 x6 x7 x18 x19 v26))
 (none))
 (fk (w64 (x7 + 1)) fun v27 => ih.1 x2 x6 v27))
noncomputable def c110 (n : Nat) : c110T := Nat.rec (motive := fun _ => c110T) (fun _ _ _ => none, fun _ _ _ _ _ _ => none) (fun _ ih => c110S ih) n
theorem c110L (n : Nat) : (∀ {x2 x6 x7}, Le ((c110 n).1 x2 x6 x7) (impl_rank_l0 x2 x6 x7)) ∧ (∀ {x2 x6 x7 x18 x19 x20}, Le ((c110 n).2 x2 x6 x7 x18 x19 x20) (impl_rank_l2 x2 x6 x7 x18 x19 x20)) := by
 induction n with
 | zero => exact ⟨LN, LN⟩
 | succ n ih =>
  obtain ⟨h0, h1⟩ := ih
  refine ⟨?_, ?_⟩
  · intro x2 x6 x7; rw [impl_rank_l0_eq]; show Le ((c110S (c110 n)).1 x2 x6 x7) _; exact (LB q115 fun _ => (LF h1))
  · intro x2 x6 x7 x18 x19 x20; rw [impl_rank_l2_eq]; show Le ((c110S (c110 n)).2 x2 x6 x7 x18 x19 x20) _; exact (LC (LC (LB (LF q123) fun _ => (LC (LF LR) (LF h1))) LR) (LF h0))
noncomputable def k124 := (c110 1000000).1
theorem q124 {x2 x6 x7} : Le (k124 x2 x6 x7) (impl_rank_l0 x2 x6 x7) := (c110L 1000000).1
noncomputable def k126 (a0 : ZG) (a1 : (List Int)) : Option (Int × (List Int)) :=
 (k107 a0 a1).bind fun r1 => k124 a0 r1 0
theorem q126 {a0 a1} : Le (k126 a0 a1) (impl_rank a0 a1) := by
 rw [impl_rank_eq]; unfold k126; exact (LB q107 fun _ => q124)
abbrev c112T := (Int → ZG → (List Int) → Int → Option ((List Int) × Bool))
noncomputable def c112S (ih : c112T) : c112T := (fun x1 x2 x6 x7 => cond (decide (x7 ≤ 7))
 ((k114 x2 x1 x7).bind fun r2 => (k126 x2 r2).bind fun r3 => cond (decide (x6.length + ([r3.1] : List Int).length ≤ room))
 (fk (x6 ++ ([r3.1] : List Int)) fun v28 => fk (w64 (x7 + 1)) fun v29 => ih x1 x2 v28 v29)
 (none))
 (fk (x6, true) some))
noncomputable def c112 (n : Nat) : c112T := Nat.rec (motive := fun _ => c112T) (fun _ _ _ _ => none) (fun _ ih => c112S ih) n
theorem c112L (n : Nat) : (∀ {x1 x2 x6 x7}, Le ((c112 n) x1 x2 x6 x7) (impl_RanksAt_l0 x1 x2 x6 x7)) := by
 induction n with
 | zero => exact LN
 | succ n ih =>
  have h0 := @ih
  · intro x1 x2 x6 x7; rw [impl_RanksAt_l0_eq]; show Le ((c112S (c112 n)) x1 x2 x6 x7) _; exact (LC (LB q114 fun _ => (LB q126 fun _ => (LC (LF (LF h0)) LR))) (LF LR))
noncomputable def k127 := (c112 1000000)
theorem q127 {x1 x2 x6 x7} : Le (k127 x1 x2 x6 x7) (impl_RanksAt_l0 x1 x2 x6 x7) := (c112L 1000000)
noncomputable def k128 (a0 : ZG) (a1 : Int) : Option ((List Int) × Bool) :=
 (k29 a0 a1).bind fun r1 => cond (!r1)
 (fk (([] : List Int), false) some)
 (k127 a1 a0 ([] : List Int) 0)
theorem q128 {a0 a1} : Le (k128 a0 a1) (impl_RanksAt a0 a1) := by
 rw [impl_RanksAt_eq]; unfold k128; exact (LB q29 fun _ => (LC (LF LR) q127))
noncomputable def k129 (a0 : ZG) (a1 : Int) : Option ((List Int) × Bool) :=
 (k29 a0 a1).bind fun r1 => cond (!r1)
 (fk (([] : List Int), false) some)
 ((k38 a0).bind fun r2 => cond (decide (r2 > 3))
 (fk (([] : List Int), false) some)
 ((k128 a0 a1).bind fun r3 => k113 a0 r3.1 ([] : List Int) 1))
theorem q129 {a0 a1} : Le (k129 a0 a1) (impl_GapsAt a0 a1) := by
 rw [impl_GapsAt_eq]; unfold k129; exact (LB q29 fun _ => (LC (LF LR) (LB q38 fun _ => (LC (LF LR) (LB q128 fun _ => q113)))))
abbrev c115T := ((List Int) → (List Int) → Int → Int → Option (List Int))
noncomputable def c115S (ih : c115T) : c115T := (fun x1 x5 x10 x11 => cond (decide (x11 < x10))
 (cond (inside x11 x5.length)
 (cond (inside x11 x1.length)
 (cond (inside x11 x5.length)
 (fk (x5.set x11.toNat (w64 ((x5.getD x11.toNat 0) + (x1.getD x11.toNat 0)))) fun v30 => fk (w64 (x11 + 1)) fun v31 => ih x1 v30 x10 v31)
 (none))
 (none))
 (none))
 (some x5))
noncomputable def c115 (n : Nat) : c115T := Nat.rec (motive := fun _ => c115T) (fun _ _ _ _ => none) (fun _ ih => c115S ih) n
theorem c115L (n : Nat) : (∀ {x1 x5 x10 x11}, Le ((c115 n) x1 x5 x10 x11) (impl_plus_l0 x1 x5 x10 x11)) := by
 induction n with
 | zero => exact LN
 | succ n ih =>
  have h0 := @ih
  · intro x1 x5 x10 x11; rw [impl_plus_l0_eq]; show Le ((c115S (c115 n)) x1 x5 x10 x11) _; exact (LC (LC (LC (LC (LF (LF h0)) LR) LR) LR) LR)
noncomputable def k130 := (c115 1000000)
theorem q130 {x1 x5 x10 x11} : Le (k130 x1 x5 x10 x11) (impl_plus_l0 x1 x5 x10 x11) := (c115L 1000000)
noncomputable def k131 (a0 : (List Int)) (a1 : (List Int)) : Option (List Int) :=
 (k61 a0).bind fun r1 => fk (r1.length : Int) fun v32 => k130 a1 r1 v32 0
theorem q131 {a0 a1} : Le (k131 a0 a1) (impl_plus a0 a1) := by
 rw [impl_plus_eq]; unfold k131; exact (LB q61 fun _ => (LF q130))
noncomputable def k132 (a0 : ZG) (a1 : (List Int)) : Option Bool :=
 (k87 a1).bind fun r1 => cond (decide (r1 < 0))
 (some false)
 ((k106 a0 a1 0).bind fun r2 => cond (inside 0 r2.1.length)
 (fk (decide (r2.1.getD 0 0 ≥ 0)) some)
 (none))
theorem q132 {a0 a1} : Le (k132 a0 a1) (impl_winnable a0 a1) := by
 rw [impl_winnable_eq]; unfold k132; exact (LB q87 fun _ => (LC LR (LB q106 fun _ => (LC (LF LR) LR))))
abbrev c118T := ((List Int) → ZG → Int → Int → Option Bool)
noncomputable def c118S (ih : c118T) : c118T := (fun x1 x2 x7 x8 => cond (decide (x8 < x7))
 ((k114 x2 x8 (-1)).bind fun r1 => (k131 x1 r1).bind fun r2 => (k132 x2 r2).bind fun r3 => cond (!r3)
 (some false)
 (fk (w64 (x8 + 1)) fun v33 => ih x1 x2 x7 v33))
 (some true))
noncomputable def c118 (n : Nat) : c118T := Nat.rec (motive := fun _ => c118T) (fun _ _ _ _ => none) (fun _ ih => c118S ih) n
theorem c118L (n : Nat) : (∀ {x1 x2 x7 x8}, Le ((c118 n) x1 x2 x7 x8) (impl_reaches_l0 x1 x2 x7 x8)) := by
 induction n with
 | zero => exact LN
 | succ n ih =>
  have h0 := @ih
  · intro x1 x2 x7 x8; rw [impl_reaches_l0_eq]; show Le ((c118S (c118 n)) x1 x2 x7 x8) _; exact (LC (LB q114 fun _ => (LB q131 fun _ => (LB q132 fun _ => (LC LR (LF h0))))) LR)
noncomputable def k133 := (c118 1000000)
theorem q133 {x1 x2 x7 x8} : Le (k133 x1 x2 x7 x8) (impl_reaches_l0 x1 x2 x7 x8) := (c118L 1000000)
noncomputable def k134 (a0 : ZG) (a1 : (List Int)) : Option Bool :=
 fk (a1.length : Int) fun v34 => k133 a1 a0 v34 0
theorem q134 {a0 a1} : Le (k134 a0 a1) (impl_reaches a0 a1) := by
 rw [impl_reaches_eq]; unfold k134; exact (LF q133)
abbrev c120T := (ZG → Int → Option ((List Int) × Bool)) × (ZG → Int → (List (List Int)) → Int → Int → Option ((List Int) × Bool))
noncomputable def c120S (ih : c120T) : c120T := (fun x1 x4 => (k115 x1.1 x4).bind fun r3 => fk (r3.length : Int) fun v35 => ih.2 x1 x4 r3 v35 0,
 fun x1 x4 x25 x26 x27 => cond (decide (x27 < x26))
 (cond (inside x27 x25.length)
 ((fk (x25.getD x27.toNat ([] : List Int)) fun v36 => k134 x1 v36).bind fun r4 => cond (r4)
 (fk (x25.getD x27.toNat ([] : List Int), true) some)
 (fk (w64 (x27 + 1)) fun v37 => ih.2 x1 x4 x25 x26 v37))
 (none))
 (fk (w64 (x4 + 1)) fun v38 => ih.1 x1 v38))
noncomputable def c120 (n : Nat) : c120T := Nat.rec (motive := fun _ => c120T) (fun _ _ => none, fun _ _ _ _ _ => none) (fun _ ih => c120S ih) n
theorem c120L (n : Nat) : (∀ {x1 x4}, Le ((c120 n).1 x1 x4) (impl_GonalDivisor_l0 x1 x4)) ∧ (∀ {x1 x4 x25 x26 x27}, Le ((c120 n).2 x1 x4 x25 x26 x27) (impl_GonalDivisor_l2 x1 x4 x25 x26 x27)) := by
 induction n with
 | zero => exact ⟨LN, LN⟩
 | succ n ih =>
  obtain ⟨h0, h1⟩ := ih
  refine ⟨?_, ?_⟩
  · intro x1 x4; rw [impl_GonalDivisor_l0_eq]; show Le ((c120S (c120 n)).1 x1 x4) _; exact (LB q115 fun _ => (LF h1))
  · intro x1 x4 x25 x26 x27; rw [impl_GonalDivisor_l2_eq]; show Le ((c120S (c120 n)).2 x1 x4 x25 x26 x27) _; exact (LC (LC (LB (LF q134) fun _ => (LC (LF LR) (LF h1))) LR) (LF h0))
noncomputable def k135 := (c120 1000000).1
theorem q135 {x1 x4} : Le (k135 x1 x4) (impl_GonalDivisor_l0 x1 x4) := (c120L 1000000).1
noncomputable def k137 (a0 : ZG) : Option ((List Int) × Bool) :=
 (k21 a0).bind fun r1 => cond (!r1)
 (fk (([] : List Int), false) some)
 (cond (decide (a0.1 > 5))
 (fk (([] : List Int), false) some)
 ((k38 a0).bind fun r2 => cond (decide (r2 > 5))
 (fk (([] : List Int), false) some)
 (k135 a0 1)))
theorem q137 {a0} : Le (k137 a0) (impl_GonalDivisor a0) := by
 rw [impl_GonalDivisor_eq]; unfold k137; exact (LB q21 fun _ => (LC (LF LR) (LC (LF LR) (LB q38 fun _ => (LC (LF LR) q135)))))
noncomputable def k138 (a0 : ZG) : Option (Int × Bool) :=
 (k137 a0).bind fun r1 => cond (!r1.2)
 (fk (0, false) some)
 ((k88 r1.1).bind fun r2 => fk (r2, true) some)
theorem q138 {a0} : Le (k138 a0) (impl_GonalityOf a0) := by
 rw [impl_GonalityOf_eq]; unfold k138; exact (LB q137 fun _ => (LC (LF LR) (LB q88 fun _ => (LF LR))))
abbrev c123T := (Int → ZG → (List Int) → Int → Int → Option (List Int))
noncomputable def c123S (ih : c123T) : c123T := (fun x1 x2 x5 x15 x16 => cond (decide (x16 < x15))
 (cond ((x16 : Int) != x1)
 ((k25 x2 x16).bind fun r2 => cond (inside x16 x5.length)
 (fk (x5.set x16.toNat (w64 (r2 - 1))) fun v39 => fk (w64 (x16 + 1)) fun v40 => ih x1 x2 v39 x15 v40)
 (none))
 (fk (w64 (x16 + 1)) fun v41 => ih x1 x2 x5 x15 v41))
 (some x5))
noncomputable def c123 (n : Nat) : c123T := Nat.rec (motive := fun _ => c123T) (fun _ _ _ _ _ => none) (fun _ ih => c123S ih) n
theorem c123L (n : Nat) : (∀ {x1 x2 x5 x15 x16}, Le ((c123 n) x1 x2 x5 x15 x16) (impl_FullPile_l0 x1 x2 x5 x15 x16)) := by
 induction n with
 | zero => exact LN
 | succ n ih =>
  have h0 := @ih
  · intro x1 x2 x5 x15 x16; rw [impl_FullPile_l0_eq]; show Le ((c123S (c123 n)) x1 x2 x5 x15 x16) _; exact (LC (LC (LB q25 fun _ => (LC (LF (LF h0)) LR)) (LF h0)) LR)
noncomputable def k139 := (c123 1000000)
theorem q139 {x1 x2 x5 x15 x16} : Le (k139 x1 x2 x5 x15 x16) (impl_FullPile_l0 x1 x2 x5 x15 x16) := (c123L 1000000)
noncomputable def k140 (a0 : ZG) (a1 : Int) : Option (List Int) :=
 (k29 a0 a1).bind fun r1 => cond (!r1)
 (some ([] : List Int))
 (cond (decide (0 ≤ a0.1) && decide (a0.1 ≤ (room : Int)))
 (fk (List.replicate a0.1.toNat (0 : Int)) fun v42 => fk ((List.replicate a0.1.toNat (0 : Int)).length : Int) fun v43 => k139 a1 a0 v42 v43 0)
 (none))
theorem q140 {a0 a1} : Le (k140 a0 a1) (impl_FullPile a0 a1) := by
 rw [impl_FullPile_eq]; unfold k140; exact (LB q29 fun _ => (LC LR (LC (LF (LF q139)) LR)))
abbrev c125T := ((List Int) → Int → Int → Option (List Int))
noncomputable def c125S (ih : c125T) : c125T := (fun x3 x8 x9 => cond (decide (x9 < x8))
 (cond (inside x9 x3.length)
 (cond (inside x9 x3.length)
 (fk (x3.set x9.toNat (w64 (0 - (x3.getD x9.toNat 0)))) fun v44 => fk (w64 (x9 + 1)) fun v45 => ih v44 x8 v45)
 (none))
 (none))
 (some x3))
noncomputable def c125 (n : Nat) : c125T := Nat.rec (motive := fun _ => c125T) (fun _ _ _ => none) (fun _ ih => c125S ih) n
theorem c125L (n : Nat) : (∀ {x3 x8 x9}, Le ((c125 n) x3 x8 x9) (impl_NegateDivisor_l0 x3 x8 x9)) := by
 induction n with
 | zero => exact LN
 | succ n ih =>
  have h0 := @ih
  · intro x3 x8 x9; rw [impl_NegateDivisor_l0_eq]; show Le ((c125S (c125 n)) x3 x8 x9) _; exact (LC (LC (LC (LF (LF h0)) LR) LR) LR)
noncomputable def k141 := (c125 1000000)
theorem q141 {x3 x8 x9} : Le (k141 x3 x8 x9) (impl_NegateDivisor_l0 x3 x8 x9) := (c125L 1000000)
noncomputable def k142 (a0 : (List Int)) : Option (List Int) :=
 (k61 a0).bind fun r1 => fk (r1.length : Int) fun v46 => k141 r1 v46 0
theorem q142 {a0} : Le (k142 a0) (impl_NegateDivisor a0) := by
 rw [impl_NegateDivisor_eq]; unfold k142; exact (LB q61 fun _ => (LF q141))
noncomputable def k143 (a0 : ZG) (a1 : (List Int)) (a2 : Int) : Option (List Int) :=
 (k140 a0 a2).bind fun r1 => (k142 a1).bind fun r2 => (k131 r1 r2).bind fun r3 => (k106 a0 r3 a2).bind fun r4 => (k142 r4.1).bind fun r5 => (k131 r1 r5).bind fun r6 => cond (inside a2 r6.length)
 (fk (r6.set a2.toNat 0) some)
 (none)
theorem q143 {a0 a1 a2} : Le (k143 a0 a1 a2) (impl_recurrentOf a0 a1 a2) := by
 rw [impl_recurrentOf_eq]; unfold k143; exact (LB q140 fun _ => (LB q142 fun _ => (LB q131 fun _ => (LB q106 fun _ => (LB q142 fun _ => (LB q131 fun _ => (LC (LF LR) LR)))))))
noncomputable def k144 (a0 : ZG) (a1 : Int) : Option ((List Int) × Bool) :=
 (k29 a0 a1).bind fun r1 => cond (!r1)
 (fk (([] : List Int), false) some)
 (cond (decide (0 ≤ a0.1) && decide (a0.1 ≤ (room : Int)))
 ((fk (List.replicate a0.1.toNat (0 : Int)) fun v47 => k143 a0 v47 a1).bind fun r2 => fk (r2, true) some)
 (none))
theorem q144 {a0 a1} : Le (k144 a0 a1) (impl_IdentityPile a0 a1) := by
 rw [impl_IdentityPile_eq]; unfold k144; exact (LB q29 fun _ => (LC (LF LR) (LC (LB (LF q143) fun _ => (LF LR)) LR)))
noncomputable def k145 (a0 : ZG) (a1 : (List Int)) : Option (Int × Bool) :=
 (k60 a0 a1).bind fun r1 => cond (!r1)
 (fk (0, false) some)
 ((k88 a1).bind fun r2 => cond (decide (r2 > 7))
 (fk (0, false) some)
 ((k126 a0 a1).bind fun r3 => fk (r3.1, true) some))
theorem q145 {a0 a1} : Le (k145 a0 a1) (impl_RankOf a0 a1) := by
 rw [impl_RankOf_eq]; unfold k145; exact (LB q60 fun _ => (LC (LF LR) (LB q88 fun _ => (LC (LF LR) (LB q126 fun _ => (LF LR))))))
noncomputable def k146 (a0 : ZG) (a1 : (List Int)) : Option ((List Int) × Bool) :=
 (k60 a0 a1).bind fun r1 => cond (!r1)
 (fk (([] : List Int), false) some)
 ((k88 a1).bind fun r2 => cond (decide (r2 > 7))
 (fk (([] : List Int), false) some)
 ((k126 a0 a1).bind fun r3 => fk (r3.2, true) some))
theorem q146 {a0 a1} : Le (k146 a0 a1) (impl_RankWitness a0 a1) := by
 rw [impl_RankWitness_eq]; unfold k146; exact (LB q60 fun _ => (LC (LF LR) (LB q88 fun _ => (LC (LF LR) (LB q126 fun _ => (LF LR))))))
noncomputable def k147 (a0 : ZG) (a1 : (List Int)) : Option ByteArray :=
 (k145 a0 a1).bind fun r1 => cond (!r1.2)
 (some (⟨#[]⟩ : ByteArray))
 ((k146 a0 a1).bind fun r2 => (k33 r1.1).bind fun r3 => cond (decide ((⟨#[114, 97, 110, 107, 32]⟩ : ByteArray).size + r3.size ≤ 9223372036854775807))
 (cond (decide (((⟨#[114, 97, 110, 107, 32]⟩ : ByteArray) ++ r3).size + (⟨#[32, 98, 117, 116, 32, 110, 111, 116, 32]⟩ : ByteArray).size ≤ 9223372036854775807))
 ((k37 r2.1).bind fun r4 => cond (decide ((((⟨#[114, 97, 110, 107, 32]⟩ : ByteArray) ++ r3) ++ (⟨#[32, 98, 117, 116, 32, 110, 111, 116, 32]⟩ : ByteArray)).size + r4.size ≤ 9223372036854775807))
 (fk ((((⟨#[114, 97, 110, 107, 32]⟩ : ByteArray) ++ r3) ++ (⟨#[32, 98, 117, 116, 32, 110, 111, 116, 32]⟩ : ByteArray)) ++ r4) some)
 (none))
 (none))
 (none))
theorem q147 {a0 a1} : Le (k147 a0 a1) (impl_RankLine a0 a1) := by
 rw [impl_RankLine_eq]; unfold k147; exact (LB q145 fun _ => (LC LR (LB q146 fun _ => (LB q33 fun _ => (LC (LC (LB q37 fun _ => (LC (LF LR) LR)) LR) LR)))))
noncomputable def k148 (a0 : ZG) : Option Int :=
 (k31 a0).bind fun r1 => some r1
theorem q148 {a0} : Le (k148 a0) (impl_GroupOrder a0) := by
 rw [impl_GroupOrder_eq]; unfold k148; exact (LB q31 fun _ => LR)
abbrev c133T := ((List Int) → (List (List Int)) → (List (List Int)) → Int → Int → Option ((List (List Int)) × Bool))
noncomputable def c133S (ih : c133T) : c133T := (fun x6 x7 x24 x25 x26 => cond (decide (x26 < x25))
 (cond (inside x26 x24.length)
 ((fk (x24.getD x26.toNat ([] : List Int)) fun v48 => k142 v48).bind fun r5 => (k131 x6 r5).bind fun r6 => cond (decide (x7.length + ([r6] : List (List Int)).length ≤ room))
 (fk (x7 ++ ([r6] : List (List Int))) fun v49 => fk (w64 (x26 + 1)) fun v50 => ih x6 v49 x24 x25 v50)
 (none))
 (none))
 ((k93 x7).bind fun r7 => fk (r7, true) some))
noncomputable def c133 (n : Nat) : c133T := Nat.rec (motive := fun _ => c133T) (fun _ _ _ _ _ => none) (fun _ ih => c133S ih) n
theorem c133L (n : Nat) : (∀ {x6 x7 x24 x25 x26}, Le ((c133 n) x6 x7 x24 x25 x26) (impl_RecurrentPiles_l0 x6 x7 x24 x25 x26)) := by
 induction n with
 | zero => exact LN
 | succ n ih =>
  have h0 := @ih
  · intro x6 x7 x24 x25 x26; rw [impl_RecurrentPiles_l0_eq]; show Le ((c133S (c133 n)) x6 x7 x24 x25 x26) _; exact (LC (LC (LB (LF q142) fun _ => (LB q131 fun _ => (LC (LF (LF h0)) LR))) LR) (LB q93 fun _ => (LF LR)))
noncomputable def k149 := (c133 1000000)
theorem q149 {x6 x7 x24 x25 x26} : Le (k149 x6 x7 x24 x25 x26) (impl_RecurrentPiles_l0 x6 x7 x24 x25 x26) := (c133L 1000000)
noncomputable def k150 (a0 : (List Int)) (a1 : ZG) (a2 : Int) : Option Bool :=
 (k102 a1 a0 a2).bind fun r1 => fk (decide ((r1.length : Int) < a1.1)) some
theorem q150 {a0 a1 a2} : Le (k150 a0 a1 a2) (impl_reducedAt_1 a0 a1 a2) := by
 rw [impl_reducedAt_1_eq]; unfold k150; exact (LB q102 fun _ => (LF LR))
noncomputable def k151 (a0 : (List (List Int))) (a1 : ZG) (a2 : Int) : Option (List (List Int)) := Lb.delRows k150 a0 a1 a2
theorem q151 {a0 a1 a2} : Le (k151 a0 a1 a2) (slices_DeleteFunc_int_int__reducedAt_1 a0 a1 a2) := by rw [slices_DeleteFunc_int_int__reducedAt_1_eq]; exact Lb.delRows_le (fun _ _ _ => q150) _ _ _
abbrev c136T := (ZG → Int → (List (List Int)) → Int → Option (List (List Int))) × (ZG → Int → (List (List Int)) → Int → Int → (List (List Int)) → Int → Int → Option (List (List Int))) × (ZG → Int → (List (List Int)) → Int → Int → (List (List Int)) → Int → Int → Int → Nat → Option (List (List Int)))
noncomputable def c136S (ih : c136T) : c136T := (fun x2 x3 x5 x6 => cond (decide (x6 < x2.1))
 ((k25 x2 x6).bind fun r1 => cond ((x6 : Int) == x3)
 (fk ([] : List (List Int)) fun v51 => fk (x5.length : Int) fun v52 => ih.2.1 x2 x3 x5 x6 0 v51 v52 0)
 (fk (w64 (r1 - 1)) fun v53 => fk ([] : List (List Int)) fun v54 => fk (x5.length : Int) fun v55 => ih.2.1 x2 x3 x5 x6 v53 v54 v55 0))
 ((k151 x5 x2 x3).bind fun r3 => some r3),
 fun x2 x3 x5 x6 x7 x8 x27 x28 => cond (decide (x28 < x27))
 (cond (inside x28 x5.length)
 (ih.2.2 x2 x3 x5 x6 x7 x8 0 x27 x28 x28.toNat)
 (none))
 (fk (w64 (x6 + 1)) fun v56 => ih.1 x2 x3 x8 v56),
 fun x2 x3 x5 x6 x7 x8 x11 x27 x28 i10_0 => cond (decide (x11 ≤ x7))
 ((fk (x5.getD i10_0 ([] : List Int)) fun v57 => k61 v57).bind fun r2 => cond (decide (r2.length + ([x11] : List Int).length ≤ room))
 (cond (decide (x8.length + ([r2 ++ ([x11] : List Int)] : List (List Int)).length ≤ room))
 (fk (x8 ++ ([r2 ++ ([x11] : List Int)] : List (List Int))) fun v58 => fk (w64 (x11 + 1)) fun v59 => ih.2.2 x2 x3 x5 x6 x7 v58 v59 x27 x28 i10_0)
 (none))
 (none))
 (fk (w64 (x28 + 1)) fun v60 => ih.2.1 x2 x3 x5 x6 x7 x8 x27 v60))
noncomputable def c136 (n : Nat) : c136T := Nat.rec (motive := fun _ => c136T) (fun _ _ _ _ => none, fun _ _ _ _ _ _ _ _ => none, fun _ _ _ _ _ _ _ _ _ _ => none) (fun _ ih => c136S ih) n
theorem c136L (n : Nat) : (∀ {x2 x3 x5 x6}, Le ((c136 n).1 x2 x3 x5 x6) (impl_reducedAt_l0 x2 x3 x5 x6)) ∧ (∀ {x2 x3 x5 x6 x7 x8 x27 x28}, Le ((c136 n).2.1 x2 x3 x5 x6 x7 x8 x27 x28) (impl_reducedAt_l2 x2 x3 x5 x6 x7 x8 x27 x28)) ∧ (∀ {x2 x3 x5 x6 x7 x8 x11 x27 x28 i10_0}, Le ((c136 n).2.2 x2 x3 x5 x6 x7 x8 x11 x27 x28 i10_0) (impl_reducedAt_l4 x2 x3 x5 x6 x7 x8 x11 x27 x28 i10_0)) := by
 induction n with
 | zero => exact ⟨LN, LN, LN⟩
 | succ n ih =>
  obtain ⟨h0, h1, h2⟩ := ih
  refine ⟨?_, ?_, ?_⟩
  · intro x2 x3 x5 x6; rw [impl_reducedAt_l0_eq]; show Le ((c136S (c136 n)).1 x2 x3 x5 x6) _; exact (LC (LB q25 fun _ => (LC (LF (LF h1)) (LF (LF (LF h1))))) (LB q151 fun _ => LR))
  · intro x2 x3 x5 x6 x7 x8 x27 x28; rw [impl_reducedAt_l2_eq]; show Le ((c136S (c136 n)).2.1 x2 x3 x5 x6 x7 x8 x27 x28) _; exact (LC (LC h2 LR) (LF h0))
  · intro x2 x3 x5 x6 x7 x8 x11 x27 x28 i10_0; rw [impl_reducedAt_l4_eq]; show Le ((c136S (c136 n)).2.2 x2 x3 x5 x6 x7 x8 x11 x27 x28 i10_0) _; exact (LC (LB (LF q61) fun _ => (LC (LC (LF (LF h2)) LR) LR)) (LF h1))
noncomputable def k152 := (c136 1000000).1
theorem q152 {x2 x3 x5 x6} : Le (k152 x2 x3 x5 x6) (impl_reducedAt_l0 x2 x3 x5 x6) := (c136L 1000000).1
noncomputable def k155 (a0 : ZG) (a1 : Int) : Option (List (List Int)) :=
 fk ([([] : List Int)] : List (List Int)) fun v61 => k152 a0 a1 v61 0
theorem q155 {a0 a1} : Le (k155 a0 a1) (impl_reducedAt a0 a1) := by
 rw [impl_reducedAt_eq]; unfold k155; exact (LF q152)
noncomputable def k156 (a0 : ZG) (a1 : Int) : Option ((List (List Int)) × Bool) :=
 (k29 a0 a1).bind fun r1 => cond (!r1)
 (fk (([] : List (List Int)), false) some)
 ((k148 a0).bind fun r2 => cond (decide (r2 > 400))
 (fk (([] : List (List Int)), false) some)
 ((k140 a0 a1).bind fun r3 => (k155 a0 a1).bind fun r4 => fk ([] : List (List Int)) fun v62 => fk (r4.length : Int) fun v63 => k149 r3 v62 r4 v63 0))
theorem q156 {a0 a1} : Le (k156 a0 a1) (impl_RecurrentPiles a0 a1) := by
 rw [impl_RecurrentPiles_eq]; unfold k156; exact (LB q29 fun _ => (LC (LF LR) (LB q148 fun _ => (LC (LF LR) (LB q140 fun _ => (LB q155 fun _ => (LF (LF q149))))))))
abbrev c139T := (ZG → (List Int) → Int → Option (List Int))
noncomputable def c139S (ih : c139T) : c139T := (fun x1 x3 x4 => cond (decide (x4 < x1.1))
 ((k25 x1 x4).bind fun r2 => cond (decide (x3.length + ([w64 (r2 - 2)] : List Int).length ≤ room))
 (fk (x3 ++ ([w64 (r2 - 2)] : List Int)) fun v64 => fk (w64 (x4 + 1)) fun v65 => ih x1 v64 v65)
 (none))
 (some x3))
noncomputable def c139 (n : Nat) : c139T := Nat.rec (motive := fun _ => c139T) (fun _ _ _ => none) (fun _ ih => c139S ih) n
theorem c139L (n : Nat) : (∀ {x1 x3 x4}, Le ((c139 n) x1 x3 x4) (impl_CanonicalOf_l0 x1 x3 x4)) := by
 induction n with
 | zero => exact LN
 | succ n ih =>
  have h0 := @ih
  · intro x1 x3 x4; rw [impl_CanonicalOf_l0_eq]; show Le ((c139S (c139 n)) x1 x3 x4) _; exact (LC (LB q25 fun _ => (LC (LF (LF h0)) LR)) LR)
noncomputable def k157 := (c139 1000000)
theorem q157 {x1 x3 x4} : Le (k157 x1 x3 x4) (impl_CanonicalOf_l0 x1 x3 x4) := (c139L 1000000)
noncomputable def k158 (a0 : ZG) : Option (List Int) :=
 (k21 a0).bind fun r1 => cond (!r1)
 (some ([] : List Int))
 (k157 a0 ([] : List Int) 0)
theorem q158 {a0} : Le (k158 a0) (impl_CanonicalOf a0) := by
 rw [impl_CanonicalOf_eq]; unfold k158; exact (LB q21 fun _ => (LC LR q157))
noncomputable def k159 (a0 : ZG) (a1 : (List Int)) : Option ((List Int) × Bool) :=
 (k60 a0 a1).bind fun r1 => cond (!r1)
 (fk (([] : List Int), false) some)
 ((k158 a0).bind fun r2 => (k142 a1).bind fun r3 => (k131 r2 r3).bind fun r4 => fk (r4, true) some)
theorem q159 {a0 a1} : Le (k159 a0 a1) (impl_ResidualOf a0 a1) := by
 rw [impl_ResidualOf_eq]; unfold k159; exact (LB q60 fun _ => (LC (LF LR) (LB q158 fun _ => (LB q142 fun _ => (LB q131 fun _ => (LF LR))))))
noncomputable def k160 (a0 : ZG) (a1 : (List Int)) : Option (Int × (Int × Bool)) :=
 (k159 a0 a1).bind fun r1 => (k145 a0 a1).bind fun r2 => (k145 a0 r1.1).bind fun r3 => cond (!r2.2)
 (fk (0, 0, false) some)
 (cond (!r3.2)
 (fk (0, 0, false) some)
 (fk (r2.1, r3.1, true) some))
theorem q160 {a0 a1} : Le (k160 a0 a1) (impl_RiemannRoch a0 a1) := by
 rw [impl_RiemannRoch_eq]; unfold k160; exact (LB q159 fun _ => (LB q145 fun _ => (LB q145 fun _ => (LC (LF LR) (LC (LF LR) (LF LR))))))
noncomputable def k161 (a0 : ZG) (a1 : (List Int)) : Option ByteArray :=
 (k160 a0 a1).bind fun r1 => cond (!r1.2.2)
 (some (⟨#[]⟩ : ByteArray))
 ((k33 r1.1).bind fun r2 => cond (decide (r2.size + (⟨#[32, 45, 32]⟩ : ByteArray).size ≤ 9223372036854775807))
 ((k33 r1.2.1).bind fun r3 => cond (decide ((r2 ++ (⟨#[32, 45, 32]⟩ : ByteArray)).size + r3.size ≤ 9223372036854775807))
 (cond (decide (((r2 ++ (⟨#[32, 45, 32]⟩ : ByteArray)) ++ r3).size + (⟨#[32, 61, 32]⟩ : ByteArray).size ≤ 9223372036854775807))
 ((k88 a1).bind fun r4 => (k33 r4).bind fun r5 => cond (decide ((((r2 ++ (⟨#[32, 45, 32]⟩ : ByteArray)) ++ r3) ++ (⟨#[32, 61, 32]⟩ : ByteArray)).size + r5.size ≤ 9223372036854775807))
 (cond (decide (((((r2 ++ (⟨#[32, 45, 32]⟩ : ByteArray)) ++ r3) ++ (⟨#[32, 61, 32]⟩ : ByteArray)) ++ r5).size + (⟨#[32, 43, 32, 49, 32, 45, 32]⟩ : ByteArray).size ≤ 9223372036854775807))
 ((k38 a0).bind fun r6 => (k33 r6).bind fun r7 => cond (decide ((((((r2 ++ (⟨#[32, 45, 32]⟩ : ByteArray)) ++ r3) ++ (⟨#[32, 61, 32]⟩ : ByteArray)) ++ r5) ++ (⟨#[32, 43, 32, 49, 32, 45, 32]⟩ : ByteArray)).size + r7.size ≤ 9223372036854775807))
 (fk ((((((r2 ++ (⟨#[32, 45, 32]⟩ : ByteArray)) ++ r3) ++ (⟨#[32, 61, 32]⟩ : ByteArray)) ++ r5) ++ (⟨#[32, 43, 32, 49, 32, 45, 32]⟩ : ByteArray)) ++ r7) some)
 (none))
 (none))
 (none))
 (none))
 (none))
 (none))
theorem q161 {a0 a1} : Le (k161 a0 a1) (impl_RiemannLine a0 a1) := by
 rw [impl_RiemannLine_eq]; unfold k161; exact (LB q160 fun _ => (LC LR (LB q33 fun _ => (LC (LB q33 fun _ => (LC (LC (LB q88 fun _ => (LB q33 fun _ => (LC (LC (LB q38 fun _ => (LB q33 fun _ => (LC (LF LR) LR))) LR) LR))) LR) LR)) LR))))
noncomputable def k162 (x4 : ZC) (x6 : ZC) (x34 : (List Int)) : Option (ZC × ByteArray) :=
 (k37 x34).bind fun r46 => fk (x6, r46) some
theorem q162 {x4 x6 x34} : Le (k162 x4 x6 x34) (impl_RunLine_c87 x4 x6 x34) := by
 rw [impl_RunLine_c87_eq]; unfold k162; exact (LB q37 fun _ => (LF LR))
abbrev c145T := ((List Int) → Option (List Int))
noncomputable def c145S (ih : c145T) : c145T := (fun x0 => cond (decide ((x0.length : Int) > 0))
 (cond (inside (w64 ((x0.length : Int) - 1)) x0.length)
 (cond (((x0.getD ((w64 ((x0.length : Int) - 1)).toNat) 0) : Int) == 0)
 (cond (decide (0 ≤ 0) && decide (0 ≤ w64 ((x0.length : Int) - 1)) && decide (w64 ((x0.length : Int) - 1) ≤ (x0.length : Int)))
 (fk ((x0.take ((w64 ((x0.length : Int) - 1)).toNat)).drop 0) fun v66 => ih v66)
 (none))
 (some x0))
 (none))
 (some x0))
noncomputable def c145 (n : Nat) : c145T := Nat.rec (motive := fun _ => c145T) (fun _ => none) (fun _ ih => c145S ih) n
theorem c145L (n : Nat) : (∀ {x0}, Le ((c145 n) x0) (impl_trimmed_l0 x0)) := by
 induction n with
 | zero => exact LN
 | succ n ih =>
  have h0 := @ih
  · intro x0; rw [impl_trimmed_l0_eq]; show Le ((c145S (c145 n)) x0) _; exact (LC (LC (LC (LC (LF h0) LR) LR) LR) LR)
noncomputable def k163 := (c145 1000000)
theorem q163 {x0} : Le (k163 x0) (impl_trimmed_l0 x0) := (c145L 1000000)
noncomputable def k164 (a0 : (List Int)) : Option (List Int) :=
 k163 a0
theorem q164 {a0} : Le (k164 a0) (impl_trimmed a0) := by
 rw [impl_trimmed_eq]; unfold k164; exact q163
noncomputable def k165 (a0 : (Ty.den A140)) (a1 : (Ty.den A140)) (a2 : Int) (a3 : Int) : Option (Ty.den A140) := Lb.addTmK A140 a0 a1 a2 a3
theorem q165 {a0 a1 a2 a3} : Le (k165 a0 a1 a2 a3) (impl_addTerms a0 a1 a2 a3) := by rw [impl_addTerms_eq]; exact Lb.addTmK_le _ _ _ _ _
abbrev c148T := (ZS → Int → Int → Int → Int → Option Bool) × (ZS → Int → Int → Int → Int → ZS → Int → Int → Option Bool)
noncomputable def c148S (ih : c148T) : c148T := (fun x0 x2 x7 x13 x14 => cond (decide (x14 < x13))
 (fk (x0.length : Int) fun v67 => ih.2 x0 x2 x7 x13 x14 x0 v67 0)
 (cond (decide (x2 < 0))
 (none)
 (fk (((bits .and .i64 (Int.fdiv x7 (2 ^ (min x2.toNat 64))) 1) : Int) == 1) some)),
 fun x0 x2 x7 x13 x14 x16 x17 x18 => cond (decide (x18 < x17))
 (cond (inside x18 x16.length)
 (cond (decide ((x16.getD x18.toNat (0, 0)).1 < 0))
 (none)
 (cond (((bits .and .i64 (Int.fdiv x7 (2 ^ (min ((x16.getD x18.toNat (0, 0)).1).toNat 64))) 1) : Int) == 1)
 (cond (decide ((x16.getD x18.toNat (0, 0)).1 < 0))
 (none)
 (cond (decide ((x16.getD x18.toNat (0, 0)).2 < 0))
 (none)
 (fk (bits .or .i64 x7 (bits .or .i64 (w64 (1 * 2 ^ (min ((x16.getD x18.toNat (0, 0)).1).toNat 64))) (w64 (1 * 2 ^ (min ((x16.getD x18.toNat (0, 0)).2).toNat 64))))) fun v68 => fk (w64 (x18 + 1)) fun v69 => ih.2 x0 x2 v68 x13 x14 x16 x17 v69)))
 (cond (decide ((x16.getD x18.toNat (0, 0)).2 < 0))
 (none)
 (cond (((bits .and .i64 (Int.fdiv x7 (2 ^ (min ((x16.getD x18.toNat (0, 0)).2).toNat 64))) 1) : Int) == 1)
 (cond (decide ((x16.getD x18.toNat (0, 0)).1 < 0))
 (none)
 (cond (decide ((x16.getD x18.toNat (0, 0)).2 < 0))
 (none)
 (fk (bits .or .i64 x7 (bits .or .i64 (w64 (1 * 2 ^ (min ((x16.getD x18.toNat (0, 0)).1).toNat 64))) (w64 (1 * 2 ^ (min ((x16.getD x18.toNat (0, 0)).2).toNat 64))))) fun v70 => fk (w64 (x18 + 1)) fun v71 => ih.2 x0 x2 v70 x13 x14 x16 x17 v71)))
 (fk (w64 (x18 + 1)) fun v72 => ih.2 x0 x2 x7 x13 x14 x16 x17 v72)))))
 (none))
 (fk (w64 (x14 + 1)) fun v73 => ih.1 x0 x2 x7 x13 v73))
noncomputable def c148 (n : Nat) : c148T := Nat.rec (motive := fun _ => c148T) (fun _ _ _ _ _ => none, fun _ _ _ _ _ _ _ _ => none) (fun _ ih => c148S ih) n
theorem c148L (n : Nat) : (∀ {x0 x2 x7 x13 x14}, Le ((c148 n).1 x0 x2 x7 x13 x14) (impl_joins_l0 x0 x2 x7 x13 x14)) ∧ (∀ {x0 x2 x7 x13 x14 x16 x17 x18}, Le ((c148 n).2 x0 x2 x7 x13 x14 x16 x17 x18) (impl_joins_l2 x0 x2 x7 x13 x14 x16 x17 x18)) := by
 induction n with
 | zero => exact ⟨LN, LN⟩
 | succ n ih =>
  obtain ⟨h0, h1⟩ := ih
  refine ⟨?_, ?_⟩
  · intro x0 x2 x7 x13 x14; rw [impl_joins_l0_eq]; show Le ((c148S (c148 n)).1 x0 x2 x7 x13 x14) _; exact (LC (LF h1) (LC LR (LF LR)))
  · intro x0 x2 x7 x13 x14 x16 x17 x18; rw [impl_joins_l2_eq]; show Le ((c148S (c148 n)).2 x0 x2 x7 x13 x14 x16 x17 x18) _; exact (LC (LC (LC LR (LC (LC LR (LC LR (LF (LF h1)))) (LC LR (LC (LC LR (LC LR (LF (LF h1)))) (LF h1))))) LR) (LF h0))
noncomputable def k166 := (c148 1000000).1
theorem q166 {x0 x2 x7 x13 x14} : Le (k166 x0 x2 x7 x13 x14) (impl_joins_l0 x0 x2 x7 x13 x14) := (c148L 1000000).1
noncomputable def k168 (a0 : ZS) (a1 : Int) (a2 : Int) : Option Bool :=
 cond (decide (a1 < 0))
 (none)
 (fk (w64 (1 * 2 ^ (min a1.toNat 64))) fun v74 => fk (a0.length : Int) fun v75 => k166 a0 a2 v74 v75 0)
theorem q168 {a0 a1 a2} : Le (k168 a0 a1 a2) (impl_joins a0 a1 a2) := by
 rw [impl_joins_eq]; unfold k168; exact (LC LR (LF (LF q166)))
abbrev c150T := (ZS → Option (Ty.den A140)) × ((Ty.den A140) → (Ty.den A140) → (Int × Int) → ZS → ZS → ZS → Int → Int → Option (Ty.den A140))
noncomputable def c150S (ih : c150T) : c150T := (fun a0 => cond (((a0.length : Int) : Int) == 0)
 (some ((1, ((Ty.dflt A140).1).2), (Ty.dflt A140).2))
 (cond (inside 0 a0.length)
 (cond (decide (0 ≤ 1) && decide (1 ≤ (a0.length : Int)) && decide ((a0.length : Int) ≤ (a0.length : Int)))
 (cond ((((a0.getD 0 (0, 0)).1) : Int) == ((a0.getD 0 (0, 0)).2))
 ((fk ((a0.take ((a0.length : Int).toNat)).drop 1) fun v76 => ih.1 v76).bind fun r1 => (k165 (Ty.dflt A140) r1 0 1).bind fun r2 => some r2)
 (fk (a0.getD 0 (0, 0)) fun v77 => fk ((a0.take ((a0.length : Int).toNat)).drop 1) fun v78 => fk ((a0.take ((a0.length : Int).toNat)).drop 1) fun v79 => fk (((a0.take ((a0.length : Int).toNat)).drop 1).length : Int) fun v80 => ih.2 (Ty.dflt A140) (Ty.dflt A140) v77 v78 ([] : List (Int × Int)) v79 v80 0))
 (none))
 (none)),
 fun x2 x3 x4 x5 x6 x29 x30 x31 => cond (decide (x31 < x30))
 (cond (inside x31 x29.length)
 (cond ((((x29.getD x31.toNat (0, 0)).1) : Int) == x4.2)
 (cond ((((x29.getD x31.toNat (0, 0)).2) : Int) == x4.2)
 (cond (decide (x6.length + ([(x4.1, x4.1)] : List (Int × Int)).length ≤ room))
 (fk (x6 ++ ([(x4.1, x4.1)] : List (Int × Int))) fun v81 => fk (w64 (x31 + 1)) fun v82 => ih.2 x2 x3 x4 x5 v81 x29 x30 v82)
 (none))
 (cond (decide (x6.length + ([(x4.1, (x29.getD x31.toNat (0, 0)).2)] : List (Int × Int)).length ≤ room))
 (fk (x6 ++ ([(x4.1, (x29.getD x31.toNat (0, 0)).2)] : List (Int × Int))) fun v83 => fk (w64 (x31 + 1)) fun v84 => ih.2 x2 x3 x4 x5 v83 x29 x30 v84)
 (none)))
 (cond ((((x29.getD x31.toNat (0, 0)).2) : Int) == x4.2)
 (cond (decide (x6.length + ([((x29.getD x31.toNat (0, 0)).1, x4.1)] : List (Int × Int)).length ≤ room))
 (fk (x6 ++ ([((x29.getD x31.toNat (0, 0)).1, x4.1)] : List (Int × Int))) fun v85 => fk (w64 (x31 + 1)) fun v86 => ih.2 x2 x3 x4 x5 v85 x29 x30 v86)
 (none))
 (cond (decide (x6.length + ([x29.getD x31.toNat (0, 0)] : List (Int × Int)).length ≤ room))
 (fk (x6 ++ ([x29.getD x31.toNat (0, 0)] : List (Int × Int))) fun v87 => fk (w64 (x31 + 1)) fun v88 => ih.2 x2 x3 x4 x5 v87 x29 x30 v88)
 (none))))
 (none))
 ((k168 x5 x4.1 x4.2).bind fun r3 => cond (!r3)
 ((ih.1 x6).bind fun r4 => (k165 x3 r4 1 0).bind fun r5 => some r5)
 ((ih.1 x5).bind fun r6 => (k165 x3 r6 0 0).bind fun r7 => (ih.1 x6).bind fun r8 => (k165 r7 r8 0 0).bind fun r9 => some r9)))
noncomputable def c150 (n : Nat) : c150T := Nat.rec (motive := fun _ => c150T) (fun _ => none, fun _ _ _ _ _ _ _ _ => none) (fun _ ih => c150S ih) n
theorem c150L (n : Nat) : (∀ {a0}, Le ((c150 n).1 a0) (impl_tutte a0)) ∧ (∀ {x2 x3 x4 x5 x6 x29 x30 x31}, Le ((c150 n).2 x2 x3 x4 x5 x6 x29 x30 x31) (impl_tutte_l0 x2 x3 x4 x5 x6 x29 x30 x31)) := by
 induction n with
 | zero => exact ⟨LN, LN⟩
 | succ n ih =>
  obtain ⟨h0, h1⟩ := ih
  refine ⟨?_, ?_⟩
  · intro a0; rw [impl_tutte_eq]; show Le ((c150S (c150 n)).1 a0) _; exact (LC LR (LC (LC (LC (LB (LF h0) fun _ => (LB q165 fun _ => LR)) (LF (LF (LF (LF h1))))) LR) LR))
  · intro x2 x3 x4 x5 x6 x29 x30 x31; rw [impl_tutte_l0_eq]; show Le ((c150S (c150 n)).2 x2 x3 x4 x5 x6 x29 x30 x31) _; exact (LC (LC (LC (LC (LC (LF (LF h1)) LR) (LC (LF (LF h1)) LR)) (LC (LC (LF (LF h1)) LR) (LC (LF (LF h1)) LR))) LR) (LB q168 fun _ => (LC (LB h0 fun _ => (LB q165 fun _ => LR)) (LB h0 fun _ => (LB q165 fun _ => (LB h0 fun _ => (LB q165 fun _ => LR)))))))
noncomputable def k169 := (c150 1000000).1
theorem q169 {a0} : Le (k169 a0) (impl_tutte a0) := (c150L 1000000).1
noncomputable def k171 (a0 : ZG) : Option ((List (List Int)) × Bool) := Lb.tutOf A140 k21 k169 k164 k61 a0
theorem q171 {a0} : Le (k171 a0) (impl_TutteOf a0) := by rw [impl_TutteOf_eq]; exact Lb.tutOf_le (fun _ => q21) (fun _ => q169) (fun _ => q164) (fun _ => q61) _
abbrev c152T := ((List Int) → (List Int) → ZS → Int → Int → Option (List Int))
noncomputable def c152S (ih : c152T) : c152T := (fun x1 x5 x9 x10 x11 => cond (decide (x11 < x10))
 (cond (inside x11 x9.length)
 ((fk ((x9.getD x11.toNat (0, 0)).1) fun v89 => k70 x1 v89).bind fun r1 => (fk ((x9.getD x11.toNat (0, 0)).2) fun v90 => k70 x1 v90).bind fun r2 => cond (decide (r1 < r2))
 (cond (decide (x5.length + ([0] : List Int).length ≤ room))
 (fk (x5 ++ ([0] : List Int)) fun v91 => fk (w64 (x11 + 1)) fun v92 => ih x1 v91 x9 x10 v92)
 (none))
 (cond (decide (x5.length + ([1] : List Int).length ≤ room))
 (fk (x5 ++ ([1] : List Int)) fun v93 => fk (w64 (x11 + 1)) fun v94 => ih x1 v93 x9 x10 v94)
 (none)))
 (none))
 (some x5))
noncomputable def c152 (n : Nat) : c152T := Nat.rec (motive := fun _ => c152T) (fun _ _ _ _ _ => none) (fun _ ih => c152S ih) n
theorem c152L (n : Nat) : (∀ {x1 x5 x9 x10 x11}, Le ((c152 n) x1 x5 x9 x10 x11) (impl_burnt_l0 x1 x5 x9 x10 x11)) := by
 induction n with
 | zero => exact LN
 | succ n ih =>
  have h0 := @ih
  · intro x1 x5 x9 x10 x11; rw [impl_burnt_l0_eq]; show Le ((c152S (c152 n)) x1 x5 x9 x10 x11) _; exact (LC (LC (LB (LF q70) fun _ => (LB (LF q70) fun _ => (LC (LC (LF (LF h0)) LR) (LC (LF (LF h0)) LR)))) LR) LR)
noncomputable def k172 := (c152 1000000)
theorem q172 {x1 x5 x9 x10 x11} : Le (k172 x1 x5 x9 x10 x11) (impl_burnt_l0 x1 x5 x9 x10 x11) := (c152L 1000000)
noncomputable def k173 (a0 : ZG) (a1 : (List Int)) : Option (List Int) :=
 fk (a0.2.length : Int) fun v95 => k172 a1 ([] : List Int) a0.2 v95 0
theorem q173 {a0 a1} : Le (k173 a0 a1) (impl_burnt a0 a1) := by
 rw [impl_burnt_eq]; unfold k173; exact (LF q172)
noncomputable def k174 (a0 : ZG) (a1 : (List Int)) : Option ((List Int) × Bool) :=
 (k60 a0 a1).bind fun r1 => cond (!r1)
 (fk (([] : List Int), false) some)
 ((k132 a0 a1).bind fun r2 => cond (r2)
 (fk (([] : List Int), false) some)
 ((k106 a0 a1 0).bind fun r3 => (k102 a0 r3.1 0).bind fun r4 => (k173 a0 r4).bind fun r5 => fk (r5, true) some))
theorem q174 {a0 a1} : Le (k174 a0 a1) (impl_OrientOfRank a0 a1) := by
 rw [impl_OrientOfRank_eq]; unfold k174; exact (LB q60 fun _ => (LC (LF LR) (LB q132 fun _ => (LC (LF LR) (LB q106 fun _ => (LB q102 fun _ => (LB q173 fun _ => (LF LR))))))))
noncomputable def k175 (a0 : ZG) (a1 : (List Int)) : Option Bool :=
 (k60 a0 a1).bind fun r1 => cond (r1)
 ((k132 a0 a1).bind fun r2 => some r2)
 (some false)
theorem q175 {a0 a1} : Le (k175 a0 a1) (impl_IsWinnable a0 a1) := by
 rw [impl_IsWinnable_eq]; unfold k175; exact (LB q60 fun _ => (LC (LB q132 fun _ => LR) LR))
abbrev c156T := ((List Int) → Int → Int → Int → Option (List Int))
noncomputable def c156S (ih : c156T) : c156T := (fun x3 x4 x11 x12 => cond (decide (x12 < x11))
 (cond (inside x12 x3.length)
 (cond (inside x12 x3.length)
 (fk (x3.set x12.toNat (w64 ((x3.getD x12.toNat 0) - x4))) fun v96 => fk (w64 (x12 + 1)) fun v97 => ih v96 x4 x11 v97)
 (none))
 (none))
 (some x3))
noncomputable def c156 (n : Nat) : c156T := Nat.rec (motive := fun _ => c156T) (fun _ _ _ _ => none) (fun _ ih => c156S ih) n
theorem c156L (n : Nat) : (∀ {x3 x4 x11 x12}, Le ((c156 n) x3 x4 x11 x12) (impl_fromZero_l0 x3 x4 x11 x12)) := by
 induction n with
 | zero => exact LN
 | succ n ih =>
  have h0 := @ih
  · intro x3 x4 x11 x12; rw [impl_fromZero_l0_eq]; show Le ((c156S (c156 n)) x3 x4 x11 x12) _; exact (LC (LC (LC (LF (LF h0)) LR) LR) LR)
noncomputable def k176 := (c156 1000000)
theorem q176 {x3 x4 x11 x12} : Le (k176 x3 x4 x11 x12) (impl_fromZero_l0 x3 x4 x11 x12) := (c156L 1000000)
abbrev c157T := ((List Int) → Int → Int → Option Int)
noncomputable def c157S (ih : c157T) : c157T := (fun x0 x3 x4 => cond (decide (x4 < (x0.length : Int)))
 (cond (inside x4 x0.length)
 (fk (imin x3 (x0.getD x4.toNat 0)) fun v98 => fk (w64 (x4 + 1)) fun v99 => ih x0 v98 v99)
 (none))
 (some x3))
noncomputable def c157 (n : Nat) : c157T := Nat.rec (motive := fun _ => c157T) (fun _ _ _ => none) (fun _ ih => c157S ih) n
theorem c157L (n : Nat) : (∀ {x0 x3 x4}, Le ((c157 n) x0 x3 x4) (slices_Min_int_int_l0 x0 x3 x4)) := by
 induction n with
 | zero => exact LN
 | succ n ih =>
  have h0 := @ih
  · intro x0 x3 x4; rw [slices_Min_int_int_l0_eq]; show Le ((c157S (c157 n)) x0 x3 x4) _; exact (LC (LC (LF (LF h0)) LR) LR)
noncomputable def k177 := (c157 1000000)
theorem q177 {x0 x3 x4} : Le (k177 x0 x3 x4) (slices_Min_int_int_l0 x0 x3 x4) := (c157L 1000000)
noncomputable def k178 (a0 : (List Int)) : Option Int :=
 cond (decide ((a0.length : Int) < 1))
 (none)
 (cond (inside 0 a0.length)
 (fk (a0.getD 0 0) fun v0 => k177 a0 v0 1)
 (none))
theorem q178 {a0} : Le (k178 a0) (slices_Min_int_int a0) := by
 rw [slices_Min_int_int_eq]; unfold k178; exact (LC LR (LC (LF q177) LR))
noncomputable def k179 (a0 : (List Int)) : Option (List Int) :=
 (k61 a0).bind fun r1 => (k178 a0).bind fun r2 => fk (r1.length : Int) fun v1 => k176 r1 r2 v1 0
theorem q179 {a0} : Le (k179 a0) (impl_fromZero a0) := by
 rw [impl_fromZero_eq]; unfold k179; exact (LB q61 fun _ => (LB q178 fun _ => (LF q176)))
noncomputable def k180 (a0 : ZG) (a1 : (List Int)) : Option ((List Int) × Bool) :=
 (k175 a0 a1).bind fun r1 => cond (!r1)
 (fk (([] : List Int), false) some)
 ((k106 a0 a1 0).bind fun r2 => (k179 r2.2).bind fun r3 => fk (r3, true) some)
theorem q180 {a0 a1} : Le (k180 a0 a1) (impl_WinningScript a0 a1) := by
 rw [impl_WinningScript_eq]; unfold k180; exact (LB q175 fun _ => (LC (LF LR) (LB q106 fun _ => (LB q179 fun _ => (LF LR)))))
noncomputable def k181 (a0 : ZG) (a1 : (List Int)) : Option ByteArray :=
 (k60 a0 a1).bind fun r1 => cond (!r1)
 (some (⟨#[]⟩ : ByteArray))
 ((k180 a0 a1).bind fun r2 => cond (r2.2)
 ((k37 r2.1).bind fun r3 => cond (decide ((⟨#[119, 111, 110, 32, 98, 121, 32]⟩ : ByteArray).size + r3.size ≤ 9223372036854775807))
 (fk ((⟨#[119, 111, 110, 32, 98, 121, 32]⟩ : ByteArray) ++ r3) some)
 (none))
 ((k174 a0 a1).bind fun r4 => (k37 r4.1).bind fun r5 => cond (decide ((⟨#[108, 111, 115, 116, 58, 32]⟩ : ByteArray).size + r5.size ≤ 9223372036854775807))
 (fk ((⟨#[108, 111, 115, 116, 58, 32]⟩ : ByteArray) ++ r5) some)
 (none)))
theorem q181 {a0 a1} : Le (k181 a0 a1) (impl_WinLine a0 a1) := by
 rw [impl_WinLine_eq]; unfold k181; exact (LB q60 fun _ => (LC LR (LB q180 fun _ => (LC (LB q37 fun _ => (LC (LF LR) LR)) (LB q174 fun _ => (LB q37 fun _ => (LC (LF LR) LR)))))))
abbrev c162T := ((List ByteArray) → (List (List Int)) → Int → Int → Option (List ByteArray))
noncomputable def c162S (ih : c162T) : c162T := (fun x3 x6 x7 x8 => cond (decide (x8 < x7))
 (cond (inside x8 x6.length)
 ((fk (x6.getD x8.toNat ([] : List Int)) fun v2 => k37 v2).bind fun r1 => cond (decide (x3.length + ([r1] : List ByteArray).length ≤ room))
 (fk (x3 ++ ([r1] : List ByteArray)) fun v3 => fk (w64 (x8 + 1)) fun v4 => ih v3 x6 x7 v4)
 (none))
 (none))
 (some x3))
noncomputable def c162 (n : Nat) : c162T := Nat.rec (motive := fun _ => c162T) (fun _ _ _ _ => none) (fun _ ih => c162S ih) n
theorem c162L (n : Nat) : (∀ {x3 x6 x7 x8}, Le ((c162 n) x3 x6 x7 x8) (impl_ListLines_l0 x3 x6 x7 x8)) := by
 induction n with
 | zero => exact LN
 | succ n ih =>
  have h0 := @ih
  · intro x3 x6 x7 x8; rw [impl_ListLines_l0_eq]; show Le ((c162S (c162 n)) x3 x6 x7 x8) _; exact (LC (LC (LB (LF q37) fun _ => (LC (LF (LF h0)) LR)) LR) LR)
noncomputable def k182 := (c162 1000000)
theorem q182 {x3 x6 x7 x8} : Le (k182 x3 x6 x7 x8) (impl_ListLines_l0 x3 x6 x7 x8) := (c162L 1000000)
noncomputable def k183 (a0 : (List (List Int))) : Option (List ByteArray) :=
 fk ([] : List ByteArray) fun v5 => fk (a0.length : Int) fun v6 => k182 v5 a0 v6 0
theorem q183 {a0} : Le (k183 a0) (impl_ListLines a0) := by
 rw [impl_ListLines_eq]; unfold k183; exact (LF (LF q182))
noncomputable def k184 (a0 : ByteArray) : Option ByteArray :=
 cond (a0.toList == (⟨#[]⟩ : ByteArray).toList)
 (fk (⟨#[110, 111, 110, 101]⟩ : ByteArray) some)
 (some a0)
theorem q184 {a0} : Le (k184 a0) (impl_orNone a0) := by
 rw [impl_orNone_eq]; unfold k184; exact (LC (LF LR) LR)
noncomputable def k185 (a0 : (List (List Int))) (a1 : Bool) : Option ByteArray :=
 (k183 a0).bind fun r1 => (fk (⟨#[59]⟩ : ByteArray) fun v7 => k35 r1 v7).bind fun r2 => (k184 r2).bind fun r3 => some r3
theorem q185 {a0 a1} : Le (k185 a0 a1) (impl_listed a0 a1) := by
 rw [impl_listed_eq]; unfold k185; exact (LB q183 fun _ => (LB (LF q35) fun _ => (LB q184 fun _ => LR)))
noncomputable def k186 (x2 : ZC) (x4 : ZC) (x6 : ZC) (x7 : (List ByteArray)) (x10 : (List Int)) : Option (ZC × ByteArray) :=
 cond (inside 0 x7.length)
 (cond ((x7.getD 0 ByteArray.empty).toList == (⟨#[114, 101, 100, 117, 99, 101]⟩ : ByteArray).toList)
 (none)
 (cond ((x7.getD 0 ByteArray.empty).toList == (⟨#[115, 101, 116, 116, 108, 101]⟩ : ByteArray).toList)
 (none)
 (cond ((x7.getD 0 ByteArray.empty).toList == (⟨#[119, 105, 110]⟩ : ByteArray).toList)
 ((k181 x2.1 x2.2.1).bind fun r23 => (k184 r23).bind fun r24 => fk (x6, r24) some)
 (cond ((x7.getD 0 ByteArray.empty).toList == (⟨#[114, 97, 110, 107]⟩ : ByteArray).toList)
 ((k147 x2.1 x2.2.1).bind fun r25 => (k184 r25).bind fun r26 => fk (x6, r26) some)
 (cond ((x7.getD 0 ByteArray.empty).toList == (⟨#[114, 105, 101, 109, 97, 110, 110]⟩ : ByteArray).toList)
 ((k161 x2.1 x2.2.1).bind fun r27 => (k184 r27).bind fun r28 => fk (x6, r28) some)
 (cond ((x7.getD 0 ByteArray.empty).toList == (⟨#[112, 105, 108, 101]⟩ : ByteArray).toList)
 (none)
 (cond ((x7.getD 0 ByteArray.empty).toList == (⟨#[97, 108, 108]⟩ : ByteArray).toList)
 ((k108 x2.1 x2.2.1).bind fun r31 => (k185 r31.1 r31.2).bind fun r32 => fk (x6, r32) some)
 (cond ((x7.getD 0 ByteArray.empty).toList == (⟨#[105, 100, 101, 110, 116, 105, 116, 121]⟩ : ByteArray).toList)
 ((k144 x2.1 x2.2.2).bind fun r33 => cond (!r33.2)
 (fk (x6, (⟨#[110, 111, 110, 101]⟩ : ByteArray)) some)
 ((k37 r33.1).bind fun r34 => fk (x6, r34) some))
 (cond ((x7.getD 0 ByteArray.empty).toList == (⟨#[116, 114, 101, 101, 115]⟩ : ByteArray).toList)
 ((k83 x2.1).bind fun r35 => (k185 r35.1 r35.2).bind fun r36 => fk (x6, r36) some)
 (cond ((x7.getD 0 ByteArray.empty).toList == (⟨#[114, 101, 99, 117, 114, 114, 101, 110, 116]⟩ : ByteArray).toList)
 ((k156 x2.1 x2.2.2).bind fun r37 => (k185 r37.1 r37.2).bind fun r38 => fk (x6, r38) some)
 (cond ((x7.getD 0 ByteArray.empty).toList == (⟨#[112, 97, 114, 107, 105, 110, 103]⟩ : ByteArray).toList)
 (none)
 (cond ((x7.getD 0 ByteArray.empty).toList == (⟨#[116, 117, 116, 116, 101]⟩ : ByteArray).toList)
 ((k171 x2.1).bind fun r41 => cond (!r41.2)
 (fk (x6, (⟨#[110, 111, 110, 101]⟩ : ByteArray)) some)
 ((k112 r41.1).bind fun r42 => fk (x6, r42) some))
 (cond ((x7.getD 0 ByteArray.empty).toList == (⟨#[103, 111, 110, 97, 108, 105, 116, 121]⟩ : ByteArray).toList)
 ((k138 x2.1).bind fun r43 => cond (!r43.2)
 (fk (x6, (⟨#[110, 111, 110, 101]⟩ : ByteArray)) some)
 ((k33 r43.1).bind fun r44 => fk (x6, r44) some))
 (cond ((x7.getD 0 ByteArray.empty).toList == (⟨#[103, 97, 112, 115]⟩ : ByteArray).toList)
 ((k129 x2.1 x2.2.2).bind fun r45 => k162 x4 x6 r45.1)
 (fk (x6, (⟨#[117, 110, 107, 110, 111, 119, 110, 32, 99, 111, 109, 109, 97, 110, 100]⟩ : ByteArray)) some)))))))))))))))
 (none)
theorem q186 {x2 x4 x6 x7 x10} : Le (k186 x2 x4 x6 x7 x10) (impl_RunLine_c48 x2 x4 x6 x7 x10) := by
 rw [impl_RunLine_c48_eq]; unfold k186; exact (LC (LC LN (LC LN (LC (LB q181 fun _ => (LB q184 fun _ => (LF LR))) (LC (LB q147 fun _ => (LB q184 fun _ => (LF LR))) (LC (LB q161 fun _ => (LB q184 fun _ => (LF LR))) (LC LN (LC (LB q108 fun _ => (LB q185 fun _ => (LF LR))) (LC (LB q144 fun _ => (LC (LF LR) (LB q37 fun _ => (LF LR)))) (LC (LB q83 fun _ => (LB q185 fun _ => (LF LR))) (LC (LB q156 fun _ => (LB q185 fun _ => (LF LR))) (LC LN (LC (LB q171 fun _ => (LC (LF LR) (LB q112 fun _ => (LF LR)))) (LC (LB q138 fun _ => (LC (LF LR) (LB q33 fun _ => (LF LR)))) (LC (LB q129 fun _ => q162) (LF LR))))))))))))))) LR)
noncomputable def k187 (a0 : ZG) : Option ZG :=
 cond (decide (([] : List (Int × Int)).length + a0.2.length ≤ room))
 (fk (a0.1, ([] : List (Int × Int)) ++ a0.2) some)
 (none)
theorem q187 {a0} : Le (k187 a0) (impl_copyGraph a0) := by
 rw [impl_copyGraph_eq]; unfold k187; exact (LC (LF LR) LR)
noncomputable def k188 (a0 : ZC) : Option ZC :=
 (k187 a0.1).bind fun r1 => (k61 a0.2.1).bind fun r2 => fk (r1, r2, a0.2.2) some
theorem q188 {a0} : Le (k188 a0) (impl_copyConsole a0) := by
 rw [impl_copyConsole_eq]; unfold k188; exact (LB q187 fun _ => (LB q61 fun _ => (LF LR)))
noncomputable def k189 (a0 : ZC) (a1 : ByteArray) : Option (ZC × ByteArray) :=
 (k188 a0).bind fun r1 => cond (a1.toList == (⟨#[]⟩ : ByteArray).toList)
 (fk (r1, (⟨#[]⟩ : ByteArray)) some)
 (cond (inside 0 a1.size)
 (cond (((bAt a1 0) : Int) == 35)
 (fk (r1, (⟨#[]⟩ : ByteArray)) some)
 ((fk (⟨#[32]⟩ : ByteArray) fun v8 => k57 a1 v8).bind fun r2 => cond (decide (0 ≤ 1) && decide (1 ≤ (r2.length : Int)) && decide ((r2.length : Int) ≤ (r2.length : Int)))
 ((k61 a0.2.1).bind fun r3 => (fk (w64 ((r3.length : Int) - 1)) fun v9 => k1 a0.2.2 0 v9).bind fun r4 => cond (r4)
 (cond (inside a0.2.2 r3.length)
 (cond (decide ((((r2.take ((r2.length : Int).toNat)).drop 1).length : Int) > 0))
 (fk ((0, ([] : List (Int × Int))), ([] : List Int), 0) fun v10 => fk ((r2.take ((r2.length : Int).toNat)).drop 1) fun v11 => k85 a0 v10 r1 r2 v11)
 (fk ((0, ([] : List (Int × Int))), ([] : List Int), 0) fun v12 => fk (r3.set a0.2.2.toNat 0) fun v13 => k186 a0 v12 r1 r2 v13))
 (none))
 (cond (decide ((((r2.take ((r2.length : Int).toNat)).drop 1).length : Int) > 0))
 (fk ((0, ([] : List (Int × Int))), ([] : List Int), 0) fun v14 => fk ((r2.take ((r2.length : Int).toNat)).drop 1) fun v15 => k85 a0 v14 r1 r2 v15)
 (fk ((0, ([] : List (Int × Int))), ([] : List Int), 0) fun v16 => k186 a0 v16 r1 r2 r3)))
 (none)))
 (none))
theorem q189 {a0 a1} : Le (k189 a0 a1) (impl_RunLine a0 a1) := by
 rw [impl_RunLine_eq]; unfold k189; exact (LB q188 fun _ => (LC (LF LR) (LC (LC (LF LR) (LB (LF q57) fun _ => (LC (LB q61 fun _ => (LB (LF q1) fun _ => (LC (LC (LC (LF (LF q85)) (LF (LF q186))) LR) (LC (LF (LF q85)) (LF q186))))) LR))) LR)))
abbrev c170T := ((List ByteArray) → ZC → ByteArray → (List ByteArray) → Int → Int → Option (ByteArray × Int))
noncomputable def c170S (ih : c170T) : c170T := (fun x4 x5 x6 x17 x18 x19 => cond (decide (x19 < x18))
 (cond (inside x19 x17.length)
 ((fk (x17.getD x19.toNat ByteArray.empty) fun v17 => k189 x5 v17).bind fun r3 => cond (!(r3.2.toList == (⟨#[]⟩ : ByteArray).toList))
 (cond (decide (r3.2.size + (⟨#[10]⟩ : ByteArray).size ≤ 9223372036854775807))
 (cond (decide (x6.size + (r3.2 ++ (⟨#[10]⟩ : ByteArray)).size ≤ 9223372036854775807))
 (fk (x6 ++ (r3.2 ++ (⟨#[10]⟩ : ByteArray))) fun v18 => fk (w64 (x19 + 1)) fun v19 => ih x4 r3.1 v18 x17 x18 v19)
 (none))
 (none))
 (fk (w64 (x19 + 1)) fun v20 => ih x4 r3.1 x6 x17 x18 v20))
 (none))
 (fk (x6, (x4.length : Int)) some))
noncomputable def c170 (n : Nat) : c170T := Nat.rec (motive := fun _ => c170T) (fun _ _ _ _ _ _ => none) (fun _ ih => c170S ih) n
theorem c170L (n : Nat) : (∀ {x4 x5 x6 x17 x18 x19}, Le ((c170 n) x4 x5 x6 x17 x18 x19) (impl_RunSession_l0 x4 x5 x6 x17 x18 x19)) := by
 induction n with
 | zero => exact LN
 | succ n ih =>
  have h0 := @ih
  · intro x4 x5 x6 x17 x18 x19; rw [impl_RunSession_l0_eq]; show Le ((c170S (c170 n)) x4 x5 x6 x17 x18 x19) _; exact (LC (LC (LB (LF q189) fun _ => (LC (LC (LC (LF (LF h0)) LR) LR) (LF h0))) LR) (LF LR))
noncomputable def k190 := (c170 1000000)
theorem q190 {x4 x5 x6 x17 x18 x19} : Le (k190 x4 x5 x6 x17 x18 x19) (impl_RunSession_l0 x4 x5 x6 x17 x18 x19) := (c170L 1000000)
noncomputable def k191 (a0 : ByteArray) : Option (List ByteArray) :=
 (fk (⟨#[10]⟩ : ByteArray) fun v21 => k57 a0 v21).bind fun r1 => cond (inside (w64 ((r1.length : Int) - 1)) r1.length)
 (cond ((r1.getD ((w64 ((r1.length : Int) - 1)).toNat) ByteArray.empty).toList == (⟨#[]⟩ : ByteArray).toList)
 (cond (decide (0 ≤ 0) && decide (0 ≤ w64 ((r1.length : Int) - 1)) && decide (w64 ((r1.length : Int) - 1) ≤ (r1.length : Int)))
 (fk ((r1.take ((w64 ((r1.length : Int) - 1)).toNat)).drop 0) some)
 (none))
 (some r1))
 (none)
theorem q191 {a0} : Le (k191 a0) (impl_SplitLines a0) := by
 rw [impl_SplitLines_eq]; unfold k191; exact (LB (LF q57) fun _ => (LC (LC (LC (LF LR) LR) LR) LR))
noncomputable def k192 (a0 : ByteArray) : Option (ByteArray × Int) :=
 (k191 a0).bind fun r1 => cond (decide ((r1.length : Int) > 40))
 (fk ((⟨#[]⟩ : ByteArray), (-1)) some)
 ((k0 ).bind fun r2 => fk (r1.length : Int) fun v22 => k190 r1 r2 (⟨#[]⟩ : ByteArray) r1 v22 0)
theorem q192 {a0} : Le (k192 a0) (impl_RunSession a0) := by
 rw [impl_RunSession_eq]; unfold k192; exact (LB q191 fun _ => (LC (LF LR) (LB q0 fun _ => (LF q190))))
end K
end Go.Proofs.YthhogfhffpfkdaaGreatDoor.D

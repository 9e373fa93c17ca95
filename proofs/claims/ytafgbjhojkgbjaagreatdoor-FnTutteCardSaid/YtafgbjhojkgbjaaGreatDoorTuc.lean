/-
  TutteOf of the program, by its own walk: the polynomial's rows, trimmed.
-/
import Derived.Test.YtafgbjhojkgbjaaGreatDoorCtx
import Derived.WalkKit
import Derived.BigCall
import Derived.BigGuard
import Derived.Lib.Hide
import Derived.OneCell
import Derived.Lib.AppendZeros
import Derived.Deep.WholeRow
namespace Go.Proofs.YtafgbjhojkgbjaaGreatDoor
open Go Go.Den Go.RowKit
set_option linter.unusedVariables false
set_option linter.unusedSimpArgs false
set_option maxRecDepth 100000
set_option maxHeartbeats 4000000 in
theorem tut_walk (n : Int) (ea : Option Addr) (el ec : Nat) (hel : el ≤ 9) (T : Array Value) (R : Nat → Array Value) (w : World) (Post : Ending → World → Prop)
  (J0 : World → Prop) (J : Nat → Value → Nat → World → Prop) (J1 : Nat → Value → Nat → Value → World → Prop) (J2 : Nat → Value → Nat → Option Addr → Nat → Nat → World → Prop)
  (hGO : ∀ W, W = w.alloc (.cells #[.int .i64 n, .slice ea el ec] 25) → Calls Tryz.prog 7 #[.agg #[.int .i64 n, .slice ea el ec]] W fun e w' => e = .returned (.bool true) ∧ J0 w' ∧ w'.cell? ⟨w.heap.size, 0, none⟩ = some (.int .i64 n) ∧ w'.cell? ⟨w.heap.size, 1, none⟩ = some (.slice ea el ec))
  (hTu : ∀ W, J0 W → Calls Tryz.prog 17 #[.slice ea el ec] W fun e w' => e = .returned (.agg T) ∧ J 0 (.slice none 0 0) 0 w')
  (hix : ∀ i : Nat, i < 16 → ∀ W, (Instr.index 46 (.agg T) (.int .i64 i)).run Tryz.prog W = .ok (.agg (R i)) W)
  (hsz : ∀ i, i < 16 → (R i).size = 16) (hone : ∀ i, (R i).all (·.oneCell') = true)
  (hTr : ∀ i o rows W, J i o rows W → i < 16 → Calls Tryz.prog 19 #[.slice (some ⟨W.heap.size, 0, none⟩) 16 16] (W.alloc (.cells (R i) 45)) fun e w' => ∃ v, e = .returned v ∧ J1 i o rows v w')
  (hCp : ∀ i o rows v W, J1 i o rows v W → Calls Tryz.prog 18 #[v] W fun e w' => ∃ a l c, e = .returned (.slice a l c) ∧ J2 i o rows a l c w')
  (hAp : ∀ i o rows a l c W, J2 i o rows a l c W → ∃ v w3, (Builtin.append_ #[28, 28] 28 #[o, .slice (some ⟨W.heap.size, 0, none⟩) 1 1]).run Tryz.prog (W.alloc (.cells #[.slice a l c] 32)) = .ok v w3 ∧ J (i + 1) v (if 0 < l then i + 1 else rows) w3)
  (hEnd : ∀ o rows W, J 16 o rows W → ∃ oa ol oc, o = .slice oa ol oc ∧ rows ≤ oc ∧ Post (.returned (.tuple #[.slice oa rows oc, .bool true])) W)
  : Calls Tryz.prog 6 #[.agg #[.int .i64 n, .slice ea el ec]] w Post := by
  have HGO := Lib.hid hGO
  have HTu := Lib.hid hTu
  have Hix := Lib.hid hix
  have HTr := Lib.hid hTr
  have HCp := Lib.hid hCp
  have HAp := Lib.hid hAp
  have HEnd := Lib.hid hEnd
  clear hGO hTu hix hTr hCp hAp hEnd
  have h9 : ¬ (el : Int) > 9 := by omega
  go_enter Tryz.func6, Tryz.ntmps6
  go_wp2_with (first | (go_at_call 7; refine (HGO.out _ rfl).mono ?_; rintro e w1 ⟨rfl, hw1, hw2, hw3⟩) | (go_at_call 17; refine (HTu.out _ hw1).mono ?_; rintro e w2 ⟨rfl, hJ⟩))
  go_loopw [4, 5, 21] (fun o r s wr => ∃ i rows : Nat, i ≤ 16 ∧ rows ≤ 16 ∧ s = .int .i64 i ∧ r = .int .i64 rows ∧ J i o rows wr) (fun _ _ s _ => 17 - (intOf s).toNat)
  case atStart => exact ⟨0, 0, by omega, by omega, rfl, rfl, hJ⟩
  case round =>
    obtain ⟨i, rows, hi, hrow, rfl, rfl, hJ1⟩ := hrel
    by_cases hlt : i < 16
    · have i16 : (i : Int) < 16 := by omega
      have hx := Hix.out i hlt
      have hs := hsz i hlt
      have hst := run_storeCells_new (P := Tryz.prog) wr 45 #[.int .i64 0, .int .i64 0, .int .i64 0, .int .i64 0, .int .i64 0, .int .i64 0, .int .i64 0, .int .i64 0, .int .i64 0, .int .i64 0, .int .i64 0, .int .i64 0, .int .i64 0, .int .i64 0, .int .i64 0, .int .i64 0] (R i) (by rw [hs]; kernel_rfl) (by rw [hs]; rfl) (hone i)
      go_wp2_with (first
        | (go_at_call 19; refine (HTr.out _ _ _ _ hJ1 hlt).mono ?_; rintro e w3 ⟨v1, rfl, hJ2⟩)
        | (go_at_call 18; refine (HCp.out _ _ _ _ _ hJ2).mono ?_; rintro e w4 ⟨ra, rl, rc, rfl, hJ3⟩)
        | (at_builtin; obtain ⟨v2, w5, hr, hJ4⟩ := HAp.out _ _ _ _ _ _ _ hJ3; refine Lib.wpList_append_run _ rfl _ _ _ _ rfl _ _ rfl rfl _ _ hr ?_; clear hr))
      · refine ⟨⟨i + 1, i + 1, by omega, by omega, by go_num, by go_num, ?_⟩, by simp only [intOf]; omega⟩
        rw [if_pos (by omega)] at hJ4
        exact hJ4
      · refine ⟨⟨i + 1, rows, by omega, by omega, by go_num, rfl, ?_⟩, by simp only [intOf]; omega⟩
        rw [if_neg (by omega)] at hJ4
        exact hJ4
    · obtain rfl : i = 16 := by omega
      obtain ⟨oa, ol, oc, rfl, hro, hP⟩ := HEnd.out _ _ _ hJ1
      have hP := Lib.hid hP
      go_wp2
      exact hP.out
set_option maxHeartbeats 1000000 in
theorem tut_no (n : Int) (ea : Option Addr) (el ec : Nat) (b : Bool) (hb : b = false ∨ 9 < el) (w : World) (J0 : World → Prop) (Post : Ending → World → Prop) (hP : ∀ W, J0 W → Post (.returned (.tuple #[.slice none 0 0, .bool false])) W)
  (hGO : ∀ W, W = w.alloc (.cells #[.int .i64 n, .slice ea el ec] 25) → Calls Tryz.prog 7 #[.agg #[.int .i64 n, .slice ea el ec]] W fun e w' => e = .returned (.bool b) ∧ J0 w' ∧ w'.cell? ⟨w.heap.size, 0, none⟩ = some (.int .i64 n) ∧ w'.cell? ⟨w.heap.size, 1, none⟩ = some (.slice ea el ec))
  : Calls Tryz.prog 6 #[.agg #[.int .i64 n, .slice ea el ec]] w Post := by
  have HGO := Lib.hid hGO
  have HP := Lib.hid hP
  clear hGO hP
  cases b with
  | false =>
    go_enter Tryz.func6, Tryz.ntmps6
    go_wp2_with (go_at_call 7; refine (HGO.out _ rfl).mono ?_; rintro e w1 ⟨rfl, hw1, hw2, hw3⟩)
    exact HP.out _ hw1
  | true =>
    have h9 : (el : Int) > 9 := by rcases hb with c | c; cases c; omega
    clear hb
    go_enter Tryz.func6, Tryz.ntmps6
    go_wp2_with (go_at_call 7; refine (HGO.out _ rfl).mono ?_; rintro e w1 ⟨rfl, hw1, hw2, hw3⟩)
    exact HP.out _ hw1
end Go.Proofs.YtafgbjhojkgbjaaGreatDoor

/-
  addTerms of the program, by its own walk: a square of numbers is added to another, by some rows down and some places on.
-/
import Derived.Test.YtafgbjhojkgbjaaGreatDoorCtx
import Derived.WalkKit
import Derived.BigCall
import Derived.BigGuard
import Derived.Lib.Hide
import Derived.OneCell
import Derived.Deep.QuietTactic
import Derived.BigQuiet
import Derived.StillTailTactics
namespace Go.Proofs.YtafgbjhojkgbjaaGreatDoor
open Go Go.Den Go.RowKit
set_option linter.unusedVariables false
set_option linter.unusedSimpArgs false
set_option maxRecDepth 100000
theorem s16 {i x : Nat} (h : i + x < 64) : IntKind.wrap .i64 ((i : Int) + (x : Int)) = ((i + x : Nat) : Int) := by
  simp [IntKind.wrap, IntKind.bits, IntKind.signed]
  omega
set_option maxHeartbeats 4000000 in
theorem add_walk (ob oo x y : Nat) (hx : x ≤ 1) (hy : y ≤ 1) (T : Array Value) (S : Nat → Nat → Nat → Int) (V : Nat → Nat → Int)
  (J : Nat → Nat → World → Prop) (w : World)
  (h0 : ∀ W, W = w.alloc (.cells T 46) → J 0 0 W)
  (hcell : ∀ i j W, J i j W → i + x < 16 → j + y < 16 → W.cell? ⟨ob, oo + (i + x) * 16 + (j + y), none⟩ = some (.int .i64 (S i j ((i + x) * 16 + (j + y)))) ∧ W.cell? ⟨w.heap.size, i * 16 + j, none⟩ = some (.int .i64 (V i j)) ∧ W.frozen? ⟨ob, oo + (i + x) * 16 + (j + y), none⟩ = false)
  (hdr : ∀ i j W, J i j W → ∀ n, J i j (W.drewN n))
  (hset : ∀ i j W, J i j W → i + x < 16 → j + y < 16 → J i (j + 1) (W.setCell ⟨ob, oo + (i + x) * 16 + (j + y), none⟩ (.int .i64 (wrap64 (S i j ((i + x) * 16 + (j + y)) + V i j)))))
  (hrow : ∀ i j W, J i j W → i + x < 16 → ¬ j + y < 16 → J (i + 1) 0 W)
  (Post : World → Prop) (hend : ∀ i W, J i 0 W → ¬ i + x < 16 → Post W)
  : Calls Tryz.prog 34 #[.pointer (some ⟨ob, oo, none⟩), .agg T, .int .i64 x, .int .i64 y] w fun e w' => e = .returned (.tuple #[]) ∧ Post w' := by
  have H0 := Lib.hid h0
  have HC := Lib.hid hcell
  have HD := Lib.hid hdr
  have HS := Lib.hid hset
  have HR := Lib.hid hrow
  have HE := Lib.hid hend
  clear h0 hcell hdr hset hrow hend
  go_enter Tryz.func34, Tryz.ntmps34
  go_wp2
  have J0 := H0.out _ rfl
  go_loopw [8] (fun s wr => ∃ i : Nat, i ≤ 16 ∧ s = .int .i64 i ∧ J i 0 wr) (fun s _ => 17 - (intOf s).toNat)
  case atStart => exact ⟨0, by omega, rfl, J0⟩
  case round =>
    obtain ⟨i, hi, rfl, hJ⟩ := hrel
    have e1 : IntKind.wrap .i64 ((i : Int) + (x : Int)) = ((i + x : Nat) : Int) := s16 (by omega)
    by_cases hix : i + x < 16
    · have h1 : ((i + x : Nat) : Int) < 16 := by omega
      go_wp2
      go_loopw [9] (fun s wr => ∃ j : Nat, j ≤ 16 ∧ s = .int .i64 j ∧ J i j wr) (fun s _ => 17 - (intOf s).toNat)
      case atStart => exact ⟨0, by omega, rfl, hJ⟩
      case round =>
        obtain ⟨j, hj, rfl, hJ1⟩ := hrel
        have e2 : IntKind.wrap .i64 ((j : Int) + (y : Int)) = ((j + y : Nat) : Int) := s16 (by omega)
        by_cases hjy : j + y < 16
        · have h2 : ((j + y : Nat) : Int) < 16 := by omega
          obtain ⟨c1, c2, c3⟩ := HC.out i j _ hJ1 hix hjy
          have z1 : (0 : Int) ≤ (i : Int) + (x : Int) := by omega
          have z2 : (0 : Int) ≤ (j : Int) + (y : Int) := by omega
          have t1 : ((i : Int) + (x : Int)).toNat = i + x := by omega
          have t2 : ((j : Int) + (y : Int)).toNat = j + y := by omega
          have i16 : (i : Int) < 16 := by omega
          have j16 : (j : Int) < 16 := by omega
          go_wp2
          go_still_tail 19, (by kernel_rfl)
          have hJd := HD.out i j _ hJ1 1
          change wpList _ _ _ _ _ (wr.drewN 1)
          generalize wr.drewN 1 = w2 at hJd ⊢
          clear c1 c2 c3
          obtain ⟨c1, c2, c3⟩ := HC.out i j _ hJd hix hjy
          have hJs := HS.out i j _ hJd hix hjy
          go_wp2
          go_simp
          exact ⟨⟨j + 1, by omega, by omega, hJs⟩, by simp only [intOf]; omega⟩
        · have h2 : ¬ ((j + y : Nat) : Int) < 16 := by omega
          have hJ2 := HR.out i j _ hJ1 hix hjy
          go_wp2
          go_roundw
          case rel => exact ⟨i + 1, by omega, by go_num, hJ2⟩
          case measure => simp [intOf]; omega
    · have h1 : ¬ ((i + x : Nat) : Int) < 16 := by omega
      have hP := HE.out i _ hJ hix
      go_wp2
      go_end0
      exact ⟨rfl, hP⟩
end Go.Proofs.YtafgbjhojkgbjaaGreatDoor

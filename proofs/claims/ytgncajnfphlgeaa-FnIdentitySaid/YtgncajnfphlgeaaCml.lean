/-
  CountMorphisms of the program, by its own walk: all images are given.
-/
import Derived.Test.YtgncajnfphlgeaaCtx
import Derived.WalkKit
import Derived.BigCall
import Derived.BigGuard
import Derived.Lib.Hide
import Derived.OneCell
import Derived.Deep.QuietTactic
import Derived.BigQuiet
import Derived.Deep.RegionHeld3
import Derived.Deep.RegionWith
namespace Go.Proofs.Ytgncajnfphlgeaa
open Go Go.Den Go.RowKit
set_option linter.unusedVariables false
set_option linter.unusedSimpArgs false
set_option maxRecDepth 100000
set_option maxHeartbeats 2000000 in
theorem cmL_walk (ga : Option Addr) (gl gc : Nat) (ha : Option Addr) (hl hc : Nat) (vb lv eb le gb hb mb nb fb : Nat) (gN hN n x y : Int) (b : Bool) (hle : le ≤ 5) (hn0 : 0 ≤ n) (hn1 : n ≤ 1000000)
  (J J' : World → Prop)
  (hg0 : ∀ w, J w → w.cell? ⟨gb, 0, none⟩ = some (.int .i64 gN))
  (hg1 : ∀ w, J w → w.cell? ⟨gb, 1, none⟩ = some (.slice ga gl gc))
  (hh0 : ∀ w, J w → w.cell? ⟨hb, 0, none⟩ = some (.int .i64 hN))
  (hh1 : ∀ w, J w → w.cell? ⟨hb, 1, none⟩ = some (.slice ha hl hc))
  (hm0 : ∀ w, J w → w.cell? ⟨mb, 0, none⟩ = some (.slice (some ⟨vb, 0, none⟩) lv lv))
  (hm1 : ∀ w, J w → w.cell? ⟨mb, 1, none⟩ = some (.slice (some ⟨eb, 0, none⟩) le le))
  (hnn : ∀ w, J w → w.cell? ⟨nb, 0, none⟩ = some (.int .i64 n) ∧ w.frozen? ⟨nb, 0, none⟩ = false ∧ J' (w.setCell ⟨nb, 0, none⟩ (.int .i64 (n + 1))))
  (hdr : ∀ w, J w → ∀ m, J (w.drewN m))
  (hI : ∀ w, J w → Calls Try.prog 15 #[.agg #[.int .i64 gN, .slice ga gl gc], .agg #[.int .i64 hN, .slice ha hl hc], .agg #[.slice (some ⟨vb, 0, none⟩) lv lv, .slice (some ⟨eb, 0, none⟩) le le]] w fun e w' => e = .returned (.bool b) ∧ J w')
  (hMn : b = true → ∀ w, J w → Calls Try.prog 24 #[.slice (some ⟨vb, 0, none⟩) lv lv] w fun e w' => e = .returned (.int .i64 x) ∧ J w')
  (hMx : b = true → ∀ w, J w → Calls Try.prog 25 #[.slice (some ⟨vb, 0, none⟩) lv lv] w fun e w' => e = .returned (.int .i64 y) ∧ J w')
  (Q : World → Prop) (hQ0 : b = false ∨ x = y → ∀ w, J w → Q w) (hQ1 : b = true → x ≠ y → ∀ w, J' w → Q w)
  (w : World) (hJ : J w)
  : Calls Try.prog 23 #[.int .i64 le, .pointer (some ⟨mb, 0, none⟩), .pointer (some ⟨gb, 0, none⟩), .pointer (some ⟨hb, 0, none⟩), .pointer (some ⟨nb, 0, none⟩), .pointer (some ⟨fb, 0, none⟩)] w fun e w' => e = .returned (.tuple #[]) ∧ Q w' := by
  have Hnn := Lib.hid hnn
  have HI := Lib.hid hI
  have HMn := Lib.hid hMn
  have HMx := Lib.hid hMx
  have HQ0 := Lib.hid hQ0
  have HQ1 := Lib.hid hQ1
  have KS : Hid (∀ w', J w' → w'.cell? ⟨gb, 0, none⟩ = some (.int .i64 gN) ∧ w'.cell? ⟨gb, 1, none⟩ = some (.slice ga gl gc) ∧ w'.cell? ⟨hb, 0, none⟩ = some (.int .i64 hN) ∧ w'.cell? ⟨hb, 1, none⟩ = some (.slice ha hl hc) ∧ w'.cell? ⟨mb, 0, none⟩ = some (.slice (some ⟨vb, 0, none⟩) lv lv) ∧ w'.cell? ⟨mb, 1, none⟩ = some (.slice (some ⟨eb, 0, none⟩) le le)) := Lib.hid fun w h => ⟨hg0 w h, hg1 w h, hh0 w h, hh1 w h, hm0 w h, hm1 w h⟩
  have Hd : Hid (∀ w, J w → J w.drew) := Lib.hid fun w h => hdr w h 1
  have c := hm1 _ hJ
  clear hg0 hg1 hh0 hh1 hm0 hm1 hnn hdr hI hMn hMx hQ0 hQ1
  go_enter Try.func23, Try.ntmps23
  go_wp2
  clear c
  cases b with
  | false =>
    have hK0 := KS.out _ hJ
    obtain ⟨k1, k2, k3, k4, k5, k6⟩ := hK0
    first
    | go_region_with (first | (go_at_call 15; refine (HI.out _ ?_).mono ?_; (first | exact hJ | exact Hd.out _ hJ); rintro e w2 ⟨rfl, hJ2⟩))
    | fail
    all_goals (go_wp2; refine bodyPost_ret (results_none rfl _ _ _) rfl ?_; exact ⟨rfl, HQ0.out (by simp) _ hJ2⟩)
  | true =>
    have HN := Lib.hid (HMn.out rfl)
    have HX := Lib.hid (HMx.out rfl)
    have HR := Lib.hid (HQ1.out rfl)
    clear HMn HMx HQ1
    go_region_held3 (fun w' => w'.cell? ⟨gb, 0, none⟩ = some (.int .i64 gN) ∧ w'.cell? ⟨gb, 1, none⟩ = some (.slice ga gl gc) ∧ w'.cell? ⟨hb, 0, none⟩ = some (.int .i64 hN) ∧ w'.cell? ⟨hb, 1, none⟩ = some (.slice ha hl hc) ∧ w'.cell? ⟨mb, 0, none⟩ = some (.slice (some ⟨vb, 0, none⟩) lv lv) ∧ w'.cell? ⟨mb, 1, none⟩ = some (.slice (some ⟨eb, 0, none⟩) le le))
      (first | exact KS.out _ hJ4 | exact KS.out _ hJ3 | exact KS.out _ hJ2 | exact KS.out _ hJ | exact KS.out _ (Hd.out _ hJ))
      ((first | (go_at_call 15; refine (HI.out _ ?_).mono ?_; (first | exact hJ | exact Hd.out _ hJ); rintro e w2 ⟨rfl, hJ2⟩) | (go_at_call 24; refine (HN.out _ ?_).mono ?_; (first | exact hJ2 | exact Hd.out _ hJ2 ); rintro e w3 ⟨rfl, hJ3⟩) | (go_at_call 25; refine (HX.out _ ?_).mono ?_; (first | exact hJ3 | exact Hd.out _ hJ3 ); rintro e w4 ⟨rfl, hJ4⟩)))
    by_cases hxy : x = y
    · subst hxy
      go_wp2
      refine bodyPost_ret (results_none rfl _ _ _) rfl ?_
      exact ⟨rfl, HQ0.out (by simp) _ hJ4⟩
    · obtain ⟨d1, d2, d3⟩ := Hnn.out _ hJ4
      go_wp2
      refine bodyPost_ret (results_none rfl _ _ _) rfl ?_
      exact ⟨rfl, HR.out hxy _ d3⟩
end Go.Proofs.Ytgncajnfphlgeaa

/-
  The program's ParseInt, by its own walk: a number's one text is read, any other text is refused.
-/
import Derived.Test.YthhogfhffpfkdaaGreatDoorLaid
import Derived.Test.YthhogfhffpfkdaaGreatDoorLaidW
import Derived.Shelf.Strconv.AtoiAll
import Derived.Lib.AtoiOr
import Derived.Lib.AtoiErrMem
import Derived.Lib.AtoiAllCases
import Derived.WalkKit
import Derived.BigCall
import Derived.BigGuard
namespace Go.Proofs.YthhogfhffpfkdaaGreatDoor
open Go Go.Den Go.RowKit Go.Shelf
set_option linter.unusedVariables false
set_option maxRecDepth 100000
theorem itoa_laid (n : Int) (h0 : -9223372036854775808 ≤ n) (h1 : n ≤ 9223372036854775807) (w : World) (hT : Lib.TabIs Tryz.prog w "internal/strconv.uint64pow10" .u64 Lib.pow10Tab) :
    Calls Tryz.prog 24 #[.int .i64 n] w fun e w' => e = .returned (.string ⟨(Lib.itoa n).toArray⟩) ∧ Below w.heap.size w w' :=
  (Any.strconv_Itoa Tryz.laysM171 n h0 h1 w hT).mono fun e w' ⟨he, k, os, hw⟩ => ⟨he, by subst hw; exact below_grow w k os⟩
theorem formatInt_walk (n : Int) (h0 : -9223372036854775808 ≤ n) (h1 : n ≤ 9223372036854775807) (w : World) (hT : Lib.TabIs Tryz.prog w "internal/strconv.uint64pow10" .u64 Lib.pow10Tab) :
    Calls Tryz.prog 8 #[.int .i64 n] w fun e w' => e = .returned (.string ⟨(Lib.itoa n).toArray⟩) ∧ Below w.heap.size w w' := by
  go_enter Tryz.func8, Tryz.ntmps8
  go_wp2_with (go_at_call 24; refine (itoa_laid n h0 h1 _ hT).mono ?_; rintro e w' ⟨rfl, hw⟩)
  go_ret
  exact ⟨rfl, hw⟩
theorem atoi_ok (s : ByteArray) (hmax : s.size ≤ 9223372036854775806) (v : Int) (h : Lib.atoiAll s.data.toList = .ok v) (w : World) :
    Calls Tryz.prog 90 #[.string s] w fun e w' => e = .returned (.tuple #[.int .i64 v, .nilIface]) ∧ Below w.heap.size w w' :=
  (Any.strconv_Atoi_ok Tryz.laysC172 s hmax v h w).mono fun e w' ⟨he, hw⟩ => ⟨he, by
    rcases hw with rfl | ⟨t, rfl⟩
    · exact Below.refl _ _
    · exact Lib.bytesWorld_below _ _ _⟩
theorem atoi_no (s : ByteArray) (hlim : s.size ≤ 281474976710656) (h : ∀ v, Lib.atoiAll s.data.toList ≠ .ok v) (w : World) (hK : Known w) :
    Calls Tryz.prog 90 #[.string s] w fun e w' => ∃ x p, e = .returned (.tuple #[.int .i64 x, .iface 204 p]) ∧ (-9223372036854775808 ≤ x ∧ x ≤ 9223372036854775807) ∧ Below w.heap.size w w' := by
  obtain ⟨_, _, ⟨t1, p1, hs⟩, ⟨t2, p2, hr⟩⟩ := hK
  cases he : Lib.atoiAll s.data.toList with
  | ok v => exact absurd he (h v)
  | range => exact (Any.strconv_Atoi_range Tryz.laysC172 s hlim he _ w hr (.inr ⟨_, _, rfl⟩)).mono fun e w' ⟨N, h1, _, _, hb⟩ => ⟨_, _, h1, Lib.atoiSat_bounds _, hb⟩
  | _ => exact (Any.strconv_Atoi_syntax Tryz.laysC172 s hlim he _ w hs (.inr ⟨_, _, rfl⟩)).mono fun e w' ⟨N, h1, _, _, hb⟩ => ⟨_, _, h1, by omega, hb⟩
theorem parseInt_walk (s : ByteArray) (w : World) (hlim : s.size ≤ 281474976710656) (hK : Known w) :
    Calls Tryz.prog 36 #[.string s] w fun e w' => e = .returned (.tuple #[.int .i64 (pInt s).1, .bool (pInt s).2]) ∧ Below w.heap.size w w' := by
  cases h : Lib.atoiAll s.data.toList with
  | ok v =>
    obtain ⟨v0, v1⟩ := Lib.atoiAll_bounds h
    have hp : pInt s = if bl s = Lib.itoa v then (v, true) else (0, false) := by unfold pInt bl; rw [h]
    go_enter Tryz.func36, Tryz.ntmps36
    go_wp2_with (go_at_call 90; refine (atoi_ok s (by omega) v h _).mono ?_; rintro e w1 ⟨rfl, hw1⟩)
    have hT : Lib.TabIs Tryz.prog w1 "internal/strconv.uint64pow10" .u64 Lib.pow10Tab := tab_keep w w1 (hw1.block _ (tab_lt w hK.1)) hK.1
    go_wp2_with (go_at_call 8; refine (formatInt_walk v v0 v1 _ hT).mono ?_; rintro e w2 ⟨rfl, hw2⟩)
    · go_ret2
      refine ⟨?_, hw1.trans (hw2.mono hw1.size)⟩
      rename_i hc
      have hc' : ¬ bl s = Lib.itoa v := fun k => by
        rw [ByteArray.toList_eq] at hc
        have k2 : Lib.itoa v = s.data.toList := k.symm
        rw [← k2] at hc
        simp at hc
      rw [hp, if_neg hc']
      rfl
    · go_wp2
      go_ret2
      refine ⟨?_, hw1.trans (hw2.mono hw1.size)⟩
      rename_i hc
      have hc' : bl s = Lib.itoa v := by
        rw [ByteArray.toList_eq] at hc
        simp only [Bool.not_eq_false', beq_iff_eq] at hc
        exact hc.symm
      rw [hp, if_pos hc']
      rfl
  | range =>
    have hp : pInt s = (0, false) := by unfold pInt bl; rw [h]
    go_enter Tryz.func36, Tryz.ntmps36
    go_wp2_with (go_at_call 90; refine (atoi_no s hlim (fun v k => by rw [h] at k; cases k) _ hK).mono ?_; rintro e w1 ⟨x, p, rfl, hx, hw1⟩)
    go_ret2
    exact ⟨by rw [hp]; rfl, hw1⟩
  | _ =>
    have hp : pInt s = (0, false) := by unfold pInt bl; rw [h]
    go_enter Tryz.func36, Tryz.ntmps36
    go_wp2_with (go_at_call 90; refine (atoi_no s hlim (fun v k => by rw [h] at k; cases k) _ hK).mono ?_; rintro e w1 ⟨x, p, rfl, hx, hw1⟩)
    go_ret2
    exact ⟨by rw [hp]; rfl, hw1⟩
end Go.Proofs.YthhogfhffpfkdaaGreatDoor

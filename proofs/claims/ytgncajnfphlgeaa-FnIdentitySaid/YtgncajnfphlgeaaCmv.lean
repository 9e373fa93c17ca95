/-
  CountMorphisms of the program, by its own walk: the closure that gives images to the vertices.
-/
import Derived.Test.YtgncajnfphlgeaaCtx
import Derived.WalkKit
import Derived.BigCall
import Derived.BigGuard
import Derived.Lib.Hide
import Derived.OneCell
import Derived.Deep.QuietTactic
import Derived.BigQuiet
namespace Go.Proofs.Ytgncajnfphlgeaa
open Go Go.Den Go.RowKit
set_option linter.unusedVariables false
set_option linter.unusedSimpArgs false
set_option maxRecDepth 100000
theorem rnd_at0 {σ : Type} {f : Nat → σ → Option σ} {l j : Nat} {s r : σ} (hj : j < l) (h : Lb.rnd f (l - j) j s = some r) : ∃ s', f j s = some s' ∧ Lb.rnd f (l - (j + 1)) (j + 1) s' = some r := by
  rw [show l - j = (l - (j + 1)) + 1 by omega] at h
  exact Option.bind_eq_some_iff.1 h
set_option maxHeartbeats 2000000 in
theorem cmV0_walk (gb hb mb nb fb vvb : Nat) (gN : Int) (J Q : World → Prop)
  (hg0 : ∀ w, J w → w.cell? ⟨gb, 0, none⟩ = some (.int .i64 gN))
  (hff : ∀ w, J w → w.cell? ⟨fb, 0, none⟩ = some (.func (.func 23) #[] #[.pointer (some ⟨mb, 0, none⟩), .pointer (some ⟨gb, 0, none⟩), .pointer (some ⟨hb, 0, none⟩), .pointer (some ⟨nb, 0, none⟩), .pointer (some ⟨fb, 0, none⟩)]))
  (hE : ∀ w, J w → Calls Try.prog 23 #[.int .i64 0, .pointer (some ⟨mb, 0, none⟩), .pointer (some ⟨gb, 0, none⟩), .pointer (some ⟨hb, 0, none⟩), .pointer (some ⟨nb, 0, none⟩), .pointer (some ⟨fb, 0, none⟩)] w fun e w' => e = .returned (.tuple #[]) ∧ Q w')
  (w : World) (hJ : J w)
  : Calls Try.prog 26 #[.int .i64 gN, .pointer (some ⟨gb, 0, none⟩), .pointer (some ⟨fb, 0, none⟩), .pointer (some ⟨mb, 0, none⟩), .pointer (some ⟨hb, 0, none⟩), .pointer (some ⟨vvb, 0, none⟩)] w fun e w' => e = .returned (.tuple #[]) ∧ Q w' := by
  have HE := Lib.hid hE
  have c := hg0 _ hJ
  have c2 := hff _ hJ
  clear hg0 hff hE
  go_enter Try.func26, Try.ntmps26
  go_wp2_with (go_at_call 23; refine (HE.out _ hJ).mono ?_; rintro e w2 ⟨rfl, hJ2⟩)
  refine bodyPost_ret (results_none rfl _ _ _) rfl ?_
  exact ⟨rfl, hJ2⟩
set_option maxHeartbeats 2000000 in
theorem cmV_walk (v N H : Nat) (vb gb hb mb nb fb vvb : Nat) (hv : v < N) (hN : N ≤ 4) (hH : H ≤ 3)
  (J : List Int × List Int × Int → World → Prop)
  (hg0 : ∀ s w, J s w → w.cell? ⟨gb, 0, none⟩ = some (.int .i64 N))
  (hh0 : ∀ s w, J s w → w.cell? ⟨hb, 0, none⟩ = some (.int .i64 H))
  (hm0 : ∀ s w, J s w → w.cell? ⟨mb, 0, none⟩ = some (.slice (some ⟨vb, 0, none⟩) N N))
  (hvv : ∀ s w, J s w → w.cell? ⟨vvb, 0, none⟩ = some (.func (.func 26) #[] #[.pointer (some ⟨gb, 0, none⟩), .pointer (some ⟨fb, 0, none⟩), .pointer (some ⟨mb, 0, none⟩), .pointer (some ⟨hb, 0, none⟩), .pointer (some ⟨vvb, 0, none⟩)]))
  (hrd : ∀ s w, J s w → w.cell? ⟨vb, v, none⟩ = some (.int .i64 (s.1.getD v 0)))
  (hdr : ∀ s w, J s w → ∀ m, J s (w.drewN m))
  (hst : ∀ s w, J s w → ∀ x, w.frozen? ⟨vb, v, none⟩ = false ∧ J (s.1.set v x, s.2) (w.setCell ⟨vb, v, none⟩ (.int .i64 x)))
  (f : Nat → List Int × List Int × Int → Option (List Int × List Int × Int))
  (hget : ∀ (s : List Int × List Int × Int) w (x : Int), J (s.1.set v x, s.2) w → (s.1.set v x).getD v 0 = x)
  (hfv : ∀ (j : Nat) s s' w, J (s.1.set v (j : Int), s.2) w → f j s = some s' → s'.1.getD v 0 = j)
  (hrec : ∀ (j : Nat) s s' w, j < H → J (s.1.set v (j : Int), s.2) w → f j s = some s' → Calls Try.prog 26 #[.int .i64 (v + 1), .pointer (some ⟨gb, 0, none⟩), .pointer (some ⟨fb, 0, none⟩), .pointer (some ⟨mb, 0, none⟩), .pointer (some ⟨hb, 0, none⟩), .pointer (some ⟨vvb, 0, none⟩)] w fun e w' => e = .returned (.tuple #[]) ∧ J s' w')
  (r s0 : List Int × List Int × Int) (w : World) (hJ : J s0 w) (hr : Lb.rnd f H 0 s0 = some r)
  : Calls Try.prog 26 #[.int .i64 v, .pointer (some ⟨gb, 0, none⟩), .pointer (some ⟨fb, 0, none⟩), .pointer (some ⟨mb, 0, none⟩), .pointer (some ⟨hb, 0, none⟩), .pointer (some ⟨vvb, 0, none⟩)] w fun e w' => e = .returned (.tuple #[]) ∧ J (r.1.set v (H : Int), r.2) w' := by
  have Hg0 := Lib.hid hg0
  have Hh0 := Lib.hid hh0
  have Hm0 := Lib.hid hm0
  have Hvv := Lib.hid hvv
  have Hrd := Lib.hid hrd
  have Hdr := Lib.hid hdr
  have Hst := Lib.hid hst
  have Hget := Lib.hid hget
  have Hfv := Lib.hid hfv
  have Hrec := Lib.hid hrec
  have Hr := Lib.hid hr
  have c1 := hg0 _ _ hJ
  have c2 := hm0 _ _ hJ
  have c3 := hrd _ _ hJ
  obtain ⟨c4, hJ1⟩ := hst _ _ hJ 0
  clear hg0 hh0 hm0 hvv hrd hdr hst hget hfv hrec hr
  go_enter Try.func26, Try.ntmps26
  go_wp2
  clear c1 c2 c3 c4
  go_loopw [] (fun wr => ∃ j : Nat, j ≤ H ∧ ∃ s, J (s.1.set v (j : Int), s.2) wr ∧ Hid (Lb.rnd f (H - j) j s = some r)) (fun wr => H - (intOf ((wr.cell? ⟨vb, v, none⟩).getD undef)).toNat)
  case atStart => exact ⟨0, Nat.zero_le _, s0, hJ1, Lib.hid Hr.out⟩
  case round =>
    obtain ⟨j, hj, s, hJ, hr⟩ := hrel
    have c0 := Hh0.out _ _ hJ
    have c2 := Hm0.out _ _ hJ
    have c3 := Hrd.out _ _ hJ
    have c5 := Hvv.out _ _ hJ
    rw [show (s.1.set v (j : Int), s.2).1.getD v 0 = (j : Int) from Hget.out _ _ _ hJ] at c3
    by_cases hjl : j < H
    · obtain ⟨s', hf, hr'⟩ := rnd_at0 hjl hr.out
      have hr' := Lib.hid hr'
      go_wp2
      go_quiet (fail)
      rename_i nq
      have hJn := Hdr.out _ _ hJ nq
      have HR := Lib.hid (Hrec.out j s s' _ hjl hJn hf)
      have hfv := Hfv.out _ _ _ _ hJn hf
      clear hf
      go_wp2_with (go_at_call 26; refine (HR.out).mono ?_; rintro e w2 ⟨rfl, hJ2⟩; have k1 := Hm0.out _ _ hJ2; have k2 := Hrd.out _ _ hJ2; rw [hfv] at k2; obtain ⟨k3, k4⟩ := Hst.out _ _ hJ2 ((j : Int) + 1))
      have k5 := Hrd.out _ _ k4
      have k6 := Hget.out _ _ _ k4
      rw [show (s'.1.set v ((j : Int) + 1), s'.2).1.getD v 0 = (j : Int) + 1 from k6] at k5
      go_simp
      exact ⟨⟨j + 1, by omega, s'.1, s'.2.1, s'.2.2, k4, hr'⟩, by simp only [Option.getD_some, intOf]; omega⟩
    · go_wp2
      go_quiet (fail)
      rename_i nq
      have hJn := Hdr.out _ _ hJ nq
      go_wp2
      go_end0
      obtain rfl : j = H := by omega
      have he := hr.out
      rw [Nat.sub_self] at he
      obtain rfl : s = r := Option.some.inj he
      exact ⟨rfl, hJn⟩
end Go.Proofs.Ytgncajnfphlgeaa

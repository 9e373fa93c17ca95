/-
  CountMorphisms of the program, by its own walk: the closure that gives images to the edges.
-/
import Derived.Test.YtgncajnfphlgeaaCtx
import Derived.WalkKit
import Derived.BigCall
import Derived.BigGuard
import Derived.Lib.Hide
import Derived.OneCell
import Derived.Deep.QuietTactic
import Derived.BigQuiet
namespace Go.Proofs.Ytgncajnfphlgeaa
open Go Go.Den Go.RowKit
set_option linter.unusedVariables false
set_option linter.unusedSimpArgs false
set_option maxRecDepth 100000
theorem rnd_at {σ : Type} {f : Nat → σ → Option σ} {l j : Nat} {s r : σ} (hj : j < l + 1) (h : Lb.rnd f (l + 1 - j) j s = some r) : ∃ s', f j s = some s' ∧ Lb.rnd f (l + 1 - (j + 1)) (j + 1) s' = some r := by
  rw [show l + 1 - j = (l + 1 - (j + 1)) + 1 by omega] at h
  exact Option.bind_eq_some_iff.1 h
set_option maxHeartbeats 2000000 in
theorem cmE_walk (k : Nat) (gx go gl gc : Nat) (ha : Option Addr) (hl hc hx ho : Nat) (vb lv eb le gb hb mb nb fb : Nat) (a b : Nat) (V : Nat → Int) (p q : Nat → Int) (hav : a < lv) (hbv : b < lv) (hlv : lv ≤ 4) (hk : k < le) (hlt : le ≤ 5) (hgl : gl = le) (hL : hl ≤ 3)
  (hha : 0 < hl → ha = some ⟨hx, ho, none⟩)
  (J : List Int → Int → World → Prop)
  (hg1 : ∀ E n w, J E n w → w.cell? ⟨gb, 1, none⟩ = some (.slice (some ⟨gx, go, none⟩) gl gc))
  (hh1 : ∀ E n w, J E n w → w.cell? ⟨hb, 1, none⟩ = some (.slice ha hl hc))
  (hm0 : ∀ E n w, J E n w → w.cell? ⟨mb, 0, none⟩ = some (.slice (some ⟨vb, 0, none⟩) lv lv))
  (hm1 : ∀ E n w, J E n w → w.cell? ⟨mb, 1, none⟩ = some (.slice (some ⟨eb, 0, none⟩) le le))
  (hff : ∀ E n w, J E n w → w.cell? ⟨fb, 0, none⟩ = some (.func (.func 23) #[] #[.pointer (some ⟨mb, 0, none⟩), .pointer (some ⟨gb, 0, none⟩), .pointer (some ⟨hb, 0, none⟩), .pointer (some ⟨nb, 0, none⟩), .pointer (some ⟨fb, 0, none⟩)]))
  (hga : ∀ E n w, J E n w → w.cell? ⟨gx, go + k * 2, none⟩ = some (.int .i64 a))
  (hgb : ∀ E n w, J E n w → w.cell? ⟨gx, go + k * 2 + 1, none⟩ = some (.int .i64 b))
  (hva : ∀ E n w, J E n w → w.cell? ⟨vb, a, none⟩ = some (.int .i64 (V a)))
  (hvb : ∀ E n w, J E n w → w.cell? ⟨vb, b, none⟩ = some (.int .i64 (V b)))
  (hhp : ∀ E n w, J E n w → ∀ i : Nat, i < hl → w.cell? ⟨hx, ho + i * 2, none⟩ = some (.int .i64 (p i)) ∧ w.cell? ⟨hx, ho + i * 2 + 1, none⟩ = some (.int .i64 (q i)))
  (hdr : ∀ E n w, J E n w → ∀ m, J E n (w.drewN m))
  (hst : ∀ E n w, J E n w → ∀ im, (∃ old, w.cell? ⟨eb, k, none⟩ = some old) ∧ w.frozen? ⟨eb, k, none⟩ = false ∧ J (E.set k im) n (w.setCell ⟨eb, k, none⟩ (.int .i64 im)))
  (f : Nat → List Int × Int → Option (List Int × Int)) (f' : List Int × Int → Option (List Int × Int))
  (hf0 : ∀ E n, f 0 (E, n) = cond (decide (V a = V b)) (f' (E.set k (-1), n)) (some (E, n)))
  (hf1 : ∀ (i : Nat) E n, i < hl → f (i + 1) (E, n) = cond (decide (p i = min (V a) (V b)) && decide (q i = max (V a) (V b))) (f' (E.set k i, n)) (some (E, n)))
  (hrec : ∀ E n w s, J E n w → f' (E, n) = some s → Calls Try.prog 23 #[.int .i64 (k + 1), .pointer (some ⟨mb, 0, none⟩), .pointer (some ⟨gb, 0, none⟩), .pointer (some ⟨hb, 0, none⟩), .pointer (some ⟨nb, 0, none⟩), .pointer (some ⟨fb, 0, none⟩)] w fun e w' => e = .returned (.tuple #[]) ∧ J s.1 s.2 w')
  (r : List Int × Int) (E0 : List Int) (n0 : Int) (w : World) (hJ : J E0 n0 w) (hr : Lb.rnd f (hl + 1) 0 (E0, n0) = some r)
  : Calls Try.prog 23 #[.int .i64 k, .pointer (some ⟨mb, 0, none⟩), .pointer (some ⟨gb, 0, none⟩), .pointer (some ⟨hb, 0, none⟩), .pointer (some ⟨nb, 0, none⟩), .pointer (some ⟨fb, 0, none⟩)] w fun e w' => e = .returned (.tuple #[]) ∧ J r.1 r.2 w' := by
  have Hg1 := Lib.hid hg1
  have Hh1 := Lib.hid hh1
  have Hm0 := Lib.hid hm0
  have Hm1 := Lib.hid hm1
  have Hff := Lib.hid hff
  have Hga := Lib.hid hga
  have Hgb := Lib.hid hgb
  have Hva := Lib.hid hva
  have Hvb := Lib.hid hvb
  have Hhp := Lib.hid hhp
  have Hst := Lib.hid hst
  have Hdr := Lib.hid hdr
  have Hf0 := Lib.hid hf0
  have Hf1 := Lib.hid hf1
  have Hrec := Lib.hid hrec
  have Hha := Lib.hid hha
  have Hr := Lib.hid hr
  have c := hm1 _ _ _ hJ
  clear hg1 hh1 hm0 hm1 hff hga hgb hva hvb hhp hst hdr hf0 hf1 hrec hr hha
  go_enter Try.func23, Try.ntmps23
  go_wp2
  clear c
  go_loopw [7] (fun i wr => ∃ j : Nat, j ≤ hl + 1 ∧ i = .int .i64 ((j : Int) - 1) ∧ ∃ E n, J E n wr ∧ Hid (Lb.rnd f (hl + 1 - j) j (E, n) = some r)) (fun i _ => hl + 1 - (intOf i + 1).toNat)
  case atStart => exact ⟨0, Nat.zero_le _, rfl, E0, n0, hJ, Lib.hid Hr.out⟩
  case round =>
    obtain ⟨j, hj, rfl, E, n, hJ, hr⟩ := hrel
    have c1 := Hg1.out _ _ _ hJ
    have c2 := Hh1.out _ _ _ hJ
    have c3 := Hm0.out _ _ _ hJ
    have c4 := Hm1.out _ _ _ hJ
    have c5 := Hff.out _ _ _ hJ
    have c6 := Hga.out _ _ _ hJ
    have c7 := Hgb.out _ _ _ hJ
    have c8 := Hva.out _ _ _ hJ
    have c9 := Hvb.out _ _ _ hJ
    by_cases hjl : j < hl + 1
    · obtain ⟨⟨E', n'⟩, hf, hr'⟩ := rnd_at hjl hr.out
      have hr' := Lib.hid hr'
      have hf := Lib.hid hf
      match j, hj, hr, hjl, hf, hr' with
      | 0, hj, hr, hjl, hf, hr' =>
        by_cases hab : V a = V b
        · go_wp2
          go_quiet (fail)
          rename_i nq
          have hJn := Hdr.out _ _ _ hJ nq
          have c0 := Hm1.out _ _ _ hJn
          obtain ⟨⟨old, d1⟩, d2, hJ1⟩ := Hst.out _ _ _ hJn (-1)
          have d3 := Hff.out _ _ _ hJ1
          have hf' : f' (E.set k (-1), n) = some (E', n') := by rw [← hf.out, Hf0.out, hab, decide_eq_true rfl]; rfl
          have HR := Lib.hid (Hrec.out _ _ _ _ hJ1 hf')
          clear hf'
          go_wp2_with (go_at_call 23; refine (HR.out).mono ?_; rintro e w2 ⟨rfl, hJ2⟩)
          go_simp
          exact ⟨⟨1, by omega, by omega, E', n', hJ2, hr'⟩, by simp only [intOf]; omega⟩
        · have hf' : (E', n') = (E, n) := by
            have := hf.out
            rw [Hf0.out, decide_eq_false hab] at this
            exact (Option.some.inj this).symm
          obtain ⟨rfl, rfl⟩ := Prod.mk.inj hf'
          clear hf'
          go_wp2
          go_quiet (fail)
          rename_i nq
          have hJn := Hdr.out _ _ _ hJ nq
          go_wp2
          go_simp
          exact ⟨⟨1, by omega, by omega, E', n', hJn, hr'⟩, by simp only [intOf]; omega⟩
      | i + 1, hj, hr, hjl, hf, hr' =>
        rw [show ((i + 1 : Nat) : Int) - 1 = (i : Int) by omega]
        have hil : i < hl := by omega
        obtain rfl := Hha.out (by omega)
        have cp := (Hhp.out _ _ _ hJ i hil).1
        have cq := (Hhp.out _ _ _ hJ i hil).2
        have hf2 := Hf1.out i E n hil
        by_cases hab : p i = min (V a) (V b) ∧ q i = max (V a) (V b)
        · obtain ⟨hp, hq⟩ := hab
          rw [hp] at cp
          rw [hq] at cq
          go_wp2
          go_quiet (fail)
          rename_i nq
          have hJn := Hdr.out _ _ _ hJ nq
          have c0 := Hm1.out _ _ _ hJn
          obtain ⟨⟨old, d1⟩, d2, hJ1⟩ := Hst.out _ _ _ hJn i
          have d3 := Hff.out _ _ _ hJ1
          have hf' : f' (E.set k i, n) = some (E', n') := by rw [← hf.out, hf2, hp, hq, decide_eq_true rfl, decide_eq_true rfl]; rfl
          have HR := Lib.hid (Hrec.out _ _ _ _ hJ1 hf')
          clear hf' hf2
          go_wp2_with (go_at_call 23; refine (HR.out).mono ?_; rintro e w2 ⟨rfl, hJ2⟩)
          all_goals exact ⟨⟨i + 2, by omega, by omega, E', n', hJ2, hr'⟩, by simp only [intOf]; omega⟩
        · have hf' : (E', n') = (E, n) := by
            have := hf.out
            rw [hf2, ← Bool.decide_and, decide_eq_false hab] at this
            exact (Option.some.inj this).symm
          obtain ⟨rfl, rfl⟩ := Prod.mk.inj hf'
          clear hf' hf2
          by_cases hp : p i = min (V a) (V b)
          · have hq : q i ≠ max (V a) (V b) := fun c => hab ⟨hp, c⟩
            clear hab
            rw [hp] at cp
            go_wp2
            go_quiet (fail)
            rename_i nq
            have hJn := Hdr.out _ _ _ hJ nq
            go_wp2
            all_goals exact ⟨⟨i + 2, by omega, by omega, E', n', hJn, hr'⟩, by simp only [intOf]; omega⟩
          · clear hab
            go_wp2
            go_quiet (fail)
            rename_i nq
            have hJn := Hdr.out _ _ _ hJ nq
            go_wp2
            all_goals exact ⟨⟨i + 2, by omega, by omega, E', n', hJn, hr'⟩, by simp only [intOf]; omega⟩
    · obtain rfl : j = hl + 1 := by omega
      rw [show ((hl + 1 : Nat) : Int) - 1 = (hl : Int) by omega]
      have he : (E, n) = r := by
        have := hr.out
        rw [Nat.sub_self] at this
        exact Option.some.inj this
      subst he
      go_wp2
      go_end0
      exact ⟨rfl, hJ⟩
end Go.Proofs.Ytgncajnfphlgeaa

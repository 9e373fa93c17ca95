/-
  slices.DeleteFunc over rows of numbers, by its own walk, whatever memory the predicate makes.
-/
import Derived.Test.YtafgbjhojkgbjaaGreatDoorCtx
import Derived.WalkKit
import Derived.BigCall
import Derived.BigGuard
import Derived.Lib.Hide
import Derived.OneCell
import Derived.Deep.QuietTactic
import Derived.BigQuiet
namespace Go.Proofs.YtafgbjhojkgbjaaGreatDoor
open Go Go.Den Go.RowKit
set_option linter.unusedVariables false
set_option linter.unusedSimpArgs false
set_option maxRecDepth 100000
set_option maxHeartbeats 2000000 in
theorem idx_walk (ha : Option Addr) (hb ho l c : Nat) (hha : 0 < l → ha = some ⟨hb, ho, none⟩) (hl : l ≤ 1099511627776) (A : Nat → Option Addr) (N C : Nat → Nat) (p : Nat → Bool) (p1 p2 : Value) (J : World → Prop)
  (hc : ∀ W, J W → ∀ k, k < l → W.cell? ⟨hb, ho + k, none⟩ = some (.slice (A k) (N k) (C k)))
  (hp : ∀ W, J W → ∀ k, k < l → Calls Tryz.prog 54 #[.slice (A k) (N k) (C k), p1, p2] W fun e w' => e = .returned (.bool (p k)) ∧ J w')
  (w : World) (hJ : J w) : Calls Tryz.prog 66 #[.slice ha l c, .func (.func 54) #[] #[p1, p2]] w fun e w' => ∃ R : Int, e = .returned (.int .i64 R) ∧ J w' ∧ ((R = -1 ∧ ∀ k, k < l → p k = false) ∨ ∃ k0 : Nat, R = k0 ∧ k0 < l ∧ p k0 = true ∧ ∀ k, k < k0 → p k = false) := by
  have HC := Lib.hid hc
  have HP := Lib.hid hp
  have HA := Lib.hid hha
  clear hc hp hha
  go_enter Tryz.func66, Tryz.ntmps66
  go_wp2
  go_loopw [8] (fun s wr => ∃ k : Nat, k ≤ l ∧ s = .int .i64 k ∧ J wr ∧ Hid (∀ q, q < k → p q = false)) (fun s _ => l - (intOf s).toNat)
  case atStart => exact ⟨0, by omega, rfl, hJ, Lib.hid fun q hq => absurd hq (Nat.not_lt_zero _)⟩
  case round =>
    obtain ⟨k, hk, rfl, hJ1, hq⟩ := hrel
    by_cases hlt : k < l
    · obtain rfl := HA.out (by omega)
      have c1 := HC.out _ hJ1 k hlt
      have HK := Lib.hid (HP.out _ hJ1 k hlt)
      cases hpk : p k with
      | true =>
        rw [hpk] at HK
        have hpk' := Lib.hid hpk
        clear hpk
        go_wp2_with (go_at_call 54; refine (HK.out).mono ?_; rintro e w2 ⟨rfl, hJ2⟩)
        go_ret
        exact ⟨_, rfl, hJ2, .inr ⟨k, rfl, hlt, hpk'.out, hq.out⟩⟩
      | false =>
        rw [hpk] at HK
        have hpk' := Lib.hid hpk
        clear hpk
        have hq' : Hid (∀ q, q < k + 1 → p q = false) := Lib.hid fun q h => (Nat.lt_succ_iff_lt_or_eq.1 h).elim (hq.out q) fun h => h ▸ hpk'.out
        go_wp2_with (go_at_call 54; refine (HK.out).mono ?_; rintro e w2 ⟨rfl, hJ2⟩)
        go_roundw
        case rel => exact ⟨k + 1, by omega, by go_num, hJ2, hq'⟩
        case measure => simp [intOf]; omega
    · obtain rfl : k = l := by omega
      go_wp2
      go_ret
      exact ⟨_, rfl, hJ1, .inl ⟨rfl, hq.out⟩⟩
theorem first_hit (p : Nat → Bool) : ∀ l : Nat, (∀ k, k < l → p k = false) ∨ ∃ k0, k0 < l ∧ p k0 = true ∧ ∀ q, q < k0 → p q = false
  | 0 => .inl fun k hk => absurd hk (Nat.not_lt_zero _)
  | l + 1 => by
    rcases first_hit p l with h | ⟨k0, h1, h2, h3⟩
    · cases hp : p l with
      | true => exact .inr ⟨l, Nat.lt_succ_self _, hp, h⟩
      | false => exact .inl fun k hk => (Nat.lt_succ_iff_lt_or_eq.1 hk).elim (h k) fun c => c ▸ hp
    · exact .inr ⟨k0, Nat.lt_succ_of_lt h1, h2, h3⟩
set_option maxHeartbeats 4000000 in
theorem del_walk (ha : Option Addr) (hb ho l c : Nat) (hha : 0 < l → ha = some ⟨hb, ho, none⟩) (hl : l ≤ 1099511627776) (hlc : l ≤ c) (A : Nat → Option Addr) (N C : Nat → Nat) (p : Nat → Bool) (p1 p2 : Value) (J : World → Prop) (JD : Nat → Nat → World → Prop)
  (hc : ∀ W, J W → ∀ k, k < l → W.cell? ⟨hb, ho + k, none⟩ = some (.slice (A k) (N k) (C k)))
  (hp : ∀ W, J W → ∀ k, k < l → Calls Tryz.prog 54 #[.slice (A k) (N k) (C k), p1, p2] W fun e w' => e = .returned (.bool (p k)) ∧ J w')
  (hst : ∀ W k, J W → k < l → p k = true → (∀ q, q < k → p q = false) → JD k (k + 1) W)
  (hcd : ∀ i j W, JD i j W → i < j ∧ j ≤ l ∧ (j < l → W.cell? ⟨hb, ho + j, none⟩ = some (.slice (A j) (N j) (C j))) ∧ (∃ old, W.cell? ⟨hb, ho + i, none⟩ = some old) ∧ W.frozen? ⟨hb, ho + i, none⟩ = false)
  (hpd : ∀ i j W, JD i j W → j < l → Calls Tryz.prog 54 #[.slice (A j) (N j) (C j), p1, p2] W fun e w' => e = .returned (.bool (p j)) ∧ JD i j w')
  (hkp : ∀ i j W, JD i j W → j < l → p j = false → JD (i + 1) (j + 1) (W.setCell ⟨hb, ho + i, none⟩ (.slice (A j) (N j) (C j))))
  (hsk : ∀ i j W, JD i j W → j < l → p j = true → JD i (j + 1) W)
  (Post : Ending → World → Prop)
  (hall : ∀ W, J W → (∀ k, k < l → p k = false) → Post (.returned (.slice ha l c)) W)
  (hcl : ∀ i W, JD i l W → ∃ W2, (∀ ty, (Builtin.clear_ #[28] ty #[.slice (some ⟨hb, ho + i, none⟩) (l - i) (c - i)]).run Tryz.prog W = .ok (.tuple #[]) W2) ∧ Post (.returned (.slice ha i c)) W2)
  (w : World) (hJ : J w) : Calls Tryz.prog 53 #[.slice ha l c, .func (.func 54) #[] #[p1, p2]] w Post := by
  have HI := Lib.hid (idx_walk ha hb ho l c hha hl A N C p p1 p2 J hc hp w hJ)
  have HA := Lib.hid hha
  have HS := Lib.hid hst
  have HCD := Lib.hid hcd
  have HPD := Lib.hid hpd
  have HKP := Lib.hid hkp
  have HSK := Lib.hid hsk
  have HAL := Lib.hid hall
  have HCL := Lib.hid hcl
  clear hc hp hha hst hcd hpd hkp hsk hall hcl hJ
  rcases first_hit p l with hn | ⟨k0, hk0, hp0, hq0⟩
  · have HI2 : Hid _ := Lib.hid ((HI.out).mono (R' := fun e w' => e = .returned (.int .i64 (-1)) ∧ J w') (by
      rintro e w' ⟨R, rfl, hJ1, ⟨rfl, _⟩ | ⟨k0, _, h1, h2, _⟩⟩
      · exact ⟨rfl, hJ1⟩
      · rw [hn k0 h1] at h2; cases h2))
    have HN := Lib.hid hn
    clear HI hn
    go_enter Tryz.func53, Tryz.ntmps53
    go_wp2_with (go_at_call 66; refine (HI2.out).mono ?_; rintro e w1 ⟨rfl, hJ1⟩)
    exact HAL.out _ hJ1 HN.out
  · have HI2 : Hid _ := Lib.hid ((HI.out).mono (R' := fun e w' => e = .returned (.int .i64 (k0 : Int)) ∧ J w') (by
      rintro e w' ⟨R, rfl, hJ1, ⟨rfl, h1⟩ | ⟨k1, rfl, h1, h2, h3⟩⟩
      · rw [h1 k0 hk0] at hp0; cases hp0
      · have : k1 = k0 := by
          rcases Nat.lt_trichotomy k1 k0 with c | c | c
          · rw [hq0 k1 c] at h2; cases h2
          · exact c
          · rw [h3 k0 c] at hp0; cases hp0
        subst this
        exact ⟨rfl, hJ1⟩))
    have HQ := Lib.hid hq0
    have HP0 := Lib.hid hp0
    clear HI hq0 hp0
    obtain rfl := HA.out (by omega)
    have hne : ((k0 : Int) == -1) = false := beq_eq_false_iff_ne.2 (by omega)
    go_enter Tryz.func53, Tryz.ntmps53
    go_wp2_with (go_at_call 66; refine (HI2.out).mono ?_; rintro e w1 ⟨rfl, hJ1⟩)
    go_loopw [5, 6] (fun s5 s6 wr => ∃ i j : Nat, s5 = .int .i64 i ∧ s6 = .int .i64 j ∧ j ≤ l ∧ JD i j wr) (fun _ s6 _ => l - (intOf s6).toNat)
    case atStart => exact ⟨k0, k0 + 1, rfl, by go_num, by omega, HS.out _ _ hJ1 hk0 HP0.out HQ.out⟩
    case round =>
      obtain ⟨i, j, rfl, rfl, hjl, hJ2⟩ := hrel
      obtain ⟨hij, _, c1, ⟨old, c2⟩, c3⟩ := HCD.out i j _ hJ2
      by_cases hlt : j < l
      · have c1 := c1 hlt
        have HK := Lib.hid (HPD.out i j _ hJ2 hlt)
        cases hpj : p j with
        | true =>
          rw [hpj] at HK
          have hpj' := Lib.hid hpj
          clear hpj
          go_wp2_with (go_at_call 54; refine (HK.out).mono ?_; rintro e w2 ⟨rfl, hJ3⟩)
          have hJ4 := HSK.out i j _ hJ3 hlt hpj'.out
          go_roundw
          case rel => exact ⟨i, j + 1, rfl, by go_num, by omega, hJ4⟩
          case measure => simp [intOf]; omega
        | false =>
          rw [hpj] at HK
          have hpj' := Lib.hid hpj
          clear hpj c2 c3
          have il : (i : Int) < (l : Int) := by omega
          go_wp2_with (go_at_call 54; refine (HK.out).mono ?_; rintro e w2 ⟨rfl, hJ3⟩; obtain ⟨_, _, _, ⟨old2, d2⟩, d3⟩ := HCD.out i j _ hJ3; have hJ4 := HKP.out i j _ hJ3 hlt hpj'.out; clear c1)
          go_roundw
          case rel => exact ⟨i + 1, j + 1, by go_num, by go_num, by omega, hJ4⟩
          case measure => simp [intOf]; omega
      · obtain rfl : j = l := by omega
        obtain ⟨W2, hclr, hpost⟩ := HCL.out i _ hJ2
        have hpost := Lib.hid hpost
        have hic : i ≤ j := by omega
        have hne2 : ¬ c = i := by omega
        clear c1 c2 c3
        go_wp2
        exact hpost.out
end Go.Proofs.YtafgbjhojkgbjaaGreatDoor

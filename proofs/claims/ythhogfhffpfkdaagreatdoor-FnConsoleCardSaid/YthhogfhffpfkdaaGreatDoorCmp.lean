/-
  Two rows compared: what the call yields.
-/
import Derived.Test.YthhogfhffpfkdaaGreatDoorEqs0
import Derived.Test.YthhogfhffpfkdaaGreatDoorFacts0
import Derived.Test.YthhogfhffpfkdaaGreatDoorSo
import Derived.KernelRfl
namespace Go.Proofs.YthhogfhffpfkdaaGreatDoor.D0
open Go Go.Den Go.Proofs
set_option linter.unusedVariables false
theorem cmp_p {a b : Int} : cmp_Compare_int a b = some (if a < b then -1 else if a > b then 1 else 0) := by
  rw [cmp_Compare_int_eq, cmp_isNaN_int_eq, cmp_isNaN_int_eq]
  simp only [bne_self_eq_false, Option.bind_some, cond_false]
  by_cases c1 : a < b
  · simp [c1]
  · by_cases c2 : b < a <;> simp [c1, c2]
theorem w64_id {n : Int} (h1 : -9223372036854775808 ≤ n) (h2 : n ≤ 9223372036854775807) : w64 n = n := by
  simp [w64, IntKind.wrap, IntKind.bits, IntKind.signed]
  omega
theorem row_p {a b : List Int} (ha : a.length ≤ 1048576) (hb : b.length ≤ 1048576) : ∀ (m k : Nat), k + m = a.length → k ≤ b.length → slices_Compare_int_int_l0 a b a (a.length : Int) (k : Int) = some (cmpL (a.drop k) (b.drop k)) := by
  intro m
  induction m with
  | zero =>
    intro k hk hkb
    have e1 : decide ((k : Int) < (a.length : Int)) = false := by simp; omega
    rw [slices_Compare_int_int_l0_eq, e1, cond_false, List.drop_eq_nil_of_le (show a.length ≤ k by omega)]
    by_cases c : k < b.length
    · have e2 : decide ((a.length : Int) < (b.length : Int)) = true := by simp; omega
      rw [e2, List.drop_eq_getElem_cons c]; rfl
    · have e2 : decide ((a.length : Int) < (b.length : Int)) = false := by simp; omega
      rw [e2, List.drop_eq_nil_of_le (show b.length ≤ k by omega)]; rfl
  | succ m ih =>
    intro k hk hkb
    have hka : k < a.length := by omega
    have e1 : decide ((k : Int) < (a.length : Int)) = true := by simp; omega
    have i1 : inside (k : Int) a.length = true := by simp [inside]; omega
    rw [slices_Compare_int_int_l0_eq, e1, cond_true, i1, cond_true, List.drop_eq_getElem_cons hka]
    by_cases c : k < b.length
    · have e2 : decide ((k : Int) ≥ (b.length : Int)) = false := by simp; omega
      have i2 : inside (k : Int) b.length = true := by simp [inside]; omega
      rw [e2, cond_false, i2, cond_true, cmp_p, Option.bind_some, List.drop_eq_getElem_cons c]
      have g1 : a.getD (k : Int).toNat 0 = a[k] := by simp [hka]
      have g2 : b.getD (k : Int).toNat 0 = b[k] := by simp [c]
      rw [g1, g2]
      simp only [cmpL]
      by_cases q1 : a[k] < b[k]
      · simp [q1]
      · by_cases q2 : b[k] < a[k]
        · simp [q1, q2]
        · simp only [q1, q2, gt_iff_lt, if_false]
          have e3 : w64 ((k : Int) + 1) = ((k + 1 : Nat) : Int) := by rw [w64_id (by omega) (by omega)]; rfl
          rw [e3]
          exact ih (k + 1) (by omega) (by omega)
    · have e2 : decide ((k : Int) ≥ (b.length : Int)) = true := by simp; omega
      rw [e2, cond_true, List.drop_eq_nil_of_le (show b.length ≤ k by omega)]
      rfl
theorem rows_p {a b : List Int} (ha : a.length ≤ 1048576) (hb : b.length ≤ 1048576) : slices_Compare_int_int a b = some (cmpL a b) := by
  rw [slices_Compare_int_int_eq]
  exact row_p ha hb a.length 0 (by omega) (by omega)
end Go.Proofs.YthhogfhffpfkdaaGreatDoor.D0
namespace Go.Proofs.YthhogfhffpfkdaaGreatDoor.D
open Go Go.Den Go.Proofs
theorem cmpEnters : ∀ args w, (callFunc 120 args).run Tryz.prog w = .ok (.enter 120 args) w := Go.Proofs.enters_of Tryz.func120 (by kernel_rfl) rfl
theorem cmpCalls (a b : List Int) (ha : a.length ≤ 1048576) (hb : b.length ≤ 1048576) (w : World) (I F : Nat → Prop) (A B : Den.Item) (hA : A.sv = .val .reg RowT (.sh true) a) (hB : B.sv = .val .reg RowT (.sh true) b) (hI : Items w I F [A, B]) :
    Calls Tryz.prog 120 #[A.v, B.v] w fun e w' => match e with | .returned v => Wx True I F w w' ∧ v = .int .i64 (cmpL a b) | _ => False := by
  have h := D0.good 2 (a, b) (cmpL a b) (D0.rows_p ha hb) D0.s2 rfl w I F [A, B] (by rw [List.map_cons, List.map_cons, hA, hB]; rfl) hI noTold_ok
  refine Calls.mono h fun e w' he => ?_
  cases e with
  | panicked _ => exact he.elim
  | outgrown => exact he.elim
  | returned v =>
    obtain ⟨hw, J, M, N, h1, h2, h3, h4, h5, h6, h7⟩ := he
    refine ⟨hw, ?_⟩
    have h1' : some [SV.val .reg (.int .i64) (.sh false) (cmpL a b)] = some (M.map Den.Item.sv) := h1
    have h1'' := Option.some.inj h1'
    match M, h1'' with
    | [], k => cases k
    | _ :: _ :: _, k => simp at k
    | [⟨isv, iv, iγ⟩], k =>
      simp only [List.map_cons, List.map_nil, List.cons.injEq, and_true] at k
      subst k
      have := (h3.ok ⟨_, iv, iγ⟩ (List.mem_append_left _ List.mem_cons_self)).1
      rw [h5]
      exact this
end Go.Proofs.YthhogfhffpfkdaaGreatDoor.D

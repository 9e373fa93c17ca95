/-
  Texts: both programs write a graph alike.
-/
import Derived.Test.YthmddgkpebneoaaGreatDoorPureS
namespace Go.Proofs.YthmddgkpebneoaaGreatDoor.D
open Go Go.Den
set_option linter.unusedVariables false
set_option linter.unusedSimpArgs false
/-- an edge's text -/
def et (e : Int × Int) : ByteArray := ⟨#[32]⟩ ++ fi e.1 ++ ⟨#[45]⟩ ++ fi e.2
/-- a graph's text -/
def fg (g : Gr) : ByteArray := itr (fun k s => s ++ et (g.2.getD k (0, 0))) g.2.length (fi g.1 ++ ⟨#[58]⟩)
theorem et_size {e : Int × Int} (h1 : I64 e.1) (h2 : I64 e.2) : (et e).size ≤ 42 := by
  have := fi_size h1
  have := fi_size h2
  have e1 : (⟨#[32]⟩ : ByteArray).size = 1 := rfl
  have e2 : (⟨#[45]⟩ : ByteArray).size = 1 := rfl
  unfold et
  rw [size_app, size_app, size_app]
  omega
theorem formatGraph_i {g : Gr} (h : g.2.length ≤ 9223372036854775807) : ∃ s, impl_FormatGraph g = some s ∧ (GOk g → s = fg g) ∧ (¬ GOk g → s = ⟨#[]⟩) := by
  obtain ⟨b, p2, p3⟩ := impl_GraphOk_p h
  rw [impl_FormatGraph_eq, p2]
  simp only [Option.bind_some]
  cases b with
  | false => exact ⟨_, rfl, fun k => (by have := p3.2 k; cases this), fun _ => rfl⟩
  | true =>
    have hg := p3.1 rfl
    obtain ⟨⟨hn, hl, he⟩, _⟩ := hg
    have i1 : I64 g.1 := ⟨by omega, by omega⟩
    have i2 : ∀ k, k < g.2.length → I64 (g.2.getD k (0, 0)).1 ∧ I64 (g.2.getD k (0, 0)).2 := fun k hk => by
      have := he k hk
      unfold EdOk at this
      exact ⟨⟨by omega, by omega⟩, ⟨by omega, by omega⟩⟩
    have s0 := fi_size i1
    have e1 : (⟨#[32]⟩ : ByteArray).size = 1 := rfl
    have e2 : (⟨#[45]⟩ : ByteArray).size = 1 := rfl
    have e3 : (⟨#[58]⟩ : ByteArray).size = 1 := rfl
    simp only [Bool.not_true, cond_false]
    rw [impl_FormatInt_p i1]
    simp only [Option.bind_some]
    rw [decide_eq_true (by omega), cond_true]
    have l2 := upFold (n := g.2.length) (f := fun s i => impl_FormatGraph_l0 s g.2 (g.2.length : Int) i) (g := fun k s => s ++ et (g.2.getD k (0, 0))) (fun k s => s.size ≤ 21 + k * 42) (fun k s hk hs => by
      obtain ⟨q1, q2⟩ := i2 k hk
      have := fi_size q1
      have := fi_size q2
      have z1 := et_size q1 q2
      refine ⟨?_, by rw [size_app]; omega⟩
      rw [impl_FormatGraph_l0_eq, dec_lt_t hk, inside_lt hk, w64_succ hk (by omega)]
      simp only [cond_true, Int.toNat_natCast]
      rw [impl_FormatInt_p q1, impl_FormatInt_p q2]
      simp only [Option.bind_some]
      unfold et at z1
      rw [size_app, size_app, size_app] at z1
      rw [decide_eq_true (by omega), cond_true, size_app, decide_eq_true (by omega), cond_true, size_app, size_app, decide_eq_true (by omega), cond_true, size_app, size_app, size_app, decide_eq_true (by omega), cond_true]
      rfl) (s := fi g.1 ++ ⟨#[58]⟩) (by rw [size_app]; omega)
    refine ⟨fg g, ?_, fun _ => rfl, fun k => absurd (p3.1 rfl) k⟩
    · refine l2.1.trans ?_
      rw [impl_FormatGraph_l0_eq, dec_lt_f]; rfl
end Go.Proofs.YthmddgkpebneoaaGreatDoor.D

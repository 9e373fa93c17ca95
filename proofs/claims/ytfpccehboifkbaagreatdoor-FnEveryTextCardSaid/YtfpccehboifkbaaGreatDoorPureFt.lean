/-
  The law FnTop: the theorem of Riemann and Roch, as the program tells it.
-/
import Derived.Test.YtfpccehboifkbaaGreatDoorPureFr
import Derived.Test.YtfpccehboifkbaaGreatDoorPureRr
namespace Go.Proofs.YtfpccehboifkbaaGreatDoor.D
open Go Go.Den
set_option linter.unusedVariables false
set_option linter.unusedSimpArgs false
theorem zeros_in {g : Gr} (hg : GOk g) : List.replicate (N g) (0 : Int) ∈ eff (N g - 1) 0 := by
  have hn := gN hg
  refine eff_in (by rw [List.length_replicate]; omega) (fun x hx => by rw [(List.mem_replicate.1 hx).2]; exact Int.le_refl _) ?_
  have : ∀ n : Nat, (List.replicate n (0 : Int)).sum = 0 := fun n => by
    induction n with
    | zero => rfl
    | succ n ih => rw [List.replicate_succ, List.sum_cons, ih]; rfl
  rw [this]; rfl
theorem RK.win {g : Gr} (hg : GOk g) {D : Nat → Int} {r : Nat} {w : List Int} (h : RK g D r w) : 1 ≤ r ↔ Win g D := by
  have hn := gN hg
  constructor
  · intro hr
    refine (h.up 0 hr _ (zeros_in hg)).congr fun v hv => ?_
    unfold Mi
    rw [show (List.replicate (N g) (0 : Int)).getD v 0 = 0 from (vec.zero (N g)).2 v hv]; omega
  · intro hw
    rcases Nat.eq_zero_or_pos r with c | c
    · subst c
      exfalso
      refine h.bad (hw.congr fun v hv => ?_)
      obtain ⟨h1, h2⟩ := eff_mem h.mem
      have := h2 _ (getD_mem 0 (show v < w.length by omega))
      unfold Mi; omega
    · exact c
theorem degl_p {g : Gr} (hg : GOk g) {x : List Int} {f : Nat → Int} (hx : vec (N g) x f) (hb : Bd (N g) 900 f) : impl_DegreeOf x = some (sm (N g) f) := by
  have hn := gN hg
  have hs := (sumLoop (d := x) (by rw [hx.1]; omega) (fun k hk => by
    rw [hx.1] at hk
    rw [hx.2 k hk]
    have := hb k hk
    omega)).1
  rw [impl_DegreeOf_eq, hs, hx.1]
  simp only [Option.bind_some]
  rw [sm_congr fun v hv => hx.2 v hv]
theorem irr_p {g : Gr} {d x : List Int} {r s : Int} {e : Bool} (h1 : impl_ResidualOf g d = some (x, true)) (h2 : impl_RankOf g d = some (r, true)) (h3 : impl_RankOf g x = some (s, e)) : impl_RiemannRoch g d = some (cond e (r, s, true) (0, 0, false)) := by
  rw [impl_RiemannRoch_eq, h1, h2]
  simp only [Option.bind_some, h3, Bool.not_true, cond_false]
  cases e <;> rfl
end Go.Proofs.YtfpccehboifkbaaGreatDoor.D

/-
  Walkers act on rotors as the group does: the flow of all walks together, and that it is the only one.
-/
import Derived.Test.YthmddgkpebneoaaPureRo
namespace Go.Proofs.Ythmddgkpebneoaa.D
open Go Go.Den
set_option linter.unusedVariables false
set_option linter.unusedSimpArgs false
theorem off_inj {m a e e' : Nat} (ha : a < m) (he : e < m) (he' : e' < m) (h : off m a e = off m a e') : e = e' := by
  obtain ⟨k, k1, k2, k3⟩ := off_ex ha he
  obtain ⟨l, l1, l2, l3⟩ := off_ex ha he'
  rw [← k3, ← l3, off_mod ha k1 k2, off_mod ha l1 l2] at h
  rw [← k3, ← l3, show k = l by omega]
/-- the order from another rotor on -/
theorem off_rel {m ρ a e : Nat} (hρ : ρ < m) (ha : a < m) (he : e < m) : off m a e = if off m ρ a < off m ρ e then off m ρ e - off m ρ a - 1 else off m ρ e + m - off m ρ a - 1 := by
  obtain ⟨k, k1, k2, k3⟩ := off_ex hρ ha
  obtain ⟨l, l1, l2, l3⟩ := off_ex hρ he
  have e1 : off m ρ a = k - 1 := by rw [← k3, off_mod hρ k1 k2]
  have e2 : off m ρ e = l - 1 := by rw [← l3, off_mod hρ l1 l2]
  rw [e1, e2]
  by_cases c : k < l
  · have e3 : (a + (l - k)) % m = e := by rw [← k3, Nat.mod_add_mod, show ρ + k + (l - k) = ρ + l by omega, l3]
    rw [if_pos (by omega), ← e3, off_mod ha (by omega) (by omega)]
    omega
  · have e3 : (a + (l + m - k)) % m = e := by rw [← k3, Nat.mod_add_mod, show ρ + k + (l + m - k) = ρ + l + m by omega, Nat.add_mod_right, l3]
    rw [if_neg (by omega), ← e3, off_mod ha (by omega) (by omega)]
    omega
def rt (r : List Int) (u : Int) : Nat := (r.getD u.toNat 0).toNat
/-- how often each edge was taken, all walks together; b: what the walks began with -/
structure AM (g : Gr) (q : Int) (r0 : List Int) (b : (Int → Bool) → Int) (r : List Int) (v : Int) (F H : Nat → Int) : Prop where
  ro : RO g r q
  rq : r.getD q.toNat 0 = -1
  vr : 0 ≤ v ∧ v < g.1
  bal : ∀ u, 0 ≤ u → u < g.1 → u ≠ q → ∃ k : Int, ∀ e, e < g.2.length → AtN g e u → outs g F H e u = k + if off g.2.length (rt r0 u) e ≤ off g.2.length (rt r0 u) (rt r u) then 1 else 0
  sink : ∀ e, e < g.2.length → AtN g e q → outs g F H e q = 0
  flow : ∀ A : Int → Bool, A q = false → sm g.2.length (cross A g F H) = b A - ib (A v)
theorem AM.step {g : Gr} {q : Int} {r0 : List Int} {b : (Int → Bool) → Int} {r : List Int} {v : Int} {F H : Nat → Int} (h0 : RO g r0 q) (W : AM g q r0 b r v F H) (hne : ¬ v = q) {i : Int} (hx : NX g v (r.getD v.toNat 0) i) :
    ∃ F' H', AM g q r0 b (r.set v.toNat i) (oth (ed g i.toNat) v) F' H' := by
  have hG := W.ro.1
  have hl := W.ro.2.2.2.1
  have hvr := W.vr
  obtain ⟨j, rfl⟩ : ∃ j : Nat, i = (j : Int) := ⟨i.toNat, by have := hx.at'.1; omega⟩
  have hj : j < g.2.length := by have := hx.at'.2.1; omega
  have hjv : AtN g j v := by have := hx.at'.2.2; rwa [Int.toNat_natCast] at this
  have hed := ed_ok hG hj
  have hs := W.ro.step W.rq hvr hne hx.at'
  rw [Int.toNat_natCast]
  have hat0 := W.ro.atN hvr.1 hvr.2 hne
  have ha : rt r v < g.2.length := hat0.1
  have hρ : ∀ u, 0 ≤ u → u < g.1 → u ≠ q → rt r0 u < g.2.length := fun u u0 u1 uq => (h0.atN u0 u1 uq).1
  have hwr : 0 ≤ oth (ed g j) v ∧ oth (ed g j) v < g.1 := by
    unfold oth
    rcases hjv with h | h <;> omega
  generalize hp : (if (ed g j).1 = v then (1 : Int) else 0) = p
  have hp01 : (p = 1 ∧ (ed g j).1 = v) ∨ (p = 0 ∧ (ed g j).2 = v ∧ ¬ (ed g j).1 = v) := by
    by_cases c : (ed g j).1 = v
    · rw [if_pos c] at hp; exact .inl ⟨hp.symm, c⟩
    · rw [if_neg c] at hp; exact .inr ⟨hp.symm, hjv.resolve_left c, c⟩
  let F' : Nat → Int := fun e => F e + if e = j then p else 0
  let H' : Nat → Int := fun e => H e + if e = j then 1 - p else 0
  have oo : ∀ e u, e < g.2.length → AtN g e u → outs g F' H' e u = outs g F H e u + if e = j ∧ u = v then 1 else 0 := by
    intro e u he hu
    have hee := ed_ok hG he
    unfold outs
    by_cases c : e = j
    · subst c
      by_cases c2 : u = v
      · subst c2
        simp only [F', H', if_pos rfl, and_self, if_true]
        rcases hp01 with ⟨h1, h2⟩ | ⟨h1, h2, h3⟩
        · rw [if_pos h2, if_pos h2, h1]
        · rw [if_neg h3, if_neg h3, h1]; omega
      · simp only [F', H', if_pos rfl, c2, and_false, if_false]
        rcases hp01 with ⟨h1, h2⟩ | ⟨h1, h2, h3⟩
        · have : ¬ (ed g e).1 = u := fun k => c2 (by omega)
          rw [if_neg this, if_neg this, h1]; omega
        · by_cases c3 : (ed g e).1 = u
          · rw [if_pos c3, if_pos c3, h1, if_pos trivial]
          · exact absurd (hu.resolve_left c3) (fun k => c2 (by omega))
    · simp only [F', H', if_neg c, c, false_and, if_false, Int.add_zero]
  refine ⟨F', H', ⟨hs.1, hs.2, hwr, fun u hu0 hu1 huq => ?_, fun e he ha' => ?_, fun A hAq => ?_⟩⟩
  · by_cases c : u = v
    · subst c
      obtain ⟨k, hk⟩ := W.bal u hu0 hu1 huq
      have hρu := hρ u hu0 hu1 huq
      have hget : rt (r.set u.toNat (j : Int)) u = j := by
        unfold rt
        rw [getD_lt (by rw [List.length_set]; omega), List.getElem_set_self, Int.toNat_natCast]
      rw [hget]
      have lst : ∀ e, e < g.2.length → AtN g e u → off g.2.length (rt r u) j ≤ off g.2.length (rt r u) e := fun e he hae => by
        have := hx.least e he hae
        rw [Int.toNat_natCast] at this
        exact this
      have lt := fun e => off_lt (m := g.2.length) (a := rt r0 u) (i := e) (by omega)
      have relj := off_rel hρu ha hj
      have hcm := off_lt (m := g.2.length) (a := rt r0 u) (i := rt r u) (by omega)
      generalize hρd : rt r0 u = ρ at *
      generalize hcd : off g.2.length ρ (rt r u) = c at *
      generalize hpj : off g.2.length ρ j = pj at *
      by_cases c1 : c < pj
      · rw [if_pos c1] at relj
        refine ⟨k, fun e he hae => ?_⟩
        rw [oo e u he hae, hk e he hae]
        by_cases c2 : e = j
        · rw [if_pos (show e = j ∧ u = u from ⟨c2, rfl⟩), c2, hpj, if_neg (by omega), if_pos (Nat.le_refl _)]
          omega
        · rw [if_neg (show ¬ (e = j ∧ u = u) from fun k => c2 k.1)]
          have hl1 := lst e he hae
          have rele := off_rel hρu ha he
          rw [hcd] at rele
          have hne2 : off g.2.length ρ e ≠ pj := fun k => c2 (off_inj hρu he hj (k.trans hpj.symm))
          by_cases c3 : off g.2.length ρ e ≤ c
          · rw [if_pos c3, if_pos (by omega)]; omega
          · rw [if_pos (by omega)] at rele
            rw [if_neg c3, if_neg (by omega)]; omega
      · rw [if_neg c1] at relj
        have hall : ∀ e, e < g.2.length → AtN g e u → off g.2.length ρ e ≤ c ∧ pj ≤ off g.2.length ρ e := fun e he hae => by
          have hl1 := lst e he hae
          have rele := off_rel hρu ha he
          rw [hcd] at rele
          have := lt e
          by_cases c3 : c < off g.2.length ρ e
          · rw [if_pos c3] at rele
            omega
          · rw [if_neg c3] at rele
            omega
        refine ⟨k + 1, fun e he hae => ?_⟩
        obtain ⟨a1, a2⟩ := hall e he hae
        rw [oo e u he hae, hk e he hae, if_pos a1]
        by_cases c2 : e = j
        · rw [if_pos (show e = j ∧ u = u from ⟨c2, rfl⟩), c2, hpj, if_pos (Nat.le_refl _)]
        · have hne2 : off g.2.length ρ e ≠ pj := fun k => c2 (off_inj hρu he hj (k.trans hpj.symm))
          rw [if_neg (show ¬ (e = j ∧ u = u) from fun k => c2 k.1), if_neg (by omega)]
    · obtain ⟨k, hk⟩ := W.bal u hu0 hu1 huq
      have hget : rt (r.set v.toNat (j : Int)) u = rt r u := by
        unfold rt
        rw [getD_lt (by rw [List.length_set]; omega), List.getElem_set_ne (by omega), ← getD_lt (d := 0)]
      rw [hget]
      refine ⟨k, fun e he hae => ?_⟩
      rw [oo e u he hae, if_neg (show ¬ (e = j ∧ u = v) from fun k => c k.2), hk e he hae]
      omega
  · rw [oo e q he ha', W.sink e he ha', if_neg (fun k => hne k.2.symm)]; rfl
  · generalize hd : (if A v = A (oth (ed g j) v) then (0 : Int) else if A v = true then 1 else -1) = dd
    have hc : ∀ e, e < g.2.length → cross A g F' H' e = cross A g F H e + if e = j then dd else 0 := by
      intro e he
      unfold cross
      by_cases c : e = j
      · subst c
        simp only [F', H', if_pos rfl]
        rcases hp01 with ⟨h1, h2⟩ | ⟨h1, h2, h3⟩
        · have ho : oth (ed g e) v = (ed g e).2 := by unfold oth; omega
          rw [ho, ← h2] at hd
          rw [h1, ← hd]
          by_cases k : A (ed g e).1 = A (ed g e).2
          · rw [if_pos k, if_pos k, if_pos k]; simp
          · by_cases k2 : A (ed g e).1 = true
            · rw [if_neg k, if_neg k, if_neg k, if_pos k2, if_pos k2, if_pos k2]
              simp only [if_true]; omega
            · rw [if_neg k, if_neg k, if_neg k, if_neg k2, if_neg k2, if_neg k2]
              simp only [if_true]; omega
        · have ho : oth (ed g e) v = (ed g e).1 := by unfold oth; omega
          rw [ho, ← h2] at hd
          rw [h1, ← hd]
          by_cases k : A (ed g e).1 = A (ed g e).2
          · rw [if_pos k, if_pos k, if_pos k.symm]; simp
          · have k' : ¬ A (ed g e).2 = A (ed g e).1 := fun c => k c.symm
            by_cases k2 : A (ed g e).1 = true
            · have k3 : ¬ A (ed g e).2 = true := fun c => k (by rw [k2, c])
              rw [if_neg k, if_neg k, if_neg k', if_pos k2, if_pos k2, if_neg k3]
              simp only [if_true]; omega
            · have k3 : A (ed g e).2 = true := by
                cases h : A (ed g e).2 with
                | true => rfl
                | false =>
                  cases h' : A (ed g e).1 with
                  | true => exact absurd h' k2
                  | false => exact absurd (by rw [h, h']) k
              rw [if_neg k, if_neg k, if_neg k', if_neg k2, if_neg k2, if_pos k3]
              simp only [if_true]; omega
      · simp only [F', H', if_neg c, Int.add_zero]
    rw [sm_congr hc, sm_add, W.flow A hAq, sm_one, if_pos hj, ← hd]
    unfold ib
    cases A v <;> cases A (oth (ed g j) v) <;> simp <;> omega
theorem Run.am {g : Gr} {q : Int} {r0 : List Int} {b : (Int → Bool) → Int} (h0 : RO g r0 q) {r x : List Int} {v : Int} {n : Nat} (R : Run g q r v n x) : ∀ {F H : Nat → Int}, AM g q r0 b r v F H → ∃ F' H', AM g q r0 b x q F' H' := by
  induction R with
  | done r => exact fun W => ⟨_, _, W⟩
  | step hne hx _ _ ih =>
    intro F H W
    obtain ⟨F', H', W'⟩ := W.step h0 hne hx
    exact ih W'
/-- what the walks leave, all of them ended -/
structure Sol (g : Gr) (q : Int) (r0 : List Int) (a : Nat → Int) (x : List Int) (F H : Nat → Int) : Prop where
  ts : TS g x q
  bal : ∀ u, 0 ≤ u → u < g.1 → u ≠ q → ∃ k : Int, ∀ e, e < g.2.length → AtN g e u → outs g F H e u = k + if off g.2.length (rt r0 u) e ≤ off g.2.length (rt r0 u) (rt x u) then 1 else 0
  sink : ∀ e, e < g.2.length → AtN g e q → outs g F H e q = 0
  flow : ∀ A : Int → Bool, A q = false → sm g.2.length (cross A g F H) = sm (N g) (fun v => if A (v : Int) = true then a v else 0)
theorem Sol.start {g : Gr} {q : Int} {r0 : List Int} (h : TS g r0 q) : Sol g q r0 (fun _ => 0) r0 (fun _ => 0) (fun _ => 0) := by
  have z : ∀ e u, outs g (fun _ => 0) (fun _ => 0) e u = 0 := fun e u => by unfold outs; split <;> rfl
  refine ⟨h, fun u h0 h1 h2 => ⟨-1, fun e he hae => ?_⟩, fun e he hae => z e q, fun A hA => ?_⟩
  · have hρ := (h.1.1.atN h0 h1 h2).1
    have hm : 0 < g.2.length := by omega
    have := off_lt (m := g.2.length) (a := rt r0 u) (i := e) hm
    rw [z, if_pos (by rw [show off g.2.length (rt r0 u) (rt r0 u) = g.2.length - 1 from off_self hρ]; omega)]; rfl
  · have e1 : sm g.2.length (cross A g (fun _ => 0) fun _ => 0) = 0 := by
      rw [sm_congr (g := fun _ => 0) fun e _ => by
        unfold cross
        split
        · rfl
        · split <;> rfl]
      exact sm_zero _
    have e2 : sm (N g) (fun v => if A (v : Int) = true then (0 : Int) else 0) = 0 := by
      rw [sm_congr (g := fun _ => 0) fun v _ => by split <;> rfl]
      exact sm_zero _
    rw [e1, e2]
/-- one more walker -/
theorem Sol.more {g : Gr} {q : Int} {r0 : List Int} (h0 : TS g r0 q) {a : Nat → Int} {x : List Int} {F H : Nat → Int} (S : Sol g q r0 a x F H) {v : Nat} (hv : v < N g) : ∃ n y F' H', n ≤ 300 ∧ Run g q x (v : Int) n y ∧ Sol g q r0 (fun w => a w + if w = v then 1 else 0) y F' H' := by
  have hG := S.ts.1.1.1
  have hn := gN hG
  have hvr : 0 ≤ (v : Int) ∧ (v : Int) < g.1 := by omega
  have hq := S.ts.1.1.2
  have hld : ∀ u, 0 ≤ u → u < g.1 → Ld g x q 6 u := fun u u0 u1 => by
    obtain ⟨k, hk⟩ := S.ts.2 u u0 u1
    have hs := hk.short ⟨hq.1, hq.2.1⟩
    have key : ∀ {k : Nat} {u : Int}, Ex g x q k u → Ld g x q k u := by
      intro k u h
      induction h with
      | sink => exact .sink _
      | step a b c _ ih => exact .step a b c ih
    exact (key hk).mono (by omega)
  obtain ⟨n, y, n1, R⟩ := run_ex S.ts.1.1 S.ts.1.2 hvr hld
  have hts := R.ts S.ts.1 hvr fun u u0 u1 => (hld u u0 u1).to
  have W : AM g q r0 (fun A => sm (N g) (fun w => if A (w : Int) = true then a w else 0) + ib (A (v : Int))) x (v : Int) F H := ⟨S.ts.1.1, S.ts.1.2, hvr, S.bal, S.sink, fun A hA => by rw [S.flow A hA]; omega⟩
  obtain ⟨F', H', W'⟩ := R.am h0.1.1 W
  refine ⟨n, y, F', H', n1, R, ⟨hts, W'.bal, W'.sink, fun A hA => ?_⟩⟩
  rw [W'.flow A hA, hA]
  have e : sm (N g) (fun w => if A (w : Int) = true then a w + (if w = v then 1 else 0) else 0) = sm (N g) (fun w => (if A (w : Int) = true then a w else 0) + if w = v then ib (A (v : Int)) else 0) := sm_congr fun w _ => by
    by_cases c : w = v
    · subst c
      rw [if_pos rfl, if_pos rfl]
      unfold ib
      split <;> omega
    · rw [if_neg c, if_neg c]
      split <;> omega
  rw [e, sm_add, sm_one, if_pos hv]
  simp only [ib]
  simp
/-- the flow of a class is the only one -/
theorem Sol.uniq {g : Gr} {q : Int} {r0 : List Int} (h0 : RO g r0 q) {a a' : Nat → Int} (haa : ∀ v, v < N g → (v : Int) ≠ q → a v = a' v) {x x' : List Int} {F H F' H' : Nat → Int} (S : Sol g q r0 a x F H) (S' : Sol g q r0 a' x' F' H') : x = x' := by
  classical
  have hG := S.ts.1.1.1
  have hn := gN hG
  have hK : ∀ u : Int, ∃ k : Int, 0 ≤ u → u < g.1 → u ≠ q → ∀ e, e < g.2.length → AtN g e u → outs g F H e u = k + if off g.2.length (rt r0 u) e ≤ off g.2.length (rt r0 u) (rt x u) then 1 else 0 := fun u => by
    by_cases c : 0 ≤ u ∧ u < g.1 ∧ u ≠ q
    · obtain ⟨k, hk⟩ := S.bal u c.1 c.2.1 c.2.2
      exact ⟨k, fun _ _ _ => hk⟩
    · exact ⟨0, fun a b d => absurd ⟨a, b, d⟩ c⟩
  have hK' : ∀ u : Int, ∃ k : Int, 0 ≤ u → u < g.1 → u ≠ q → ∀ e, e < g.2.length → AtN g e u → outs g F' H' e u = k + if off g.2.length (rt r0 u) e ≤ off g.2.length (rt r0 u) (rt x' u) then 1 else 0 := fun u => by
    by_cases c : 0 ≤ u ∧ u < g.1 ∧ u ≠ q
    · obtain ⟨k, hk⟩ := S'.bal u c.1 c.2.1 c.2.2
      exact ⟨k, fun _ _ _ => hk⟩
    · exact ⟨0, fun a b d => absurd ⟨a, b, d⟩ c⟩
  let K := fun u => Classical.choose (hK u)
  let K' := fun u => Classical.choose (hK' u)
  have sK : ∀ u, 0 ≤ u → u < g.1 → u ≠ q → ∀ e, e < g.2.length → AtN g e u → outs g F H e u = K u + if off g.2.length (rt r0 u) e ≤ off g.2.length (rt r0 u) (rt x u) then 1 else 0 := fun u => Classical.choose_spec (hK u)
  have sK' : ∀ u, 0 ≤ u → u < g.1 → u ≠ q → ∀ e, e < g.2.length → AtN g e u → outs g F' H' e u = K' u + if off g.2.length (rt r0 u) e ≤ off g.2.length (rt r0 u) (rt x' u) then 1 else 0 := fun u => Classical.choose_spec (hK' u)
  -- nobody lies above
  have none : ∀ {a a' : Nat → Int} (haa : ∀ v, v < N g → (v : Int) ≠ q → a v = a' v) {x x' : List Int} {F H F' H' : Nat → Int} (S : Sol g q r0 a x F H) (S' : Sol g q r0 a' x' F' H') (K K' : Int → Int)
      (sK : ∀ u, 0 ≤ u → u < g.1 → u ≠ q → ∀ e, e < g.2.length → AtN g e u → outs g F H e u = K u + if off g.2.length (rt r0 u) e ≤ off g.2.length (rt r0 u) (rt x u) then 1 else 0)
      (sK' : ∀ u, 0 ≤ u → u < g.1 → u ≠ q → ∀ e, e < g.2.length → AtN g e u → outs g F' H' e u = K' u + if off g.2.length (rt r0 u) e ≤ off g.2.length (rt r0 u) (rt x' u) then 1 else 0),
      ∀ u, 0 ≤ u → u < g.1 → u ≠ q → ¬ (K' u < K u ∨ (K' u = K u ∧ off g.2.length (rt r0 u) (rt x' u) < off g.2.length (rt r0 u) (rt x u))) := by
    intro a a' haa x x' F H F' H' S S' K K' sK sK'
    let up : Int → Prop := fun u => (0 ≤ u ∧ u < g.1 ∧ u ≠ q) ∧ (K' u < K u ∨ (K' u = K u ∧ off g.2.length (rt r0 u) (rt x' u) < off g.2.length (rt r0 u) (rt x u)))
    let A : Int → Bool := fun u => decide (up u)
    have hA : ∀ u, A u = true ↔ up u := fun u => decide_eq_true_iff
    have hAq : A q = false := decide_eq_false fun h => h.1.2.2 rfl
    have ge : ∀ u e, A u = true → e < g.2.length → AtN g e u → outs g F' H' e u ≤ outs g F H e u := fun u e hu he hae => by
      obtain ⟨⟨u0, u1, uq⟩, h⟩ := (hA u).1 hu
      rw [sK u u0 u1 uq e he hae, sK' u u0 u1 uq e he hae]
      rcases h with h | ⟨h1, h2⟩
      · split <;> split <;> omega
      · split <;> split <;> omega
    have le : ∀ u e, A u = false → 0 ≤ u → u < g.1 → e < g.2.length → AtN g e u → outs g F H e u ≤ outs g F' H' e u := fun u e hu u0 u1 he hae => by
      by_cases c : u = q
      · subst c; rw [S.sink e he hae, S'.sink e he hae]; exact Int.le_refl _
      · have hnu : ¬ (K' u < K u ∨ (K' u = K u ∧ off g.2.length (rt r0 u) (rt x' u) < off g.2.length (rt r0 u) (rt x u))) := fun h => by
          have : A u = true := (hA u).2 ⟨⟨u0, u1, c⟩, h⟩
          rw [this] at hu; cases hu
        rw [sK u u0 u1 c e he hae, sK' u u0 u1 c e he hae]
        split <;> split <;> omega
    have strict : ∀ u, A u = true → outs g F' H' (rt x u) u < outs g F H (rt x u) u := fun u hu => by
      obtain ⟨⟨u0, u1, uq⟩, h⟩ := (hA u).1 hu
      obtain ⟨he, hae⟩ := S.ts.1.1.atN u0 u1 uq
      have e1 := sK u u0 u1 uq (rt x u) he hae
      have e2 := sK' u u0 u1 uq (rt x u) he hae
      rw [if_pos (Nat.le_refl _)] at e1
      rw [e1, e2]
      rcases h with h | ⟨h1, h2⟩
      · split <;> omega
      · rw [if_neg (by omega)]; omega
    have hsum : sm g.2.length (fun e => cross A g F H e - cross A g F' H' e) = 0 := by
      have e1 : sm g.2.length (fun e => cross A g F H e - cross A g F' H' e) = sm g.2.length (fun e => cross A g F H e + (-1) * cross A g F' H' e) := sm_congr fun e _ => by omega
      rw [e1, sm_add, sm_mul, S.flow A hAq, S'.flow A hAq]
      have e2 : sm (N g) (fun v => if A (v : Int) = true then a v else 0) = sm (N g) (fun v => if A (v : Int) = true then a' v else 0) := sm_congr fun v hv => by
        by_cases c : (v : Int) = q
        · rw [c, hAq]; rfl
        · rw [haa v hv c]
      rw [e2]; omega
    have nn : ∀ e, e < g.2.length → 0 ≤ cross A g F H e - cross A g F' H' e := fun e he => by
      have hee := ed_ok hG he
      have o1 : ∀ F H : Nat → Int, outs g F H e (ed g e).1 = F e := fun F H => if_pos rfl
      have o2 : ∀ F H : Nat → Int, outs g F H e (ed g e).2 = H e := fun F H => if_neg (by omega)
      unfold cross
      by_cases c : A (ed g e).1 = A (ed g e).2
      · rw [if_pos c, if_pos c]; omega
      · rw [if_neg c, if_neg c]
        cases c1 : A (ed g e).1 with
        | true =>
          have c2 : A (ed g e).2 = false := by
            cases h : A (ed g e).2 with
            | false => rfl
            | true => exact absurd (by rw [c1, h]) c
          have x1 := ge _ e c1 he (.inl rfl)
          have x2 := le _ e c2 (by omega) hee.2.2 he (.inr rfl)
          rw [o1, o1] at x1
          rw [o2, o2] at x2
          rw [if_pos rfl, if_pos rfl]; omega
        | false =>
          have c2 : A (ed g e).2 = true := by
            cases h : A (ed g e).2 with
            | true => rfl
            | false => exact absurd (by rw [c1, h]) c
          have x1 := ge _ e c2 he (.inr rfl)
          have x2 := le _ e c1 hee.1 (by omega) he (.inl rfl)
          rw [o2, o2] at x1
          rw [o1, o1] at x2
          rw [if_neg (by decide), if_neg (by decide)]; omega
    have zero : ∀ e, e < g.2.length → cross A g F H e - cross A g F' H' e = 0 := fun e he => by
      have := sm_ge_one nn he
      have := nn e he
      omega
    have stay : ∀ u, A u = true → A (oth (ed g (rt x u)) u) = true := fun u hu => by
      obtain ⟨⟨u0, u1, uq⟩, _⟩ := (hA u).1 hu
      obtain ⟨he, hae⟩ := S.ts.1.1.atN u0 u1 uq
      have he : rt x u < g.2.length := he
      have hae : AtN g (rt x u) u := hae
      have hee := ed_ok hG he
      have hst := strict u hu
      have hz := zero _ he
      cases hw : A (oth (ed g (rt x u)) u) with
      | true => rfl
      | false =>
        exfalso
        have o1 : ∀ F H : Nat → Int, outs g F H (rt x u) (ed g (rt x u)).1 = F (rt x u) := fun F H => if_pos rfl
        have o2 : ∀ F H : Nat → Int, outs g F H (rt x u) (ed g (rt x u)).2 = H (rt x u) := fun F H => if_neg (by omega)
        rcases hae with h | h
        · have e1 : oth (ed g (rt x u)) u = (ed g (rt x u)).2 := by unfold oth; omega
          rw [e1] at hw
          have hu' : A (ed g (rt x u)).1 = true := by rw [h]; exact hu
          have x2 := le _ (rt x u) hw (by omega) hee.2.2 he (.inr rfl)
          have hst' : outs g F' H' (rt x u) (ed g (rt x u)).1 < outs g F H (rt x u) (ed g (rt x u)).1 := by rw [h]; exact hst
          rw [o1, o1] at hst'
          rw [o2, o2] at x2
          unfold cross at hz
          have hne : ¬ A (ed g (rt x u)).1 = A (ed g (rt x u)).2 := by rw [hu', hw]; decide
          rw [if_neg hne, if_neg hne, if_pos hu', if_pos hu'] at hz
          omega
        · have e1 : oth (ed g (rt x u)) u = (ed g (rt x u)).1 := by unfold oth; omega
          rw [e1] at hw
          have hu' : A (ed g (rt x u)).2 = true := by rw [h]; exact hu
          have x2 := le _ (rt x u) hw hee.1 (by omega) he (.inl rfl)
          have hst' : outs g F' H' (rt x u) (ed g (rt x u)).2 < outs g F H (rt x u) (ed g (rt x u)).2 := by rw [h]; exact hst
          rw [o2, o2] at hst'
          rw [o1, o1] at x2
          unfold cross at hz
          have hne : ¬ A (ed g (rt x u)).1 = A (ed g (rt x u)).2 := by rw [hw, hu']; decide
          have hn1 : ¬ A (ed g (rt x u)).1 = true := by rw [hw]; decide
          rw [if_neg hne, if_neg hne, if_neg hn1, if_neg hn1] at hz
          omega
    have out : ∀ {k : Nat} {u : Int}, Ex g x q k u → A u = false := by
      intro k u h
      induction h with
      | sink => exact hAq
      | @step k u u0 u1 uq _ ih =>
        cases hu : A u with
        | false => rfl
        | true =>
          have := stay u hu
          have ih' : A (oth (ed g (rt x u)) u) = false := ih
          rw [this] at ih'; cases ih'
    intro u u0 u1 uq h
    obtain ⟨k, hk⟩ := S.ts.2 u u0 u1
    have h1 := out hk
    have h2 : A u = true := (hA u).2 ⟨⟨u0, u1, uq⟩, h⟩
    rw [h1] at h2; cases h2
  have n1 := none haa S S' K K' sK sK'
  have n2 := none (fun v hv hq => (haa v hv hq).symm) S' S K' K sK' sK
  have hl := S.ts.1.1.2.2.2.1
  have hl' := S'.ts.1.1.2.2.2.1
  refine ext_getD (d := 0) (by omega) fun j hj => ?_
  by_cases c : (j : Int) = q
  · have h1 := S.ts.1.2
    have h2 := S'.ts.1.2
    rw [show q.toNat = j by omega] at h1 h2
    rw [h1, h2]
  · have u0 : 0 ≤ (j : Int) := by omega
    have u1 : (j : Int) < g.1 := by omega
    have a1 := n1 (j : Int) u0 u1 c
    have a2 := n2 (j : Int) u0 u1 c
    have hρ := (h0.atN u0 u1 c).1
    have e1 := (S.ts.1.1.atN u0 u1 c).1
    have e2 := (S'.ts.1.1.atN u0 u1 c).1
    have heq : off g.2.length (rt r0 (j : Int)) (rt x (j : Int)) = off g.2.length (rt r0 (j : Int)) (rt x' (j : Int)) := by omega
    have := off_inj hρ e1 e2 heq
    unfold rt at this
    rw [Int.toNat_natCast] at this
    have p1 := S.ts.1.1.2.2.2.2 j (by omega) c
    have p2 := S'.ts.1.1.2.2.2.2 j (by omega) c
    omega
end Go.Proofs.Ythmddgkpebneoaa.D

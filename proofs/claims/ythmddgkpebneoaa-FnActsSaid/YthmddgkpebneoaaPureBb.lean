/-
  A walker among rotors comes to the sink: no edge is taken much more often than its neighbours.
-/
import Derived.Test.YthmddgkpebneoaaPureBa
import Derived.Test.YthmddgkpebneoaaPureK
namespace Go.Proofs.Ythmddgkpebneoaa.D
open Go Go.Den
set_option linter.unusedVariables false
set_option linter.unusedSimpArgs false
abbrev AtN (g : Gr) (i : Nat) (v : Int) : Prop := (ed g i).1 = v ∨ (ed g i).2 = v
/-- how long it takes until the edge i is the next one, the rotor standing at a -/
def off (m a i : Nat) : Nat := (i + m - a - 1) % m
theorem off_mod {m a k : Nat} (ha : a < m) (h1 : 1 ≤ k) (hk : k ≤ m) : off m a ((a + k) % m) = k - 1 := by
  unfold off
  rcases Nat.lt_or_ge (a + k) m with h | h
  · rw [Nat.mod_eq_of_lt h, show a + k + m - a - 1 = (k - 1) + m by omega, Nat.add_mod_right, Nat.mod_eq_of_lt (by omega)]
  · have e : (a + k) % m = a + k - m := by
      rw [Nat.mod_eq_sub_mod h, Nat.mod_eq_of_lt (by omega)]
    rw [e, show a + k - m + m - a - 1 = k - 1 by omega, Nat.mod_eq_of_lt (by omega)]
theorem off_ex {m a i : Nat} (ha : a < m) (hi : i < m) : ∃ k, 1 ≤ k ∧ k ≤ m ∧ (a + k) % m = i := by
  rcases Nat.lt_or_ge a i with h | h
  · exact ⟨i - a, by omega, by omega, by rw [show a + (i - a) = i by omega, Nat.mod_eq_of_lt hi]⟩
  · refine ⟨i + m - a, by omega, by omega, ?_⟩
    rw [show a + (i + m - a) = i + m by omega, Nat.add_mod_right, Nat.mod_eq_of_lt hi]
/-- what the next edge at a vertex is -/
structure NX (g : Gr) (v i r : Int) : Prop where
  at' : At g r v
  least : ∀ j, j < g.2.length → AtN g j v → off g.2.length i.toNat r.toNat ≤ off g.2.length i.toNat j
theorem next_q {g : Gr} {v i : Int} (hG : GOk g) (hi : At g i v) (hv : 0 ≤ v ∧ v < g.1) : ∃ r, impl_NextRotor g v i = some r ∧ NX g v i r := by
  have hg := hG.1.2.1
  have hn := hG.1.1
  obtain ⟨a, rfl⟩ : ∃ a : Nat, i = (a : Int) := ⟨i.toNat, by have := hi.1; omega⟩
  have ha : a < g.2.length := by have := hi.2.1; omega
  have key : ∀ m k, k + m = g.2.length → ∃ k0, k ≤ k0 ∧ k0 ≤ g.2.length ∧ impl_NextRotor_l0 v g (g.2.length : Int) (((a + k) % g.2.length : Nat) : Int) = some ((((a + k0) % g.2.length : Nat)) : Int) ∧ AtN g ((a + k0) % g.2.length) v ∧ ∀ j, k ≤ j → j < k0 → ¬ AtN g ((a + j) % g.2.length) v := by
    intro m
    induction m with
    | zero =>
      intro k hk
      have : k = g.2.length := by omega
      subst this
      refine ⟨g.2.length, Nat.le_refl _, Nat.le_refl _, ?_, ?_, fun j h1 h2 => by omega⟩
      · rw [impl_NextRotor_l0_eq, Nat.add_mod_right, Nat.mod_eq_of_lt ha, isAt_p (by omega) hi.1 hi.2.1, decide_eq_true hi.2.2]; rfl
      · rw [Nat.add_mod_right, Nat.mod_eq_of_lt ha]
        exact hi.2.2
    | succ m ih =>
      intro k hk
      have hk' : k < g.2.length := by omega
      have hx : (a + k) % g.2.length < g.2.length := Nat.mod_lt _ (by omega)
      by_cases c : AtN g ((a + k) % g.2.length) v
      · refine ⟨k, Nat.le_refl _, by omega, ?_, c, fun j h1 h2 => by omega⟩
        rw [impl_NextRotor_l0_eq, isAt_p (by omega) (by omega) (by omega), Int.toNat_natCast, decide_eq_true c]; rfl
      · obtain ⟨k0, h1, h2, h3, h4, h5⟩ := ih (k + 1) (by omega)
        refine ⟨k0, by omega, h2, ?_, h4, fun j q1 q2 => ?_⟩
        · have e : Int.tmod (w64 ((((a + k) % g.2.length : Nat) : Int) + 1)) (g.2.length : Int) = (((a + (k + 1)) % g.2.length : Nat) : Int) := by
            rw [w64_succ hx (by omega), tmod_nat, Nat.mod_add_mod, Nat.add_assoc]
          rw [impl_NextRotor_l0_eq, isAt_p (by omega) (by omega) (by omega), Int.toNat_natCast, decide_eq_false c]
          simp only [Option.bind_some, Bool.not_false, cond_true]
          rw [decide_eq_false (show ¬ (g.2.length : Int) = 0 by omega), cond_false, e]
          exact h3
        · rcases Nat.lt_or_ge k j with u | u
          · exact h5 j (by omega) q2
          · rw [show j = k by omega]; exact c
  obtain ⟨k0, h1, h2, h3, h4, h5⟩ := key (g.2.length - 1) 1 (by omega)
  have hx : (a + k0) % g.2.length < g.2.length := Nat.mod_lt _ (by omega)
  obtain ⟨b, p1, p2, p3⟩ := graphOk_p (g := g) (by omega)
  have hb := p3.2 hG
  subst hb
  refine ⟨(((a + k0) % g.2.length : Nat) : Int), ?_, ⟨⟨by omega, by omega, by rw [Int.toNat_natCast]; exact h4⟩, fun j hj hja => ?_⟩⟩
  · rw [impl_NextRotor_eq, impl_isVertex_eq, p2]
    simp only [Option.bind_some, cond_true]
    rw [within_p, w64_id (n := g.1 - 1) (by omega) (by omega), decide_eq_true (show 0 ≤ v ∧ v ≤ g.1 - 1 by omega)]
    simp only [Option.bind_some, Bool.not_true, cond_false]
    rw [isAt_p (by omega) hi.1 hi.2.1, decide_eq_true hi.2.2, decide_eq_false (show ¬ (g.2.length : Int) = 0 by omega), w64_succ ha (by omega), tmod_nat]
    exact h3
  · rw [Int.toNat_natCast, Int.toNat_natCast, off_mod ha h1 h2]
    obtain ⟨k, q1, q2, q3⟩ := off_ex ha hj
    rw [← q3, off_mod ha q1 q2]
    rcases Nat.lt_or_ge k k0 with u | u
    · exact absurd (q3 ▸ hja) (h5 k q1 u)
    · omega
/-- after a step the next edge has the longest to wait; the others' order stays -/
theorem off_turn {m a b i : Nat} (ha : a < m) (hb : b < m) (hi : i < m) (h : off m a b ≤ off m a i) (hne : i ≠ b) : off m b i = off m a i - off m a b - 1 ∧ off m a b < off m a i := by
  obtain ⟨k, k1, k2, k3⟩ := off_ex ha hb
  obtain ⟨l, l1, l2, l3⟩ := off_ex ha hi
  have e1 : off m a b = k - 1 := by rw [← k3, off_mod ha k1 k2]
  have e2 : off m a i = l - 1 := by rw [← l3, off_mod ha l1 l2]
  rw [e1, e2] at h ⊢
  have hkl : k ≠ l := fun c => hne (by rw [← k3, ← l3, c])
  have e3 : (b + (l - k)) % m = i := by rw [← k3, Nat.mod_add_mod, show a + k + (l - k) = a + l by omega, l3]
  refine ⟨?_, by omega⟩
  rw [← e3, off_mod hb (by omega) (by omega)]
  omega
theorem off_self {m a : Nat} (ha : a < m) : off m a a = m - 1 := by
  have := off_mod (k := m) ha (by omega) (Nat.le_refl _)
  rwa [Nat.add_mod_right, Nat.mod_eq_of_lt ha] at this
theorem off_lt {m a i : Nat} (hm : 0 < m) : off m a i < m := Nat.mod_lt _ hm
/-! ### the walk, step by step -/
def outs (g : Gr) (F H : Nat → Int) (e : Nat) (u : Int) : Int := if (ed g e).1 = u then F e else H e
def cross (A : Int → Bool) (g : Gr) (F H : Nat → Int) (e : Nat) : Int := if A (ed g e).1 = A (ed g e).2 then 0 else if A (ed g e).1 = true then F e - H e else H e - F e
def ib (b : Bool) : Int := if b = true then 1 else 0
structure WK (g : Gr) (q v0 : Int) (t : Nat) (r : List Int) (v : Int) (F H : Nat → Int) : Prop where
  ro : RO g r q
  rq : r.getD q.toNat 0 = -1
  vr : 0 ≤ v ∧ v < g.1
  nn : ∀ e, e < g.2.length → 0 ≤ F e ∧ 0 ≤ H e
  sink : ∀ e, e < g.2.length → outs g F H e q = 0 ∨ ¬ AtN g e q
  bal : ∀ u, 0 ≤ u → u < g.1 → u ≠ q → ∀ e e', e < g.2.length → e' < g.2.length → AtN g e u → AtN g e' u → off g.2.length (r.getD u.toNat 0).toNat e < off g.2.length (r.getD u.toNat 0).toNat e' → outs g F H e u ≤ outs g F H e' u ∧ outs g F H e' u ≤ outs g F H e u + 1
  flow : ∀ A : Int → Bool, sm g.2.length (cross A g F H) = ib (A v0) - ib (A v)
  tot : sm g.2.length (fun e => F e + H e) = (t : Int)
theorem ed_ok {g : Gr} (hG : GOk g) {e : Nat} (he : e < g.2.length) : 0 ≤ (ed g e).1 ∧ (ed g e).1 < (ed g e).2 ∧ (ed g e).2 < g.1 := hG.1.2.2 e he
theorem WK.step {g : Gr} {q v0 : Int} {t : Nat} {r : List Int} {v : Int} {F H : Nat → Int} (W : WK g q v0 t r v F H) (hne : ¬ v = q) {i : Int} (hx : NX g v (r.getD v.toNat 0) i) :
    ∃ F' H', WK g q v0 (t + 1) (r.set v.toNat i) (oth (ed g i.toNat) v) F' H' := by
  have hG := W.ro.1
  have hl := W.ro.2.2.2.1
  have hvr := W.vr
  obtain ⟨j, rfl⟩ : ∃ j : Nat, i = (j : Int) := ⟨i.toNat, by have := hx.at'.1; omega⟩
  have hj : j < g.2.length := by have := hx.at'.2.1; omega
  have hjv : AtN g j v := by have := hx.at'.2.2; rwa [Int.toNat_natCast] at this
  have hed := ed_ok hG hj
  have hs := W.ro.step W.rq hvr hne hx.at'
  rw [Int.toNat_natCast]
  have hat0 : At g (r.getD v.toNat 0) v := by
    have := W.ro.2.2.2.2 v.toNat (by omega) (by omega)
    rw [show ((v.toNat : Nat) : Int) = v by omega] at this
    exact this
  have ha : (r.getD v.toNat 0).toNat < g.2.length := by have := hat0.1; have := hat0.2.1; omega
  have hwr : 0 ≤ oth (ed g j) v ∧ oth (ed g j) v < g.1 := by
    unfold oth
    rcases hjv with h | h <;> omega
  generalize hp : (if (ed g j).1 = v then (1 : Int) else 0) = p
  have hp01 : (p = 1 ∧ (ed g j).1 = v) ∨ (p = 0 ∧ (ed g j).2 = v ∧ ¬ (ed g j).1 = v) := by
    by_cases c : (ed g j).1 = v
    · rw [if_pos c] at hp; exact .inl ⟨hp.symm, c⟩
    · rw [if_neg c] at hp; exact .inr ⟨hp.symm, hjv.resolve_left c, c⟩
  let F' : Nat → Int := fun e => F e + if e = j then p else 0
  let H' : Nat → Int := fun e => H e + if e = j then 1 - p else 0
  have oo : ∀ e u, e < g.2.length → AtN g e u → outs g F' H' e u = outs g F H e u + if e = j ∧ u = v then 1 else 0 := by
    intro e u he hu
    have hee := ed_ok hG he
    unfold outs
    by_cases c : e = j
    · subst c
      by_cases c2 : u = v
      · subst c2
        simp only [F', H', if_pos rfl, and_self, if_true]
        rcases hp01 with ⟨h1, h2⟩ | ⟨h1, h2, h3⟩
        · rw [if_pos h2, if_pos h2, h1]
        · rw [if_neg h3, if_neg h3, h1]; omega
      · simp only [F', H', if_pos rfl, c2, and_false, if_false]
        rcases hp01 with ⟨h1, h2⟩ | ⟨h1, h2, h3⟩
        · have : ¬ (ed g e).1 = u := fun k => c2 (by omega)
          rw [if_neg this, if_neg this, h1]; omega
        · by_cases c3 : (ed g e).1 = u
          · rw [if_pos c3, if_pos c3, h1, if_pos trivial]
          · exact absurd (hu.resolve_left c3) (fun k => c2 (by omega))
    · simp only [F', H', if_neg c, c, false_and, if_false, Int.add_zero]
  refine ⟨F', H', ⟨hs.1, hs.2, hwr, fun e he => ?_, fun e he => ?_, ?_, fun A => ?_, ?_⟩⟩
  · have := W.nn e he
    simp only [F', H']
    by_cases c : e = j
    · rw [if_pos c, if_pos c]
      rcases hp01 with ⟨h1, _⟩ | ⟨h1, _⟩ <;> omega
    · rw [if_neg c, if_neg c]; omega
  · by_cases c : AtN g e q
    · rcases W.sink e he with h | h
      · left
        rw [oo e q he c, h, if_neg (fun k => hne k.2.symm)]; rfl
      · exact absurd c h
    · exact .inr c
  · intro u hu0 hu1 huq e e' he he' hau hau' hoff
    by_cases c : u = v
    · subst c
      have hget : (r.set u.toNat (j : Int)).getD u.toNat 0 = (j : Int) := by rw [getD_lt (by rw [List.length_set]; omega), List.getElem_set_self]
      rw [hget, Int.toNat_natCast] at hoff
      rw [oo e u he hau, oo e' u he' hau']
      have hself := off_self hj
      have hmle : ∀ x, off g.2.length j x < g.2.length := fun x => off_lt (by omega)
      have lst := fun x (hx1 : x < g.2.length) (hx2 : AtN g x u) => hx.least x hx1 hx2
      simp only [Int.toNat_natCast] at lst
      have hbal := W.bal u hu0 hu1 huq
      by_cases c1 : e = j
      · subst c1
        have := hmle e'
        omega
      · by_cases c2 : e' = j
        · subst c2
          have hlt := off_turn ha hj he (lst e he hau) c1
          have b := hbal e' e he' he hau' hau hlt.2
          rw [if_neg (fun k => c1 k.1), if_pos ⟨rfl, rfl⟩]
          omega
        · have l1 := off_turn ha hj he (lst e he hau) c1
          have l2 := off_turn ha hj he' (lst e' he' hau') c2
          have b := hbal e e' he he' hau hau' (by omega)
          rw [if_neg (fun k => c1 k.1), if_neg (fun k => c2 k.1)]
          omega
    · have hget : (r.set v.toNat (j : Int)).getD u.toNat 0 = r.getD u.toNat 0 := by
        rw [getD_lt (by rw [List.length_set]; omega), List.getElem_set_ne (by omega), ← getD_lt (d := 0)]
      rw [hget] at hoff
      rw [oo e u he hau, oo e' u he' hau', if_neg (fun k => c k.2), if_neg (fun k => c k.2)]
      have := W.bal u hu0 hu1 huq e e' he he' hau hau' hoff
      omega
  · generalize hd : (if A v = A (oth (ed g j) v) then (0 : Int) else if A v = true then 1 else -1) = dd
    have hc : ∀ e, e < g.2.length → cross A g F' H' e = cross A g F H e + if e = j then dd else 0 := by
      intro e he
      unfold cross
      by_cases c : e = j
      · subst c
        simp only [F', H', if_pos rfl]
        rcases hp01 with ⟨h1, h2⟩ | ⟨h1, h2, h3⟩
        · have ho : oth (ed g e) v = (ed g e).2 := by unfold oth; omega
          rw [ho, ← h2] at hd
          rw [h1, ← hd]
          by_cases k : A (ed g e).1 = A (ed g e).2
          · rw [if_pos k, if_pos k, if_pos k]; simp
          · by_cases k2 : A (ed g e).1 = true
            · rw [if_neg k, if_neg k, if_neg k, if_pos k2, if_pos k2, if_pos k2]
              simp only [if_true]; omega
            · rw [if_neg k, if_neg k, if_neg k, if_neg k2, if_neg k2, if_neg k2]
              simp only [if_true]; omega
        · have ho : oth (ed g e) v = (ed g e).1 := by unfold oth; omega
          rw [ho, ← h2] at hd
          rw [h1, ← hd]
          by_cases k : A (ed g e).1 = A (ed g e).2
          · rw [if_pos k, if_pos k, if_pos k.symm]; simp
          · have k' : ¬ A (ed g e).2 = A (ed g e).1 := fun c => k c.symm
            by_cases k2 : A (ed g e).1 = true
            · have k3 : ¬ A (ed g e).2 = true := fun c => k (by rw [k2, c])
              rw [if_neg k, if_neg k, if_neg k', if_pos k2, if_pos k2, if_neg k3]
              simp only [if_true]; omega
            · have k3 : A (ed g e).2 = true := by
                cases h : A (ed g e).2 with
                | true => rfl
                | false =>
                  cases h' : A (ed g e).1 with
                  | true => exact absurd h' k2
                  | false => exact absurd (by rw [h, h']) k
              rw [if_neg k, if_neg k, if_neg k', if_neg k2, if_neg k2, if_pos k3]
              simp only [if_true]; omega
      · simp only [F', H', if_neg c, Int.add_zero]
    rw [sm_congr hc, sm_add, W.flow A, sm_one, if_pos hj, ← hd]
    unfold ib
    cases A v <;> cases A (oth (ed g j) v) <;> simp <;> omega
  · have : sm g.2.length (fun e => F' e + H' e) = sm g.2.length (fun e => (F e + H e) + if e = j then 1 else 0) := sm_congr fun e _ => by
      simp only [F', H']
      by_cases c : e = j
      · rw [if_pos c, if_pos c, if_pos c]; omega
      · rw [if_neg c, if_neg c, if_neg c]; omega
    rw [this, sm_add, W.tot, sm_one, if_pos hj]
    omega
theorem RO.atN {g : Gr} {r : List Int} {q u : Int} (h : RO g r q) (h0 : 0 ≤ u) (h1 : u < g.1) (hq : ¬ u = q) : (r.getD u.toNat 0).toNat < g.2.length ∧ AtN g (r.getD u.toNat 0).toNat u := by
  have hl := h.2.2.2.1
  have := h.2.2.2.2 u.toNat (by omega) (by omega)
  rw [show ((u.toNat : Nat) : Int) = u by omega] at this
  exact ⟨by omega, this.2.2⟩
/-- edges at one vertex are taken alike often -/
theorem WK.even {g : Gr} {q v0 : Int} {t : Nat} {r : List Int} {v : Int} {F H : Nat → Int} (W : WK g q v0 t r v F H) {u : Int} (hu0 : 0 ≤ u) (hu1 : u < g.1) (huq : u ≠ q) {e e' : Nat} (he : e < g.2.length) (he' : e' < g.2.length) (ha : AtN g e u) (ha' : AtN g e' u) : outs g F H e' u ≤ outs g F H e u + 1 := by
  rcases Nat.lt_trichotomy (off g.2.length (r.getD u.toNat 0).toNat e) (off g.2.length (r.getD u.toNat 0).toNat e') with h | h | h
  · exact (W.bal u hu0 hu1 huq e e' he he' ha ha' h).2
  · have hr := (W.ro.atN hu0 hu1 huq).1
    obtain ⟨k, k1, k2, k3⟩ := off_ex hr he
    obtain ⟨l, l1, l2, l3⟩ := off_ex hr he'
    rw [← k3, ← l3, off_mod hr k1 k2, off_mod hr l1 l2] at h
    have : e = e' := by rw [← k3, ← l3, show k = l by omega]
    subst this
    omega
  · have := (W.bal u hu0 hu1 huq e' e he' he ha' ha h).1
    omega
theorem WK.bound {g : Gr} {q v0 : Int} {t : Nat} {r : List Int} {v : Int} {F H : Nat → Int} (W : WK g q v0 t r v F H) {r0 : List Int} (h0 : RO g r0 q) : ∀ {k : Nat} {u : Int}, Ld g r0 q k u → ∀ e, e < g.2.length → AtN g e u → outs g F H e u ≤ 2 * (k : Int) := by
  classical
  have hG := W.ro.1
  intro k u h
  induction h with
  | sink k =>
    intro e he ha
    rcases W.sink e he with h | h
    · rw [h]; omega
    · exact absurd ha h
  | @step k u hu0 hu1 huq hl ih =>
    intro e he ha
    obtain ⟨q1, q2⟩ := h0.atN hu0 hu1 huq
    generalize (r0.getD u.toNat 0).toNat = e0 at q1 q2 ih
    by_cases hx : outs g F H e u ≤ 1
    · omega
    have hed := ed_ok hG q1
    let A : Int → Bool := fun y => decide (y ≠ q ∧ 0 ≤ y ∧ y < g.1 ∧ ∀ e', e' < g.2.length → AtN g e' y → outs g F H e u - 1 ≤ outs g F H e' y)
    have hA : ∀ y, A y = true ↔ (y ≠ q ∧ 0 ≤ y ∧ y < g.1 ∧ ∀ e', e' < g.2.length → AtN g e' y → outs g F H e u - 1 ≤ outs g F H e' y) := fun y => decide_eq_true_iff
    have hAu : A u = true := (hA u).2 ⟨huq, hu0, hu1, fun e' he' ha' => by have := W.even hu0 hu1 huq he' he ha' ha; omega⟩
    have hlow : ∀ b e', A b = false → 0 ≤ b → b < g.1 → e' < g.2.length → AtN g e' b → outs g F H e' b ≤ outs g F H e u - 1 := by
      intro b e' hb hb0 hb1 he' hab
      by_cases c : b = q
      · subst c
        rcases W.sink e' he' with h | h
        · rw [h]; omega
        · exact absurd hab h
      · by_cases c2 : ∀ e', e' < g.2.length → AtN g e' b → outs g F H e u - 1 ≤ outs g F H e' b
        · rw [(hA b).2 ⟨c, hb0, hb1, c2⟩] at hb; cases hb
        · have : ∃ e2, e2 < g.2.length ∧ AtN g e2 b ∧ outs g F H e2 b < outs g F H e u - 1 := by
            apply Classical.byContradiction
            intro k
            refine c2 fun e2 h1 h2 => ?_
            apply Classical.byContradiction
            intro k2
            exact k ⟨e2, h1, h2, by omega⟩
          obtain ⟨e2, h1, h2, h3⟩ := this
          have := W.even hb0 hb1 c h1 he' h2 hab
          omega
    have hnn : ∀ e', e' < g.2.length → 0 ≤ cross A g F H e' := by
      intro e' he'
      have hee := ed_ok hG he'
      unfold cross
      by_cases c : A (ed g e').1 = A (ed g e').2
      · rw [if_pos c]; exact Int.le_refl _
      · rw [if_neg c]
        have o1 : outs g F H e' (ed g e').1 = F e' := if_pos rfl
        have o2 : outs g F H e' (ed g e').2 = H e' := if_neg (by omega)
        by_cases c2 : A (ed g e').1 = true
        · rw [if_pos c2]
          have c3 : A (ed g e').2 = false := by
            cases h : A (ed g e').2 with
            | false => rfl
            | true => exact absurd (by rw [c2, h]) c
          have x1 := ((hA _).1 c2).2.2.2 e' he' (.inl rfl)
          have x2 := hlow _ e' c3 (by omega) hee.2.2 he' (.inr rfl)
          omega
        · rw [if_neg c2]
          have c4 : A (ed g e').1 = false := by
            cases h : A (ed g e').1 with
            | false => rfl
            | true => exact absurd h c2
          have c3 : A (ed g e').2 = true := by
            cases h : A (ed g e').2 with
            | true => rfl
            | false => exact absurd (by rw [c4, h]) c
          have x1 := ((hA _).1 c3).2.2.2 e' he' (.inr rfl)
          have x2 := hlow _ e' c4 hee.1 (by omega) he' (.inl rfl)
          omega
    have hfl := W.flow A
    have hle : cross A g F H e0 ≤ 1 := by
      have := sm_ge_one hnn q1
      unfold ib at hfl
      have h1 : (if A v0 = true then (1 : Int) else 0) ≤ 1 := by split <;> omega
      have h2 : (0 : Int) ≤ (if A v = true then (1 : Int) else 0) := by split <;> omega
      omega
    have hwr : 0 ≤ oth (ed g e0) u ∧ oth (ed g e0) u < g.1 := by
      unfold oth
      rcases q2 with h | h <;> omega
    have hwa : AtN g e0 (oth (ed g e0) u) := by
      unfold oth
      rcases q2 with h | h
      · exact .inr (by omega)
      · exact .inl (by omega)
    have hw := ih e0 q1 hwa
    have hev := W.even hu0 hu1 huq q1 he q2 ha
    cases hAw : A (oth (ed g e0) u) with
    | true =>
      have := ((hA _).1 hAw).2.2.2 e0 q1 hwa
      omega
    | false =>
      have hcr : cross A g F H e0 = outs g F H e0 u - outs g F H e0 (oth (ed g e0) u) := by
        unfold cross outs
        unfold oth at hAw ⊢
        rcases q2 with h | h
        · have e1 : (ed g e0).1 + (ed g e0).2 - u = (ed g e0).2 := by omega
          rw [e1] at hAw ⊢
          have : ¬ (ed g e0).1 = (ed g e0).2 := by omega
          rw [h, hAu, hAw, if_neg (by decide), if_pos rfl, if_pos rfl, if_neg (by omega)]
        · have e1 : (ed g e0).1 + (ed g e0).2 - u = (ed g e0).1 := by omega
          rw [e1] at hAw ⊢
          rw [h, hAu, hAw, if_neg (by decide), if_neg (by decide), if_neg (by omega), if_pos rfl]
      omega
/-! ### the walk comes to an end -/
inductive Run (g : Gr) (q : Int) : List Int → Int → Nat → List Int → Prop
  | done (r : List Int) : Run g q r q 0 r
  | step {r x : List Int} {v i : Int} {n : Nat} : ¬ v = q → NX g v (r.getD v.toNat 0) i → impl_NextRotor g v (r.getD v.toNat 0) = some i → Run g q (r.set v.toNat i) (oth (ed g i.toNat) v) n x → Run g q r v (n + 1) x
theorem run_ex {g : Gr} {q v0 : Int} {r0 : List Int} (h0 : RO g r0 q) (hq0 : r0.getD q.toNat 0 = -1) (hv0 : 0 ≤ v0 ∧ v0 < g.1) (hld : ∀ u, 0 ≤ u → u < g.1 → Ld g r0 q 6 u) : ∃ n x, n ≤ 300 ∧ Run g q r0 v0 n x := by
  have hG := h0.1
  have key : ∀ (s t : Nat) (r : List Int) (v : Int) (F H : Nat → Int), t + s = 300 → WK g q v0 t r v F H → ∃ n x, n ≤ s ∧ Run g q r v n x := by
    intro s
    induction s with
    | zero =>
      intro t r v F H hs W
      exfalso
      have h1 : sm g.2.length (fun e => F e + H e) ≤ (g.2.length : Int) * 24 := sm_const_le fun e he => by
        have hee := ed_ok hG he
        have b1 := W.bound h0 (hld (ed g e).1 hee.1 (by omega)) e he (.inl rfl)
        have b2 := W.bound h0 (hld (ed g e).2 (by omega) hee.2.2) e he (.inr rfl)
        have o1 : outs g F H e (ed g e).1 = F e := if_pos rfl
        have o2 : outs g F H e (ed g e).2 = H e := if_neg (by omega)
        omega
      have h2 := W.tot
      have h3 := hG.1.2.1
      omega
    | succ s ih =>
      intro t r v F H hs W
      by_cases c : v = q
      · subst c; exact ⟨0, r, Nat.zero_le _, .done r⟩
      · have hat0 : At g (r.getD v.toNat 0) v := by
          have hl := W.ro.2.2.2.1
          have hvr := W.vr
          have := W.ro.2.2.2.2 v.toNat (by omega) (by omega)
          rw [show ((v.toNat : Nat) : Int) = v by omega] at this
          exact this
        obtain ⟨i, i1, i2⟩ := next_q hG hat0 W.vr
        obtain ⟨F', H', W'⟩ := W.step c i2
        obtain ⟨n, x, n1, n2⟩ := ih (t + 1) _ _ F' H' (by omega) W'
        exact ⟨n + 1, x, by omega, .step c i2 i1 n2⟩
  refine key 300 0 r0 v0 (fun _ => 0) (fun _ => 0) rfl ⟨h0, hq0, hv0, fun e _ => ⟨Int.le_refl _, Int.le_refl _⟩, fun e _ => .inl ?_, fun u _ _ _ e e' _ _ _ _ _ => ?_, fun A => ?_, ?_⟩
  · unfold outs; split <;> rfl
  · unfold outs
    constructor <;> split <;> split <;> simp
  · have : sm g.2.length (cross A g (fun _ => 0) fun _ => 0) = sm g.2.length (fun _ => 0) := sm_congr fun e _ => by
      unfold cross
      split
      · rfl
      · split <;> rfl
    rw [this, sm_zero]; omega
  · exact sm_zero _
end Go.Proofs.Ythmddgkpebneoaa.D

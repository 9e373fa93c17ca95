/-
  FnConsole: a session returns the outputs of its lines.
-/
import Derived.Test.YthhogfhffpfkdaaGreatDoorPureCk
import Derived.Test.YthhogfhffpfkdaaGreatDoorPureCs0
import Derived.Test.YthhogfhffpfkdaaGreatDoorPureCs1
import Derived.Test.YthhogfhffpfkdaaGreatDoorPureCs2
import Derived.Test.YthhogfhffpfkdaaGreatDoorPureCs3
import Derived.Test.YthhogfhffpfkdaaGreatDoorPureSj
namespace Go.Proofs.YthhogfhffpfkdaaGreatDoor.D.Cs
open Go Go.Den Go.Proofs.YthhogfhffpfkdaaGreatDoor.D
set_option linter.unusedVariables false
set_option maxRecDepth 100000
theorem few_le {s : ByteArray} (h : few s = true) : s.size ≤ 1000 := Nat.le_of_ble_eq_true h
theorem fo_ok {r : Option (ZC × ByteArray)} {c : ZC} (h : fo r = (some c, true)) : ∃ s, r = some (c, s) ∧ s.size ≤ 1000 := by
  have h1 : r.map Prod.fst = some c := congrArg Prod.fst h
  have h2 : (fo r).2 = true := congrArg Prod.snd h
  cases r with
  | none => cases h1
  | some p =>
    obtain ⟨a, s⟩ := p
    obtain rfl : a = c := Option.some.inj h1
    exact ⟨s, rfl, few_le h2⟩
theorem sz_ok {r : Option ByteArray} (h : sz r = true) : ∃ s, r = some s ∧ s.size ≤ 1000 := by
  cases r with
  | none => cases h
  | some s => exact ⟨s, rfl, few_le h⟩
theorem AllL.mem {α : Type} {P : α → Prop} {l : List α} (h : AllL P l) : ∀ a ∈ l, P a := by
  induction h with
  | nil => intro a ha; cases ha
  | cons h1 _ ih =>
    intro a ha
    rcases List.mem_cons.1 ha with rfl | ha
    · exact h1
    · exact ih a ha
theorem chT_lk {g : Nat} {d : List Int} {a b c : Nat} : ∀ {t : Tr}, chT g t = true → lk t d = some (a, b, c) → ch g d a b c = true
  | .L, _, k => by cases k
  | .N l e a' b' c' r, h, k => by
    have h' : (chT g l && (ch g e a' b' c' && chT g r)) = true := h
    simp only [Bool.and_eq_true] at h'
    obtain ⟨h1, h2, h3⟩ := h'
    unfold lk at k
    by_cases q : d = e
    · rw [decide_eq_true q, cond_true] at k
      cases k
      rw [q]; exact h2
    · rw [decide_eq_false q, cond_false] at k
      by_cases q2 : cmpL d e < 0
      · rw [decide_eq_true q2, cond_true] at k
        exact chT_lk h1 k
      · rw [decide_eq_false q2, cond_false] at k
        exact chT_lk h3 k
theorem tp_ok : ∀ g, chT g (tp g) = true
  | 0 => k_tp0
  | 1 => k_tp1
  | 2 => k_tp2
  | 3 => k_tp3
  | 4 => k_tp4
  | 5 => k_tp5
  | 6 => k_tp6
  | _ + 7 => rfl
/-- what the tables tell of a console from which lines may follow -/
structure Tl (g q : Nat) (d : List Int) : Prop where
  len : d.length = nv g
  g6 : g ≤ 6
  look : 2 ≤ lv g q d → chP g d = true
  step : chS g q d (lv g q d) = true
  sink : q = 0 ∨ (q = 1 ∧ 2 ≤ nv g) ∨ (q = 3 ∧ 4 ≤ nv g)
theorem tl {g q : Nat} {d : List Int} (h : 1 ≤ lv g q d) : Tl g q d := by
  have e : lv g q d = match lk (tp g) d with | some t => sel t q | none => 0 := rfl
  have g6 : g ≤ 6 := by
    rcases Nat.lt_or_ge g 7 with k | k
    · omega
    · obtain ⟨m, rfl⟩ : ∃ m, g = m + 7 := ⟨g - 7, by omega⟩
      have : lv (m + 7) q d = 0 := rfl
      omega
  cases hk : lk (tp g) d with
  | none =>
    rw [hk] at e
    have e' : lv g q d = 0 := e
    omega
  | some t =>
    obtain ⟨a, b, c⟩ := t
    rw [hk] at e
    have e' : lv g q d = sel (a, b, c) q := e
    have hc := chT_lk (tp_ok g) hk
    unfold ch at hc
    simp only [Bool.and_eq_true] at hc
    obtain ⟨⟨⟨⟨⟨⟨h1, h2⟩, h3⟩, h4⟩, h5⟩, h6⟩, h7⟩ := hc
    have hq : (q = 0 ∧ sel (a, b, c) q = a) ∨ (q = 1 ∧ sel (a, b, c) q = b) ∨ (q = 3 ∧ sel (a, b, c) q = c) := by
      match q, e' with
      | 0, _ => exact .inl ⟨rfl, rfl⟩
      | 1, _ => exact .inr (.inl ⟨rfl, rfl⟩)
      | 3, _ => exact .inr (.inr ⟨rfl, rfl⟩)
      | 2, e' => exact absurd (show lv g 2 d = 0 from e') (by omega)
      | n + 4, e' => exact absurd (show lv g (n + 4) d = 0 from e') (by omega)
    have bz : ∀ {x n : Nat}, (Nat.beq x 0 || Nat.ble n (nv g)) = true → x = 0 ∨ n ≤ nv g := fun {x n} h => by
      rw [Bool.or_eq_true] at h
      exact h.imp (fun h => Nat.eq_of_beq_eq_true h) fun h => Nat.le_of_ble_eq_true h
    refine ⟨Nat.eq_of_beq_eq_true h1, g6, fun h2' => ?_, ?_, ?_⟩
    · rw [Bool.or_eq_true] at h4
      rcases h4 with h4 | h4
      · have := Nat.le_of_ble_eq_true h4
        rcases hq with ⟨_, k⟩ | ⟨_, k⟩ | ⟨_, k⟩ <;> omega
      · exact h4
    · rw [e']
      rcases hq with ⟨rfl, k⟩ | ⟨rfl, k⟩ | ⟨rfl, k⟩
      · exact h5
      · exact h6
      · exact h7
    · rcases hq with ⟨k0, k⟩ | ⟨k0, k⟩ | ⟨k0, k⟩
      · exact .inl k0
      · exact .inr (.inl ⟨k0, (bz h2).resolve_left (by omega)⟩)
      · exact .inr (.inr ⟨k0, (bz h3).resolve_left (by omega)⟩)
theorem l1 {d : List Int} (h : d.length = 1) : ∃ x, d = [x] := by
  match d, h with
  | [x], _ => exact ⟨x, rfl⟩
theorem l2 {d : List Int} (h : d.length = 2) : ∃ x y, d = [x, y] := by
  match d, h with
  | [x, y], _ => exact ⟨x, y, rfl⟩
theorem l3 {d : List Int} (h : d.length = 3) : ∃ x y z, d = [x, y, z] := by
  match d, h with
  | [x, y, z], _ => exact ⟨x, y, z, rfl⟩
theorem l4 {d : List Int} (h : d.length = 4) : ∃ x y z w, d = [x, y, z, w] := by
  match d, h with
  | [x, y, z, w], _ => exact ⟨x, y, z, w, rfl⟩
theorem sym {g q : Nat} {d : List Int} (h : Tl g q d) : SymK g q d ∧ SymN g q d := by
  have hs := h.sink
  have hl := h.len
  have h6 := h.g6
  have three : ∀ {P : Nat → List Int → Prop}, d.length = 3 → 3 = nv g → (∀ x y z, P 0 [x, y, z]) → (∀ x y z, P 1 [x, y, z]) → P q d := fun {P} k1 k2 p0 p1 => by
    obtain ⟨x, y, z, rfl⟩ := l3 k1
    rcases hs with rfl | ⟨rfl, _⟩ | ⟨rfl, k⟩
    · exact p0 x y z
    · exact p1 x y z
    · omega
  have four : ∀ {P : Nat → List Int → Prop}, d.length = 4 → (∀ x y z w, P 0 [x, y, z, w]) → (∀ x y z w, P 1 [x, y, z, w]) → (∀ x y z w, P 3 [x, y, z, w]) → P q d := fun {P} k1 p0 p1 p3 => by
    obtain ⟨x, y, z, w, rfl⟩ := l4 k1
    rcases hs with rfl | ⟨rfl, _⟩ | ⟨rfl, k⟩
    · exact p0 x y z w
    · exact p1 x y z w
    · exact p3 x y z w
  match g, h6 with
  | 0, _ => exact ⟨three hl rfl symK0_0 symK0_1, three hl rfl symN0_0 symN0_1⟩
  | 1, _ => exact ⟨four hl symK1_0 symK1_1 symK1_3, four hl symN1_0 symN1_1 symN1_3⟩
  | 2, _ => exact ⟨three hl rfl symK2_0 symK2_1, three hl rfl symN2_0 symN2_1⟩
  | 3, _ => exact ⟨four hl symK3_0 symK3_1 symK3_3, four hl symN3_0 symN3_1 symN3_3⟩
  | 4, _ => exact ⟨three hl rfl symK4_0 symK4_1, three hl rfl symN4_0 symN4_1⟩
  | 5, _ =>
    obtain ⟨x, y, rfl⟩ := l2 hl
    rcases hs with rfl | ⟨rfl, _⟩ | ⟨rfl, k⟩
    · exact ⟨symK5_0 x y, symN5_0 x y⟩
    · exact ⟨symK5_1 x y, symN5_1 x y⟩
    · exact absurd (show 4 ≤ 2 from k) (by omega)
  | 6, _ =>
    obtain ⟨x, rfl⟩ := l1 hl
    rcases hs with rfl | ⟨rfl, k⟩ | ⟨rfl, k⟩
    · exact ⟨symK6_0 x, symN6_0 x⟩
    · exact absurd (show 2 ≤ 1 from k) (by omega)
    · exact absurd (show 4 ≤ 1 from k) (by omega)
/-- the lines that look at the chips alone -/
def lookL : List ByteArray := [⟨#[119, 105, 110]⟩, ⟨#[114, 97, 110, 107]⟩, ⟨#[114, 105, 101, 109, 97, 110, 110]⟩, ⟨#[97, 108, 108]⟩]
theorem gr_len (g : Nat) : (gr g).2.length ≤ 12 := by
  match g with
  | 0 | 1 | 2 | 3 | 4 | 5 => exact Nat.le_of_ble_eq_true rfl
  | _ + 6 => exact Nat.zero_le _
/-- a line of one word, that looks at all -/
theorem runWord {c : ZC} {w : ByteArray} (hg : c.1.2.length ≤ 12) (hd : 1 ≤ c.2.1.length ∧ c.2.1.length ≤ 6) (hq : 0 ≤ c.2.2 ∧ c.2.2 < (c.2.1.length : Int)) (h1 : (w.toList == (⟨#[]⟩ : ByteArray).toList) = false) (h2 : inside 0 w.size = true) (h3 : (((bAt w 0) : Int) == 35) = false) (h4 : D.impl_SplitAny w ⟨#[32]⟩ = some [w]) :
    D.impl_RunLine c w = D.impl_RunLine_c48 c ((0, ([] : List (Int × Int))), ([] : List Int), 0) c [w] (c.2.1.set c.2.2.toNat 0) := by
  have hc : D.impl_copyConsole c = some c := by
    rw [impl_copyConsole_eq, impl_copyGraph_eq, decide_eq_true (by unfold room; simp only [List.length_nil]; omega), cond_true, Option.bind_some, impl_copyInts_eq, decide_eq_true (by unfold room; simp only [List.length_nil]; omega)]
    rfl
  have hi : D.impl_copyInts c.2.1 = some c.2.1 := by
    rw [impl_copyInts_eq, decide_eq_true (by unfold room; simp only [List.length_nil]; omega)]
    rfl
  rw [impl_RunLine_eq, hc, Option.bind_some, h1, h2, h3, h4]
  simp only [cond_false, cond_true, Option.bind_some]
  rw [hi, Option.bind_some, impl_within_eq, w64_id (n := (c.2.1.length : Int) - 1) (by omega) (by omega), decide_eq_true hq.1, cond_true, Option.bind_some, decide_eq_true (show c.2.2 ≤ (c.2.1.length : Int) - 1 by omega), cond_true, inside_int hq.1 hq.2, cond_true]
  rfl
theorem look {g q : Nat} {d : List Int} (h : Tl g q d) (h2 : 2 ≤ lv g q d) : ∀ l ∈ lookL, ∃ s, D.impl_RunLine (cn (g, d, q)) l = some (cn (g, d, q), s) ∧ s.size ≤ 1000 := by
  have hp := h.look h2
  unfold chP at hp
  simp only [Bool.and_eq_true] at hp
  obtain ⟨⟨⟨p1, p2⟩, p3⟩, p4⟩ := hp
  have hnv : 1 ≤ nv g ∧ nv g ≤ 6 := by
    match g, h.g6 with
    | 0, _ | 1, _ | 2, _ | 3, _ | 4, _ | 5, _ | 6, _ => exact ⟨Nat.le_of_ble_eq_true rfl, Nat.le_of_ble_eq_true rfl⟩
  have hl := h.len
  have hq : (0 : Int) ≤ (q : Int) ∧ (q : Int) < (d.length : Int) := by
    rcases h.sink with k | ⟨k, k'⟩ | ⟨k, k'⟩ <;> omega
  have rw0 := fun (w : ByteArray) h1 h2 h3 h4 => runWord (c := cn (g, d, q)) (w := w) (gr_len g) ⟨by show 1 ≤ d.length; omega, by show d.length ≤ 6; omega⟩ hq h1 h2 h3 h4
  have fin : ∀ {α : Type} {f f' : Option α} {k k' : α → Option ByteArray} {x : Option (ZC × ByteArray)}, Le f f' → (∀ a, Le (k a) (k' a)) → sz (f.bind k) = true → x = (f'.bind fun r => (k' r).bind fun s => some (cn (g, d, q), s)) → ∃ s, x = some (cn (g, d, q), s) ∧ s.size ≤ 1000 := fun {α f f' k k' x} hf hk hs hx => by
    obtain ⟨s, e, hs⟩ := sz_ok hs
    obtain ⟨a, e1, e2⟩ := Option.bind_eq_some_iff.1 e
    exact ⟨s, by rw [hx, hf a e1, Option.bind_some, hk a s e2]; rfl, hs⟩
  intro l hlk
  simp only [lookL, List.mem_cons, List.not_mem_nil, or_false] at hlk
  rcases hlk with rfl | rfl | rfl | rfl
  · refine fin (f' := D.impl_WinLine (gr g) d) (k' := D.impl_orNone) K.impl_WinLine_s (fun a => K.impl_orNone_s) p1 ((rw0 _ (by kernel_rfl) (by kernel_rfl) (by kernel_rfl) (K.impl_SplitAny_s _ (by kernel_rfl))).trans ?_)
    rw [impl_RunLine_c48_eq]
    kernel_rfl
  · refine fin (f' := D.impl_RankLine (gr g) d) (k' := D.impl_orNone) K.impl_RankLine_s (fun a => K.impl_orNone_s) p2 ((rw0 _ (by kernel_rfl) (by kernel_rfl) (by kernel_rfl) (K.impl_SplitAny_s _ (by kernel_rfl))).trans ?_)
    rw [impl_RunLine_c48_eq]
    kernel_rfl
  · refine fin (f' := D.impl_RiemannLine (gr g) d) (k' := D.impl_orNone) K.impl_RiemannLine_s (fun a => K.impl_orNone_s) p3 ((rw0 _ (by kernel_rfl) (by kernel_rfl) (by kernel_rfl) (K.impl_SplitAny_s _ (by kernel_rfl))).trans ?_)
    rw [impl_RunLine_c48_eq]
    kernel_rfl
  · refine fin (f' := D.impl_EffectiveIn (gr g) d) (k' := fun r => D.impl_listed r.1 r.2) K.impl_EffectiveIn_s (fun a => K.impl_listed_s) p4 ((rw0 _ (by kernel_rfl) (by kernel_rfl) (by kernel_rfl) (K.impl_SplitAny_s _ (by kernel_rfl))).trans ?_)
    rw [impl_RunLine_c48_eq]
    kernel_rfl
/-- the lines that are drawn behind the first -/
def Pl (l : ByteArray) : Prop := l ∈ keepL ∨ l ∈ nextL ∨ l ∈ concL ∨ l ∈ lookL
/-- so many lines may follow, each is answered shortly -/
def Ok : Nat → ZC → Prop
  | 0, _ => True
  | n + 1, c => ∀ l, Pl l → ∃ c' s, D.impl_RunLine c l = some (c', s) ∧ s.size ≤ 1000 ∧ Ok n c'
theorem nextL_get {l : ByteArray} (h : l ∈ nextL) : ∃ i ∈ [0, 1, 2, 3, 4, 5, 6, 7, 8, 9], l = nextL.getD i ByteArray.empty := by
  simp only [nextL, List.mem_cons, List.not_mem_nil, or_false] at h
  rcases h with rfl | rfl | rfl | rfl | rfl | rfl | rfl | rfl | rfl | rfl
  · exact ⟨0, by simp, rfl⟩
  · exact ⟨1, by simp, rfl⟩
  · exact ⟨2, by simp, rfl⟩
  · exact ⟨3, by simp, rfl⟩
  · exact ⟨4, by simp, rfl⟩
  · exact ⟨5, by simp, rfl⟩
  · exact ⟨6, by simp, rfl⟩
  · exact ⟨7, by simp, rfl⟩
  · exact ⟨8, by simp, rfl⟩
  · exact ⟨9, by simp, rfl⟩
theorem main : ∀ k g q d, k + 1 ≤ lv g q d → Ok k (cn (g, d, q))
  | 0, _, _, _, _ => trivial
  | k + 1, g, q, d, h => by
    have t := tl (g := g) (q := q) (d := d) (by omega)
    obtain ⟨sk, sn⟩ := sym t
    have st := t.step
    unfold chS at st
    rw [Bool.or_eq_true] at st
    have st := st.resolve_left fun c => by have := Nat.le_of_ble_eq_true c; omega
    rw [Bool.and_eq_true] at st
    obtain ⟨st1, st2⟩ := st
    rw [List.all_eq_true] at st1 st2
    intro l hl
    rcases hl with hl | hl | hl | hl
    · obtain ⟨s, e, hs⟩ := fo_ok (sk.mem l hl)
      exact ⟨_, s, K.impl_RunLine_s _ e, hs, main k g q d (by omega)⟩
    · obtain ⟨i, hi, rfl⟩ := nextL_get hl
      obtain ⟨s, e, hs⟩ := fo_ok (sn.mem i hi)
      have := Nat.le_of_ble_eq_true (st2 i hi)
      exact ⟨_, s, K.impl_RunLine_s _ e, hs, main k (nx g q d i).1 (nx g q d i).2.2 (nx g q d i).2.1 (by omega)⟩
    · have h1 := st1 l hl
      cases hr : K.impl_RunLine (gr g, d, (q : Int)) l with
      | none => rw [hr] at h1; cases h1
      | some p =>
        rw [hr] at h1
        obtain ⟨c', s⟩ := p
        simp only [ch1, Bool.and_eq_true, decide_eq_true_eq] at h1
        obtain ⟨⟨⟨a1, a2⟩, a3⟩, a4⟩ := h1
        have a5 := Nat.le_of_ble_eq_true a4
        have e : c' = cn (g, c'.2.1, q) := by
          obtain ⟨x, y, z⟩ := c'
          obtain rfl : x = gr g := a2
          obtain rfl : z = (q : Int) := a3
          rfl
        refine ⟨c', s, K.impl_RunLine_s _ hr, few_le a1, ?_⟩
        rw [e]
        exact main k g q c'.2.1 (by omega)
    · obtain ⟨s, e, hs⟩ := look t (by omega) l hl
      exact ⟨_, s, e, hs, main k g q d (by omega)⟩
end Go.Proofs.YthhogfhffpfkdaaGreatDoor.D.Cs

/-
  A harmonic morphism has the same degree over every vertex, and carries classes to classes.
-/
import Derived.Test.YtikkkdpemjcjlaaPureMh
import Derived.Test.YtikkkdpemjcjlaaPureMd
namespace Go.Proofs.Ytikkkdpemjcjlaa.D
open Go Go.Den
set_option linter.unusedVariables false
set_option linter.unusedSimpArgs false
theorem sm_comm (f : Nat → Nat → Int) (n : Nat) : ∀ m, sm n (fun i => sm m (fun j => f i j)) = sm m (fun j => sm n (fun i => f i j))
  | 0 => sm_zero n
  | m + 1 => by
    rw [sm, ← sm_comm f n m, ← sm_add]; rfl
theorem lap_sm (E : Es) (f : Nat → Int) (w : Nat) : lap E f w = sm E.length (fun i => tm f w (E.getD i (0, 0))) := by
  have key : ∀ k, k ≤ E.length → lap (E.take k) f w = sm k (fun i => tm f w (E.getD i (0, 0))) := by
    intro k
    induction k with
    | zero => intro _; rfl
    | succ k ih => intro hk; rw [lap_take (by omega), ih (by omega), sm]
  have := key E.length (Nat.le_refl _)
  rwa [List.take_length] at this
theorem sm_two {n a b : Nat} {x y : Int} (ha : a < n) (hb : b < n) (hab : a ≠ b) : sm n (fun v => if v = a then x else if v = b then y else 0) = x + y := by
  rw [sm_congr (g := fun v => (if v = a then x else 0) + if v = b then y else 0) fun v _ => by
    by_cases c : v = a
    · rw [if_pos c, if_pos c, if_neg (fun k => hab (c.symm.trans k))]; omega
    · rw [if_neg c, if_neg c]; omega, sm_add, sm_one, sm_one, if_pos ha, if_pos hb]
def ae (g : Gr) (i : Nat) : Nat := ((Eg g).getD i (0, 0)).1
def be (g : Gr) (i : Nat) : Nat := ((Eg g).getD i (0, 0)).2
def ph (m : Mo) (v : Nat) : Int := m.1.getD v 0
def ps (m : Mo) (i : Nat) : Int := m.2.getD i 0
theorem ends_g {g : Gr} (hG : GOk g) {i : Nat} (hi : i < g.2.length) : g.2.getD i (0, 0) = ((ae g i : Int), (be g i : Int)) ∧ ae g i < be g i ∧ be g i < N g := by
  obtain ⟨a, b, e1, e2, e3, e4⟩ := gEk hG hi
  have h1 : ae g i = a := by unfold ae; rw [e2]
  have h2 : be g i = b := by unfold be; rw [e2]
  rw [h1, h2]
  exact ⟨e1, e3, e4⟩
/-- an edge goes where its ends go -/
theorem HOk.ec {g h : Gr} {m : Mo} (H : HOk g h m) {i : Nat} (hi : i < g.2.length) : (ps m i = -1 ∧ ph m (ae g i) = ph m (be g i)) ∨ ∃ k : Nat, ps m i = (k : Int) ∧ k < h.2.length ∧ ((ph m (ae g i) = (ae h k : Int) ∧ ph m (be g i) = (be h k : Int)) ∨ (ph m (ae g i) = (be h k : Int) ∧ ph m (be g i) = (ae h k : Int))) := by
  obtain ⟨⟨G, K, M1, M2, M3, M4⟩, A⟩ := H
  obtain ⟨e1, e2, e3⟩ := ends_g G hi
  have := M4 i hi
  unfold EC at this
  rw [e1] at this
  simp only [Int.toNat_natCast] at this
  rcases this with ⟨h1, h2⟩ | ⟨⟨h1, h2⟩, h3, h4⟩
  · exact .inl ⟨h1, h2⟩
  · right
    obtain ⟨k, hk⟩ : ∃ k : Nat, m.2.getD i 0 = (k : Int) := ⟨(m.2.getD i 0).toNat, by omega⟩
    rw [hk] at h1 h2 h3 h4
    have hk' : k < h.2.length := by omega
    obtain ⟨f1, f2, f3⟩ := ends_g K hk'
    rw [Int.toNat_natCast, f1] at h3 h4
    refine ⟨k, hk, hk', ?_⟩
    have h3' : (ae h k : Int) = imin (ph m (ae g i)) (ph m (be g i)) := h3
    have h4' : (be h k : Int) = imax (ph m (ae g i)) (ph m (be g i)) := h4
    unfold imin imax at *
    split at h3' <;> split at h4' <;> omega
theorem cAt_iff {e : Int × Int} {v : Int} : cAt e v = true ↔ e.1 = v ∨ e.2 = v := by
  unfold cAt; simp
/-- what lies over an end of an edge -/
theorem fibOv {g h : Gr} {m : Mo} (H : HOk g h m) {k w : Nat} (hk : k < h.2.length) (hw : w = ae h k ∨ w = be h k) (f : Nat → Int) :
    fib g m (fun v => Hr g h m v * f v) w = sm g.2.length (fun i => if ps m i = (k : Int) then (if ph m (ae g i) = (w : Int) then f (ae g i) else f (be g i)) else 0) := by
  have H' := H
  obtain ⟨⟨G, K, M1, M2, M3, M4⟩, A⟩ := H'
  have hn := gN G
  obtain ⟨f1, f2, f3⟩ := ends_g K hk
  have s1 : fib g m (fun v => Hr g h m v * f v) w = sm (N g) (fun v => sm g.2.length (fun i => if ph m v = (w : Int) ∧ cEq g m (v : Int) (k : Int) i = true then f v else 0)) := sm_congr fun v hv => by
    by_cases c : m.1.getD v 0 = (w : Int)
    · rw [if_pos c]
      show Hr g h m v * f v = _
      rw [Hr_at H (v := v) (by omega) hk (cAt_iff.2 (by rw [f1, c]; rcases hw with e | e <;> subst e <;> simp))]
      unfold ov
      have : ∀ n, sm n (fun i => if cEq g m (v : Int) (k : Int) i = true then 1 else 0) * f v = sm n (fun i => if ph m v = (w : Int) ∧ cEq g m (v : Int) (k : Int) i = true then f v else 0) := by
        intro n
        induction n with
        | zero => simp [sm]
        | succ n ih =>
          rw [sm, sm, Int.add_mul, ih]
          congr 1
          by_cases c2 : cEq g m (v : Int) (k : Int) n = true
          · rw [if_pos c2, if_pos ⟨c, c2⟩, Int.one_mul]
          · rw [if_neg c2, if_neg (fun q => c2 q.2), Int.zero_mul]
      exact this _
    · rw [if_neg c, sm_congr (g := fun _ => 0) fun i _ => if_neg fun q => c q.1, sm_zero]
  rw [s1, sm_comm]
  refine sm_congr fun i hi => ?_
  obtain ⟨e1, e2, e3⟩ := ends_g G hi
  have ceq : ∀ v : Nat, cEq g m (v : Int) (k : Int) i = true ↔ (v = ae g i ∨ v = be g i) ∧ ps m i = (k : Int) := fun v => by
    unfold cEq
    rw [Bool.and_eq_true, cAt_iff, e1, beq_iff_eq]
    simp only [ps]
    constructor
    · rintro ⟨a, b⟩; exact ⟨by omega, b⟩
    · rintro ⟨a, b⟩; exact ⟨by omega, b⟩
  by_cases c : ps m i = (k : Int)
  · rw [if_pos c]
    rcases H.ec hi with ⟨h1, _⟩ | ⟨k', h1, h2, h3⟩
    · omega
    · have : k' = k := by omega
      subst this
      rw [sm_congr (g := fun v => if v = ae g i then (if ph m (ae g i) = (w : Int) then f (ae g i) else 0) else if v = be g i then (if ph m (be g i) = (w : Int) then f (be g i) else 0) else 0) fun v _ => by
        by_cases d1 : v = ae g i
        · subst d1
          rw [if_pos rfl]
          by_cases d2 : ph m (ae g i) = (w : Int)
          · rw [if_pos ⟨d2, (ceq _).2 ⟨.inl rfl, c⟩⟩, if_pos d2]
          · rw [if_neg (fun q => d2 q.1), if_neg d2]
        · rw [if_neg d1]
          by_cases d3 : v = be g i
          · subst d3
            rw [if_pos rfl]
            by_cases d2 : ph m (be g i) = (w : Int)
            · rw [if_pos ⟨d2, (ceq _).2 ⟨.inr rfl, c⟩⟩, if_pos d2]
            · rw [if_neg (fun q => d2 q.1), if_neg d2]
          · rw [if_neg d3, if_neg fun q => by rcases ((ceq v).1 q.2).1 with z | z <;> contradiction], sm_two (by omega) e3 (by omega)]
      by_cases d : ph m (ae g i) = (w : Int)
      · rw [if_pos d, if_pos d, if_neg (by omega)]; omega
      · rw [if_neg d, if_neg d, if_pos (by omega)]; omega
  · rw [if_neg c, sm_congr (g := fun _ => 0) fun v _ => if_neg fun q => c ((ceq v).1 q.2).2, sm_zero]
/-- what an edge brings to a vertex of the image -/
def GE2 (g : Gr) (m : Mo) (f : Nat → Int) (w i : Nat) : Int := (if ph m (ae g i) = (w : Int) then f (ae g i) - f (be g i) else 0) + (if ph m (be g i) = (w : Int) then f (be g i) - f (ae g i) else 0)
theorem fib_lap {g : Gr} {m : Mo} (hG : GOk g) (f : Nat → Int) (w : Nat) : fib g m (lap (Eg g) f) w = sm g.2.length (GE2 g m f w) := by
  obtain ⟨gE1, gE2, gE3⟩ := gE hG
  have s1 : fib g m (lap (Eg g) f) w = sm (N g) (fun v => sm g.2.length (fun i => if ph m v = (w : Int) then tm f v ((Eg g).getD i (0, 0)) else 0)) := sm_congr fun v _ => by
    show (if ph m v = (w : Int) then _ else _) = _
    by_cases c : ph m v = (w : Int)
    · rw [if_pos c, lap_sm, gE3]
      exact sm_congr fun i _ => (if_pos c).symm
    · rw [if_neg c, sm_congr (g := fun _ => 0) fun i _ => if_neg c, sm_zero]
  rw [s1, sm_comm]
  refine sm_congr fun i hi => ?_
  obtain ⟨e1, e2, e3⟩ := ends_g hG hi
  rw [sm_congr (g := fun v => if v = ae g i then (if ph m (ae g i) = (w : Int) then f (ae g i) - f (be g i) else 0) else if v = be g i then (if ph m (be g i) = (w : Int) then f (be g i) - f (ae g i) else 0) else 0) fun v _ => by
    show (if ph m v = (w : Int) then (if v = ae g i then f v - f (be g i) else if v = be g i then f v - f (ae g i) else 0) else 0) = _
    by_cases d1 : v = ae g i
    · subst d1
      rw [if_pos rfl, if_pos rfl]
    · rw [if_neg d1, if_neg d1]
      by_cases d2 : v = be g i
      · subst d2
        rw [if_pos rfl, if_pos rfl]
      · rw [if_neg d2, if_neg d2]; split <;> rfl, sm_two (by omega) e3 (by omega)]
  rfl
/-- classes go to classes -/
theorem push_lap {g h : Gr} {m : Mo} (H : HOk g h m) (f : Nat → Int) {w : Nat} (hw : w < N h) : fib g m (lap (Eg g) f) w = lap (Eg h) (fib g m (fun v => Hr g h m v * f v)) w := by
  have H' := H
  obtain ⟨⟨G, K, M1, M2, M3, M4⟩, A⟩ := H'
  obtain ⟨hE1, hE2, hE3⟩ := gE K
  rw [fib_lap G, lap_sm, hE3]
  have key : ∀ k, k < h.2.length → tm (fib g m (fun v => Hr g h m v * f v)) w ((Eg h).getD k (0, 0)) = sm g.2.length (fun i => if ps m i = (k : Int) then GE2 g m f w i else 0) := fun k hk => by
    obtain ⟨f1, f2, f3⟩ := ends_g K hk
    show (if w = ae h k then _ - _ else if w = be h k then _ - _ else 0) = _
    have ha := fibOv H hk (.inl rfl) f
    have hb := fibOv H hk (.inr rfl) f
    have dif : ∀ (P Q : Nat → Int), sm g.2.length P - sm g.2.length Q = sm g.2.length (fun i => P i + - Q i) := fun P Q => by
      rw [sm_add]
      have : sm g.2.length (fun i => - Q i) = - sm g.2.length Q := by
        generalize g.2.length = n
        induction n with
        | zero => rfl
        | succ n ih => rw [sm, sm, ih]; omega
      omega
    by_cases c1 : w = ae h k
    · rw [if_pos c1]
      show fib g m (fun v => Hr g h m v * f v) w - fib g m (fun v => Hr g h m v * f v) (be h k) = _
      rw [c1]
      rw [ha, hb, dif]
      refine sm_congr fun i hi => ?_
      by_cases c : ps m i = (k : Int)
      · rw [if_pos c, if_pos c, if_pos c]
        unfold GE2
        rcases H.ec hi with ⟨h1, _⟩ | ⟨k', h1, h2, h3⟩
        · omega
        · have : k' = k := by omega
          subst this
          rcases h3 with ⟨h3, h4⟩ | ⟨h3, h4⟩
          · rw [if_pos h3, if_neg (by omega), if_pos h3, if_neg (by omega)]; omega
          · rw [if_neg (by omega), if_pos h3, if_neg (by omega), if_pos h4]; omega
      · rw [if_neg c, if_neg c, if_neg c]; rfl
    · rw [if_neg c1]
      by_cases c2 : w = be h k
      · rw [if_pos c2]
        show fib g m (fun v => Hr g h m v * f v) w - fib g m (fun v => Hr g h m v * f v) (ae h k) = _
        rw [c2]
        rw [ha, hb, dif]
        refine sm_congr fun i hi => ?_
        by_cases c : ps m i = (k : Int)
        · rw [if_pos c, if_pos c, if_pos c]
          unfold GE2
          rcases H.ec hi with ⟨h1, _⟩ | ⟨k', h1, h2, h3⟩
          · omega
          · have : k' = k := by omega
            subst this
            rcases h3 with ⟨h3, h4⟩ | ⟨h3, h4⟩
            · rw [if_neg (by omega), if_pos h3, if_neg (by omega), if_pos h4]; omega
            · rw [if_pos h3, if_neg (by omega), if_pos h3, if_neg (by omega)]; omega
        · rw [if_neg c, if_neg c, if_neg c]; rfl
      · rw [if_neg c2, sm_congr (g := fun _ => 0) fun i hi => by
          by_cases c : ps m i = (k : Int)
          · rw [if_pos c]
            unfold GE2
            rcases H.ec hi with ⟨h1, _⟩ | ⟨k', h1, h2, h3⟩
            · omega
            · have : k' = k := by omega
              subst this
              rw [if_neg (by omega), if_neg (by omega)]; rfl
          · rw [if_neg c], sm_zero]
  rw [sm_congr key, sm_comm]
  refine sm_congr fun i hi => ?_
  rcases H.ec hi with ⟨h1, h2⟩ | ⟨k, h1, h2, h3⟩
  · rw [sm_congr (g := fun _ => 0) fun k _ => if_neg (by omega), sm_zero]
    unfold GE2
    rw [h2]
    split <;> omega
  · rw [sm_congr (g := fun j => if j = k then GE2 g m f w i else 0) fun j _ => by
      by_cases c : j = k
      · rw [if_pos c, if_pos (by omega)]
      · rw [if_neg c, if_neg (by omega)], sm_one, if_pos h2]
/-- the same degree over every vertex -/
theorem deg_all {g h : Gr} {m : Mo} (H : HOk g h m) (h0 : 0 < h.2.length) {w : Nat} (hw : w < N h) : fib g m (Hr g h m) w = ct g m 0 := by
  have H' := H
  obtain ⟨⟨G, K, M1, M2, M3, M4⟩, A⟩ := H'
  obtain ⟨hE1, hE2, hE3⟩ := gE K
  have at_ : ∀ k, k < h.2.length → ∀ u, u = ae h k ∨ u = be h k → fib g m (Hr g h m) u = ct g m k := fun k hk u hu => by
    have := fibOv H hk hu (fun _ => 1)
    rw [show (fun v => Hr g h m v * 1) = Hr g h m from funext fun v => Int.mul_one _] at this
    rw [this]
    exact sm_congr fun i _ => by
      show (if ps m i = (k : Int) then (if _ then (1 : Int) else 1) else 0) = if ps m i = (k : Int) then 1 else 0
      by_cases c : ps m i = (k : Int)
      · rw [if_pos c, if_pos c]; split <;> rfl
      · rw [if_neg c, if_neg c]
  obtain ⟨f1, f2, f3⟩ := ends_g K h0
  apply Classical.byContradiction
  intro hne
  obtain ⟨e, he, hS⟩ := gC K (fun u => decide (fib g m (Hr g h m) u = ct g m 0)) ⟨ae h 0, by omega, decide_eq_true (at_ 0 h0 _ (.inl rfl))⟩ ⟨w, hw, decide_eq_false hne⟩
  obtain ⟨k, hk, ek⟩ := List.getElem_of_mem he
  have hk' : k < h.2.length := by omega
  have e1 : e.1 = ae h k := by unfold ae; rw [getD_lt hk, ek]
  have e2 : e.2 = be h k := by unfold be; rw [getD_lt hk, ek]
  rw [e1, e2, at_ k hk' _ (.inl rfl), at_ k hk' _ (.inr rfl)] at hS
  exact hS rfl
theorem fib_sum {g h : Gr} {m : Mo} (H : HOk g h m) (d : Nat → Int) : sm (N h) (fib g m d) = sm (N g) d := by
  obtain ⟨⟨G, K, M1, M2, M3, M4⟩, A⟩ := H
  have hn := gN G
  have hk := gN K
  unfold fib
  rw [sm_comm (fun w v => if m.1.getD v 0 = (w : Int) then d v else 0)]
  refine sm_congr fun v hv => ?_
  have := M3 v (by omega)
  obtain ⟨u, hu⟩ : ∃ u : Nat, m.1.getD v 0 = (u : Int) := ⟨(m.1.getD v 0).toNat, by omega⟩
  rw [hu, sm_congr (g := fun w => if w = u then d v else 0) fun w _ => by
    by_cases c : w = u
    · rw [if_pos c, if_pos (by omega)]
    · rw [if_neg c, if_neg (by omega)], sm_one, if_pos (by omega)]
end Go.Proofs.Ytikkkdpemjcjlaa.D

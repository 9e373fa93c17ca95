/-
  CountMorphisms: the maps counted vertex by vertex and edge by edge are those that the reference counts by their numbers.
-/
import Derived.Test.YtgncajnfphlgeaaPureH
namespace Go.Proofs.Ytgncajnfphlgeaa.D
open Go Go.Den
set_option linter.unusedVariables false
set_option linter.unusedSimpArgs false
theorem bq_f {a b : Int} (h : a ≠ b) : (a == b) = false := by simp [h]
def SS : Nat → (Nat → Nat) → Nat
  | 0, _ => 0
  | n + 1, f => SS n f + f n
theorem SS_congr : ∀ {n : Nat} {f g : Nat → Nat}, (∀ i, i < n → f i = g i) → SS n f = SS n g
  | 0, _, _, _ => rfl
  | n + 1, f, g, h => by
    show SS n f + f n = SS n g + g n
    rw [SS_congr fun i hi => h i (by omega), h n (by omega)]
theorem SS_add : ∀ (n : Nat) (f g : Nat → Nat), SS n (fun i => f i + g i) = SS n f + SS n g
  | 0, _, _ => rfl
  | n + 1, f, g => by
    show SS n _ + (f n + g n) = SS n f + f n + (SS n g + g n)
    rw [SS_add n f g]; omega
theorem SS_zero : ∀ n : Nat, SS n (fun _ => 0) = 0
  | 0 => rfl
  | n + 1 => by show SS n _ + 0 = 0; rw [SS_zero n]
theorem SS_comm : ∀ (a b : Nat) (f : Nat → Nat → Nat), SS a (fun i => SS b (f i)) = SS b fun j => SS a fun i => f i j
  | 0, b, f => (SS_zero b).symm
  | a + 1, b, f => by
    show SS a _ + SS b (f a) = SS b fun j => SS a (fun i => f i j) + f a j
    rw [SS_comm a b f, SS_add]
theorem SS_first : ∀ (n : Nat) (f : Nat → Nat), SS (n + 1) f = f 0 + SS n fun i => f (i + 1)
  | 0, f => by show 0 + f 0 = f 0 + 0; omega
  | n + 1, f => by
    show SS (n + 1) f + f (n + 1) = f 0 + (SS n (fun i => f (i + 1)) + f (n + 1))
    rw [SS_first n f]; omega
theorem SS_split : ∀ (a b : Nat) (f : Nat → Nat), SS (a + b) f = SS a f + SS b fun i => f (a + i)
  | a, 0, f => rfl
  | a, b + 1, f => by
    show SS (a + b) f + f (a + b) = SS a f + (SS b (fun i => f (a + i)) + f (a + b))
    rw [SS_split a b f]; omega
theorem SS_mul : ∀ (m H : Nat) (f : Nat → Nat), SS (m * H) f = SS m fun q => SS H fun r => f (q * H + r)
  | 0, H, f => by rw [Nat.zero_mul]; rfl
  | m + 1, H, f => by
    show _ = SS m _ + SS H _
    rw [Nat.succ_mul, SS_split, SS_mul m H f]
theorem SS_le : ∀ {n : Nat} {f : Nat → Nat} {B : Nat}, (∀ i, i < n → f i ≤ B) → SS n f ≤ n * B
  | 0, _, _, _ => Nat.zero_le _
  | n + 1, f, B, h => by
    have := SS_le (n := n) (f := f) (B := B) fun i hi => h i (by omega)
    have := h n (by omega)
    show SS n f + f n ≤ (n + 1) * B
    rw [Nat.succ_mul]; omega
def dig (H : Nat) : Nat → Nat → List Int
  | 0, _ => []
  | n + 1, k => ((k % H : Nat) : Int) :: dig H n (k / H)
theorem dig_len (H : Nat) : ∀ n k, (dig H n k).length = n
  | 0, _ => rfl
  | n + 1, k => by show (dig H n (k / H)).length + 1 = _; rw [dig_len H n]
def vs (F : List Int → Nat) (H : Nat) : Nat → List Int → Nat
  | 0, P => F P
  | d + 1, P => SS H fun x => vs F H d (P ++ [(x : Int)])
theorem vs_dig {F : List Int → Nat} {H : Nat} : ∀ d P, SS (H ^ d) (fun k => F (P ++ dig H d k)) = vs F H d P
  | 0, P => by
    show 0 + F (P ++ []) = F P
    rw [List.append_nil, Nat.zero_add]
  | d + 1, P => by
    rw [Nat.pow_succ, SS_mul, SS_comm]
    refine SS_congr fun r hr => ?_
    rw [← vs_dig d]
    refine SS_congr fun q _ => ?_
    show F (P ++ (((q * H + r) % H : Nat) : Int) :: dig H d ((q * H + r) / H)) = _
    have e1 : (q * H + r) % H = r := by rw [Nat.add_comm, Nat.add_mul_mod_self_right, Nat.mod_eq_of_lt hr]
    have e2 : (q * H + r) / H = q := by rw [Nat.add_comm, Nat.add_mul_div_right _ _ (by omega), Nat.div_eq_of_lt hr, Nat.zero_add]
    rw [e1, e2, List.append_assoc]; rfl
theorem vs_le {F : List Int → Nat} {H B : Nat} (hF : ∀ P, F P ≤ B) : ∀ d P, vs F H d P ≤ H ^ d * B
  | 0, P => by show F P ≤ _; rw [Nat.pow_zero, Nat.one_mul]; exact hF P
  | d + 1, P => by
    have := SS_le (n := H) (f := fun x => vs F H d (P ++ [(x : Int)])) (B := H ^ d * B) fun i _ => vs_le hF d _
    rw [Nat.pow_succ, Nat.mul_comm (H ^ d) H, Nat.mul_assoc]; exact this
section
variable (g h : Gr) (V : List Int)
noncomputable def hm (E : List Int) : Nat := if impl_IsHarmonic g h (V, E) = some true then 1 else 0
noncomputable def cnt : Nat → List Int → Nat
  | 0, E => hm g h V E
  | d + 1, E => SS (h.2.length + 1) fun i => cond (Lb.cmHit g h V E.length ((i : Int) - 1)) (cnt d (E ++ [(i : Int) - 1])) 0
end
section
variable {g h : Gr} {V : List Int}
theorem hm_p (hg : g.2.length ≤ 12) (hh : h.2.length ≤ 12) (hv : V.length ≤ 12) {E : List Int} (he : E.length ≤ 12) : ∃ b, spec_IsHarmonic g h (V, E) = some b ∧ impl_IsHarmonic g h (V, E) = some b ∧ hm g h V E = cond b 1 0 := by
  obtain ⟨b, h1, h2, _⟩ := harmonic_p (g := g) (h := h) (m := (V, E)) (by omega) (by omega) (by show V.length ≤ _; omega) (by show E.length ≤ _; omega)
  refine ⟨b, h1, h2, ?_⟩
  unfold hm
  rw [h2]
  cases b <;> rfl
theorem hm_le (E : List Int) : hm g h V E ≤ 1 := by unfold hm; split <;> omega
theorem cnt_le (hh : h.2.length ≤ 3) : ∀ d E, cnt g h V d E ≤ 4 ^ d
  | 0, E => hm_le E
  | d + 1, E => by
    have := SS_le (n := h.2.length + 1) (f := fun i => cond (Lb.cmHit g h V E.length ((i : Int) - 1)) (cnt g h V d (E ++ [(i : Int) - 1])) 0) (B := 4 ^ d) fun i _ => by
      cases Lb.cmHit g h V E.length ((i : Int) - 1) with
      | true => exact cnt_le hh d _
      | false => exact Nat.zero_le _
    have h2 : (h.2.length + 1) * 4 ^ d ≤ 4 * 4 ^ d := Nat.mul_le_mul_right _ (by omega)
    rw [Nat.pow_succ, Nat.mul_comm (4 ^ d) 4]
    exact Nat.le_trans this h2
theorem hit0 {k : Nat} : Lb.cmHit g h V k (((0 : Nat) : Int) - 1) = decide (V.getD (g.2.getD k (0, 0)).1.toNat 0 = V.getD (g.2.getD k (0, 0)).2.toNat 0) := by
  simp [Lb.cmHit]
theorem hit1 {k i : Nat} : Lb.cmHit g h V k (((i + 1 : Nat) : Int) - 1) = (decide ((h.2.getD i (0, 0)).1 = min (V.getD (g.2.getD k (0, 0)).1.toNat 0) (V.getD (g.2.getD k (0, 0)).2.toNat 0)) && decide ((h.2.getD i (0, 0)).2 = max (V.getD (g.2.getD k (0, 0)).1.toNat 0) (V.getD (g.2.getD k (0, 0)).2.toNat 0))) := by
  have e1 : ((i + 1 : Nat) : Int) - 1 = i := by omega
  simp only [e1, Lb.cmHit, Int.toNat_natCast]
  rw [decide_eq_false (show ¬ (i : Int) = -1 by omega), decide_eq_true (show (0 : Int) ≤ i by omega), Bool.false_and, Bool.false_or, Bool.true_and]
/-- the reference's count -/
theorem l16_p (G : GOk g) (K : GOk h) (hg : g.2.length ≤ 5) (hh : h.2.length ≤ 3) (hv : (V.length : Int) = g.1) : ∀ d E, E.length + d = g.2.length → spec_l16Count g h (V, E) = some ((cnt g h V d E : Nat) : Int)
  | 0, E, he => by
    have hv6 := G.1.1.2
    obtain ⟨b, h1, h2, h3⟩ := hm_p (g := g) (h := h) (V := V) (by omega) (by omega) (by omega) (E := E) (by omega)
    rw [spec_l16Count_eq]
    show cond ((E.length : Int) == (g.2.length : Int)) _ _ = _
    rw [show ((E.length : Int) == (g.2.length : Int)) = true by simp; omega, h1]
    show _ = some ((hm g h V E : Nat) : Int)
    rw [h3]
    cases b <;> rfl
  | d + 1, E, he => by
    have ih := fun x => l16_p G K hg hh hv d (E ++ [x]) (by rw [List.length_append]; show E.length + 1 + d = _; omega)
    have hk : E.length < g.2.length := by omega
    have hv6 := G.1.1.2
    obtain ⟨e1, e2, e3⟩ := G.1.2.2 _ hk
    rw [spec_l16Count_eq]
    show cond ((E.length : Int) == (g.2.length : Int)) _ _ = _
    have i1 : inside ((g.2.getD E.length (0, 0)).1) V.length = true := inside_int e1 (by omega)
    have i2 : inside ((g.2.getD E.length (0, 0)).2) V.length = true := inside_int (by omega) (by omega)
    have f1 : ((E.length : Int) == (g.2.length : Int)) = false := by simp; omega
    rw [f1, cond_false]
    simp only [Int.toNat_natCast, inside_lt hk, cond_true, i1, i2]
    have r0 : decide (([] : List Int).length + E.length ≤ room) = true := by
      rw [List.length_nil, Nat.zero_add]; exact decide_eq_true (by unfold room; omega)
    have r1 : ∀ x : Int, decide ((([] : List Int) ++ E).length + ([x] : List Int).length ≤ room) = true := fun x => by rw [List.nil_append]; exact room1 (by omega)
    by_cases hab : V.getD (g.2.getD E.length (0, 0)).1.toNat 0 = V.getD (g.2.getD E.length (0, 0)).2.toNat 0
    · rw [show (V.getD (g.2.getD E.length (0, 0)).1.toNat 0 == V.getD (g.2.getD E.length (0, 0)).2.toNat 0) = true by rw [hab]; exact beq_self_eq_true _, cond_true, r0, r1]
      simp only [cond_true, List.nil_append, ih, Option.bind_some]
      congr 2
      show _ = SS _ _
      rw [SS_first]
      simp only [hit0, hit1, decide_eq_true hab, cond_true]
      have z : SS h.2.length (fun i => cond (decide ((h.2.getD i (0, 0)).1 = min (V.getD (g.2.getD E.length (0, 0)).1.toNat 0) (V.getD (g.2.getD E.length (0, 0)).2.toNat 0)) && decide ((h.2.getD i (0, 0)).2 = max (V.getD (g.2.getD E.length (0, 0)).1.toNat 0) (V.getD (g.2.getD E.length (0, 0)).2.toNat 0))) (cnt g h V d (E ++ [((i + 1 : Nat) : Int) - 1])) 0) = 0 := by
        refine (SS_congr (g := fun _ => 0) fun i hi => ?_).trans (SS_zero _)
        have := (K.1.2.2 i hi).2.1
        rw [← Bool.decide_and, decide_eq_false (by rintro ⟨a, b⟩; rw [← hab] at a b; omega)]
        rfl
      rw [z]
      rfl
    · rw [show (V.getD (g.2.getD E.length (0, 0)).1.toNat 0 == V.getD (g.2.getD E.length (0, 0)).2.toNat 0) = false from bq_f hab, cond_false]
      have loop : ∀ m i s, i + m = h.2.length → s + m * 4 ^ d ≤ 1000000 → spec_l16Count_l0 g h (V, E) (V.getD (g.2.getD E.length (0, 0)).1.toNat 0) (V.getD (g.2.getD E.length (0, 0)).2.toNat 0) ((s : Nat) : Int) h.2 (h.2.length : Int) ((i : Nat) : Int) = some ((s + SS m (fun j => cond (Lb.cmHit g h V E.length (((i + j + 1 : Nat) : Int) - 1)) (cnt g h V d (E ++ [((i + j + 1 : Nat) : Int) - 1])) 0) : Nat) : Int) := by
        intro m
        induction m with
        | zero =>
          intro i s hi hs
          rw [spec_l16Count_l0_eq, decide_eq_false (by omega)]
          rfl
        | succ m ihm =>
          intro i s hi hs
          have hil : i < h.2.length := by omega
          rw [spec_l16Count_l0_eq, dec_lt_t hil, inside_lt hil, w64_succ hil (by omega)]
          simp only [cond_true, Int.toNat_natCast]
          rw [SS_first]
          have hb : cnt g h V d (E ++ [((i + 0 + 1 : Nat) : Int) - 1]) ≤ 4 ^ d := cnt_le hh d _
          rw [Nat.succ_mul] at hs
          have e0 : ((i + 0 + 1 : Nat) : Int) - 1 = i := by omega
          have sh : (fun j => cond (Lb.cmHit g h V E.length (((i + (j + 1) + 1 : Nat) : Int) - 1)) (cnt g h V d (E ++ [((i + (j + 1) + 1 : Nat) : Int) - 1])) 0) = fun j => cond (Lb.cmHit g h V E.length (((i + 1 + j + 1 : Nat) : Int) - 1)) (cnt g h V d (E ++ [((i + 1 + j + 1 : Nat) : Int) - 1])) 0 := by
            funext j; rw [show i + (j + 1) + 1 = i + 1 + j + 1 by omega]
          rw [sh, show (i + 0 + 1 : Nat) = i + 1 from rfl, hit1]
          rw [show ((i + 1 : Nat) : Int) - 1 = (i : Int) by omega]
          rw [show (i + 0 + 1 : Nat) = i + 1 from rfl, show ((i + 1 : Nat) : Int) - 1 = (i : Int) by omega] at hb
          have m1 : imin (V.getD (g.2.getD E.length (0, 0)).1.toNat 0) (V.getD (g.2.getD E.length (0, 0)).2.toNat 0) = min (V.getD (g.2.getD E.length (0, 0)).1.toNat 0) (V.getD (g.2.getD E.length (0, 0)).2.toNat 0) := by unfold imin; omega
          have m2 : imax (V.getD (g.2.getD E.length (0, 0)).1.toNat 0) (V.getD (g.2.getD E.length (0, 0)).2.toNat 0) = max (V.getD (g.2.getD E.length (0, 0)).1.toNat 0) (V.getD (g.2.getD E.length (0, 0)).2.toNat 0) := by unfold imax; omega
          rw [m1, m2]
          by_cases c1 : (h.2.getD i (0, 0)).1 = min (V.getD (g.2.getD E.length (0, 0)).1.toNat 0) (V.getD (g.2.getD E.length (0, 0)).2.toNat 0)
          · rw [c1, decide_eq_true rfl, beq_self_eq_true, cond_true, Bool.true_and]
            by_cases c2 : (h.2.getD i (0, 0)).2 = max (V.getD (g.2.getD E.length (0, 0)).1.toNat 0) (V.getD (g.2.getD E.length (0, 0)).2.toNat 0)
            · rw [c2, decide_eq_true rfl, beq_self_eq_true, cond_true, cond_true, r0, r1]
              simp only [cond_true, List.nil_append, ih, Option.bind_some]
              rw [w64_id (by omega) (by omega)]
              have := ihm (i + 1) (s + cnt g h V d (E ++ [(i : Int)])) (by omega) (by omega)
              rw [← Int.natCast_add, this]
              congr 2
              omega
            · rw [decide_eq_false c2, show ((h.2.getD i (0, 0)).2 == max (V.getD (g.2.getD E.length (0, 0)).1.toNat 0) (V.getD (g.2.getD E.length (0, 0)).2.toNat 0)) = false from bq_f c2, cond_false, cond_false, Nat.zero_add]
              exact ihm (i + 1) s (by omega) (by omega)
          · rw [decide_eq_false c1, show ((h.2.getD i (0, 0)).1 == min (V.getD (g.2.getD E.length (0, 0)).1.toNat 0) (V.getD (g.2.getD E.length (0, 0)).2.toNat 0)) = false from bq_f c1, cond_false, Bool.false_and, cond_false, Nat.zero_add]
            exact ihm (i + 1) s (by omega) (by omega)
      have h4 : 4 ^ d ≤ 4 ^ 5 := Nat.pow_le_pow_right (by omega) (by omega)
      have h5 : h.2.length * 4 ^ d ≤ 3 * 4 ^ 5 := Nat.mul_le_mul hh h4
      have := loop h.2.length 0 0 (by omega) (by omega)
      refine Eq.trans this ?_
      congr 2
      rw [Nat.zero_add]
      show _ = SS _ _
      rw [SS_first]
      simp only [hit0, decide_eq_false hab, cond_false, Nat.zero_add]
/-- not all images of the vertices are one -/
def same (V : List Int) : Bool := V.all fun x => x == V.getD 0 0
noncomputable def uu (g h : Gr) (V : List Int) : Nat := cond (same V) 0 (cnt g h V g.2.length [])
theorem minmax (hne : V ≠ []) (h : V.length ≤ 1048576) : ∃ x y, slices_Min_int_int V = some x ∧ slices_Max_int_int V = some y ∧ decide (x = y) = same V := by
  obtain ⟨x, x1, x2, x3⟩ := min_p hne h
  obtain ⟨y, y1, y2, y3⟩ := max_p hne h
  refine ⟨x, y, x1, y1, ?_⟩
  have h0 : V.getD 0 0 ∈ V := by
    rw [List.getD_eq_getElem?_getD, List.getElem?_eq_getElem (List.length_pos_iff.2 hne)]; exact List.getElem_mem _
  rw [Bool.eq_iff_iff, decide_eq_true_eq]
  unfold same
  rw [List.all_eq_true]
  constructor
  · intro e z hz
    have := x3 z hz; have := y3 z hz; have := x3 _ h0; have := y3 _ h0
    rw [beq_iff_eq]; omega
  · intro e
    have a := e x x2
    have b := e y y2
    rw [beq_iff_eq] at a b
    omega
theorem set_take {l : List Int} {k : Nat} (x : Int) (hk : k < l.length) : (l.set k x).take (k + 1) = l.take k ++ [x] := by
  rw [List.take_add_one, List.take_set_of_le (Nat.le_refl _)]
  simp [hk]
/-- the images of the last edges -/
theorem edges_p (hg : g.2.length ≤ 5) (hh : h.2.length ≤ 3) (hv : V ≠ []) (hv' : V.length ≤ 12) : ∀ d, d ≤ g.2.length → ∀ (E : List Int) (n : Nat), E.length = g.2.length → n + 4 ^ d ≤ 900000 →
    ∃ E', Lb.cmEdges (Lb.cmLeaf (fun V E => impl_IsHarmonic g h (V, E)) slices_Min_int_int slices_Max_int_int V) (Lb.cmHit g h V) g.2.length h.2.length d (E, (n : Int)) = some (E', ((n + cond (same V) 0 (cnt g h V d (E.take (g.2.length - d))) : Nat) : Int)) ∧ E'.length = g.2.length ∧ E'.take (g.2.length - d) = E.take (g.2.length - d)
  | 0, _, E, n, he, hn => by
    refine ⟨E, ?_, he, rfl⟩
    obtain ⟨b, _, h2, h3⟩ := hm_p (g := g) (h := h) (V := V) (by omega) (by omega) hv' (E := E) (by omega)
    obtain ⟨x, y, x1, y1, hxy⟩ := minmax hv (by omega)
    have ht : E.take (g.2.length - 0) = E := by rw [Nat.sub_zero, ← he, List.take_length]
    rw [ht]
    show ((Lb.cmLeaf _ _ _ V E (n : Int)).bind fun m => some (E, m)) = _
    unfold Lb.cmLeaf
    simp only [h2, x1, y1, Option.bind_some, hxy]
    show _ = some (E, ((n + cond (same V) 0 (hm g h V E) : Nat) : Int))
    rw [h3, decide_eq_true (show (n : Int) < 1000000 by rw [Nat.pow_zero] at hn; omega)]
    cases b <;> cases same V <;> rfl
  | d + 1, hd, E, n, he, hn => by
    obtain ⟨k, hk⟩ : ∃ k, k = g.2.length - (d + 1) := ⟨_, rfl⟩
    have hkl : k < g.2.length := by omega
    have ih := edges_p hg hh hv hv' d (by omega)
    rw [show g.2.length - d = k + 1 by omega] at ih
    rw [← hk]
    show ∃ E', Lb.rnd (fun i s => cond (Lb.cmHit g h V (g.2.length - (d + 1)) ((i : Int) - 1)) (Lb.cmEdges _ (Lb.cmHit g h V) g.2.length h.2.length d (s.1.set (g.2.length - (d + 1)) ((i : Int) - 1), s.2)) (some s)) (h.2.length + 1) 0 (E, (n : Int)) = some (E', ((n + cond (same V) 0 (SS (h.2.length + 1) fun i => cond (Lb.cmHit g h V (E.take k).length ((i : Int) - 1)) (cnt g h V d (E.take k ++ [(i : Int) - 1])) 0) : Nat) : Int)) ∧ _
    rw [← hk, List.length_take, Nat.min_eq_left (by omega)]
    have loop : ∀ m i (F : List Int) (n : Nat), F.length = g.2.length → F.take k = E.take k → n + m * 4 ^ d ≤ 900000 → ∃ E', Lb.rnd (fun i s => cond (Lb.cmHit g h V k ((i : Int) - 1)) (Lb.cmEdges (Lb.cmLeaf (fun V E => impl_IsHarmonic g h (V, E)) slices_Min_int_int slices_Max_int_int V) (Lb.cmHit g h V) g.2.length h.2.length d (s.1.set k ((i : Int) - 1), s.2)) (some s)) m i (F, (n : Int)) = some (E', ((n + cond (same V) 0 (SS m fun j => cond (Lb.cmHit g h V k (((i + j : Nat) : Int) - 1)) (cnt g h V d (E.take k ++ [((i + j : Nat) : Int) - 1])) 0) : Nat) : Int)) ∧ E'.length = g.2.length ∧ E'.take k = E.take k := by
      intro m
      induction m with
      | zero =>
        intro i F n hF ht hn
        refine ⟨F, ?_, hF, ht⟩
        show some (F, (n : Int)) = _
        cases same V <;> rfl
      | succ m ihm =>
        intro i F n hF ht hn
        rw [Nat.succ_mul] at hn
        have sh : (SS (m + 1) fun j => cond (Lb.cmHit g h V k (((i + j : Nat) : Int) - 1)) (cnt g h V d (E.take k ++ [((i + j : Nat) : Int) - 1])) 0) = cond (Lb.cmHit g h V k ((i : Int) - 1)) (cnt g h V d (E.take k ++ [(i : Int) - 1])) 0 + SS m fun j => cond (Lb.cmHit g h V k (((i + 1 + j : Nat) : Int) - 1)) (cnt g h V d (E.take k ++ [((i + 1 + j : Nat) : Int) - 1])) 0 := by
          rw [SS_first]
          congr 1
          refine SS_congr fun j _ => ?_
          rw [show i + (j + 1) = i + 1 + j by omega]
        rw [sh]
        have hc : cnt g h V d (E.take k ++ [(i : Int) - 1]) ≤ 4 ^ d := cnt_le hh d _
        show ∃ E', (Option.bind (cond (Lb.cmHit g h V k ((i : Int) - 1)) _ _) _) = _ ∧ _
        cases hit : Lb.cmHit g h V k ((i : Int) - 1) with
        | false =>
          obtain ⟨E', p1, p2, p3⟩ := ihm (i + 1) F n hF ht (by omega)
          refine ⟨E', ?_, p2, p3⟩
          simp only [cond_false, Option.bind_some, Nat.zero_add]
          exact p1
        | true =>
          obtain ⟨F1, q1, q2, q3⟩ := ih (F.set k ((i : Int) - 1)) n (by rw [List.length_set]; exact hF) (by omega)
          rw [set_take _ (by omega)] at q1 q3
          have q4 : F1.take k = E.take k := by
            have := congrArg (List.take k) q3
            rw [List.take_take, Nat.min_eq_left (Nat.le_succ k), List.take_append_of_le_length (by rw [List.length_take]; omega), List.take_take, Nat.min_self, ht] at this
            exact this
          rw [ht] at q1
          obtain ⟨E', p1, p2, p3⟩ := ihm (i + 1) F1 (n + cond (same V) 0 (cnt g h V d (E.take k ++ [(i : Int) - 1]))) q2 q4 (by cases same V <;> simp only [cond_true, cond_false] <;> omega)
          refine ⟨E', ?_, p2, p3⟩
          simp only [cond_true]
          rw [q1, Option.bind_some, p1]
          congr 3
          cases same V <;> simp only [cond_true, cond_false] <;> omega
    have h4 : (h.2.length + 1) * 4 ^ d ≤ 4 * 4 ^ d := Nat.mul_le_mul_right _ (by omega)
    rw [Nat.pow_succ, Nat.mul_comm (4 ^ d) 4] at hn
    obtain ⟨E', p1, p2, p3⟩ := loop (h.2.length + 1) 0 E n he rfl (by omega)
    refine ⟨E', ?_, p2, p3⟩
    simp only [Nat.zero_add] at p1
    exact p1
theorem uu_le (hg : g.2.length ≤ 5) (hh : h.2.length ≤ 3) (P : List Int) : uu g h P ≤ 1024 := by
  have a := cnt_le (g := g) (V := P) hh g.2.length []
  have b : 4 ^ g.2.length ≤ 4 ^ 5 := Nat.pow_le_pow_right (by omega) hg
  unfold uu
  cases same P <;> simp only [cond_true, cond_false] <;> omega
/-- the images of the last vertices -/
theorem verts_p (hg : g.2.length ≤ 5) (hh : h.2.length ≤ 3) {N H : Nat} (hN1 : 1 ≤ N) (hN4 : N ≤ 4) (hH : H ≤ 3) : ∀ d, d ≤ N → ∀ (V E : List Int) (n : Nat), V.length = N → E.length = g.2.length → n + 3 ^ d * 1024 ≤ 800000 →
    ∃ V' E', Lb.cmVerts (fun V => Lb.cmEdges (Lb.cmLeaf (fun V E => impl_IsHarmonic g h (V, E)) slices_Min_int_int slices_Max_int_int V) (Lb.cmHit g h V) g.2.length h.2.length g.2.length) N H d (V, E, (n : Int)) = some (V', E', ((n + vs (uu g h) H d (V.take (N - d)) : Nat) : Int)) ∧ V'.length = N ∧ E'.length = g.2.length ∧ V'.take (N - d) = V.take (N - d)
  | 0, _, V, E, n, hV, hE, hn => by
    obtain ⟨E', p1, p2, p3⟩ := edges_p (g := g) (h := h) (V := V) hg hh (by rintro rfl; simp at hV; omega) (by omega) g.2.length (Nat.le_refl _) E n hE (by
      have b : 4 ^ g.2.length ≤ 4 ^ 5 := Nat.pow_le_pow_right (by omega) hg
      omega)
    rw [Nat.sub_self] at p1
    refine ⟨V, E', ?_, hV, p2, rfl⟩
    have ht : V.take (N - 0) = V := by rw [Nat.sub_zero, ← hV, List.take_length]
    rw [ht]
    show ((Lb.cmEdges _ _ _ _ g.2.length (E, (n : Int))).bind fun t => some (V, t)) = _
    rw [p1]
    rfl
  | d + 1, hd, V, E, n, hV, hE, hn => by
    obtain ⟨k, hk⟩ : ∃ k, k = N - (d + 1) := ⟨_, rfl⟩
    have hkl : k < N := by omega
    have ih := verts_p hg hh hN1 hN4 hH d (by omega)
    rw [show N - d = k + 1 by omega] at ih
    rw [← hk]
    have vb : ∀ P, vs (uu g h) H d P ≤ 3 ^ d * 1024 := fun P => Nat.le_trans (vs_le (uu_le hg hh) d P) (Nat.mul_le_mul_right _ (Nat.pow_le_pow_left hH d))
    have loop : ∀ m i (V1 E1 : List Int) (n : Nat), V1.length = N → E1.length = g.2.length → V1.take k = V.take k → n + m * (3 ^ d * 1024) ≤ 800000 → ∃ V' E', Lb.rnd (fun i s => Lb.cmVerts (fun V => Lb.cmEdges (Lb.cmLeaf (fun V E => impl_IsHarmonic g h (V, E)) slices_Min_int_int slices_Max_int_int V) (Lb.cmHit g h V) g.2.length h.2.length g.2.length) N H d (s.1.set k (i : Int), s.2)) m i (V1, E1, (n : Int)) = some (V', E', ((n + SS m (fun j => vs (uu g h) H d (V.take k ++ [((i + j : Nat) : Int)])) : Nat) : Int)) ∧ V'.length = N ∧ E'.length = g.2.length ∧ V'.take k = V.take k := by
      intro m
      induction m with
      | zero =>
        intro i V1 E1 n h1 h2 h3 hn
        exact ⟨V1, E1, rfl, h1, h2, h3⟩
      | succ m ihm =>
        intro i V1 E1 n h1 h2 h3 hn
        rw [Nat.succ_mul] at hn
        have hb := vb (V.take k ++ [(i : Int)])
        obtain ⟨V2, E2, q1, q2, q3, q4⟩ := ih (V1.set k (i : Int)) E1 n (by rw [List.length_set]; exact h1) h2 (by omega)
        rw [set_take _ (by omega)] at q1 q4
        have q5 : V2.take k = V.take k := by
          have := congrArg (List.take k) q4
          rw [List.take_take, Nat.min_eq_left (Nat.le_succ k), List.take_append_of_le_length (by rw [List.length_take]; omega), List.take_take, Nat.min_self, h3] at this
          exact this
        rw [h3] at q1
        obtain ⟨V', E', p1, p2, p3, p4⟩ := ihm (i + 1) V2 E2 (n + vs (uu g h) H d (V.take k ++ [(i : Int)])) q2 q3 q5 (by omega)
        refine ⟨V', E', ?_, p2, p3, p4⟩
        show Option.bind (Lb.cmVerts _ N H d (V1.set k (i : Int), E1, (n : Int))) _ = _
        rw [q1, Option.bind_some, p1]
        congr 4
        rw [SS_first]
        have : (fun j => vs (uu g h) H d (V.take k ++ [((i + 1 + j : Nat) : Int)])) = fun j => vs (uu g h) H d (V.take k ++ [((i + (j + 1) : Nat) : Int)]) := by
          funext j; rw [show i + 1 + j = i + (j + 1) by omega]
        rw [this]
        show _ = n + (vs (uu g h) H d (V.take k ++ [((i + 0 : Nat) : Int)]) + _)
        rw [Nat.add_zero]
        omega
    rw [Nat.pow_succ, Nat.mul_comm (3 ^ d) 3, Nat.mul_assoc] at hn
    have h3 : H * (3 ^ d * 1024) ≤ 3 * (3 ^ d * 1024) := Nat.mul_le_mul_right _ hH
    obtain ⟨V', E', p1, p2, p3, p4⟩ := loop H 0 V E n hV hE rfl (by omega)
    refine ⟨V'.set k (H : Int), E', ?_, by rw [List.length_set]; exact p2, p3, by rw [List.take_set_of_le (Nat.le_refl _)]; exact p4⟩
    show (Option.bind (Lb.rnd (fun i s => Lb.cmVerts _ N H d (s.1.set (N - (d + 1)) (i : Int), s.2)) H 0 (V, E, (n : Int))) fun s => some (s.1.set (N - (d + 1)) (H : Int), s.2)) = _
    rw [← hk, p1]
    simp only [Nat.zero_add]
    rfl
theorem same_snoc {P : List Int} {x : Int} : same (P ++ [x]) = (same P && ((P ++ [x]).getD P.length 0 == (P ++ [x]).getD 0 0)) := by
  cases P with
  | nil => simp [same]
  | cons a l => simp [same, Bool.and_assoc]
theorem tmod_nat (a b : Nat) : Int.tmod (a : Int) (b : Int) = ((a % b : Nat) : Int) := rfl
theorem tdiv_nat (a b : Nat) : Int.tdiv (a : Int) (b : Int) = ((a / b : Nat) : Int) := rfl
theorem cl4_p {N H : Nat} (hN : g.1 = (N : Int)) (hN4 : N ≤ 4) (hH : h.1 = (H : Int)) (hH1 : 1 ≤ H) {all sum k : Int} : ∀ d v (P : List Int) (n : Nat), P.length = v → v + d = N → n ≤ 1000000 → spec_CountMorphisms_l4 g h all sum k P (n : Int) (same P) (v : Int) =
    cond (!same (P ++ dig H d n)) ((spec_l16Count g h (P ++ dig H d n, ([] : List Int))).bind fun r3 => spec_CountMorphisms_l2 g h all (w64 (sum + r3)) (w64 (k + 1))) (spec_CountMorphisms_l2 g h all sum (w64 (k + 1)))
  | 0, v, P, n, hP, hv, hn => by
    rw [spec_CountMorphisms_l4_eq, decide_eq_false (show ¬ (v : Int) < g.1 by omega)]
    simp only [cond_false, dig, List.append_nil]
  | d + 1, v, P, n, hP, hv, hn => by
    have hd : n / H ≤ 1000000 := Nat.le_trans (Nat.div_le_self _ _) hn
    have ih := cl4_p hN hN4 hH hH1 (all := all) (sum := sum) (k := k) d (v + 1) (P ++ [((n % H : Nat) : Int)]) (n / H) (by rw [List.length_append, hP]; rfl) (by omega) hd
    rw [spec_CountMorphisms_l4_eq, decide_eq_true (show (v : Int) < g.1 by omega), hH, decide_eq_false (show ¬ (H : Int) = 0 by omega), tmod_nat, tdiv_nat, room1 (by omega), w64_id (Int.le_trans (by decide) (Int.natCast_nonneg _)) (Int.le_trans (Int.ofNat_le.2 hd) (by decide)), w64_succ (k := v) (n := N) (by omega) (by omega)]
    simp only [cond_true, cond_false]
    have hl : (P ++ [((n % H : Nat) : Int)]).length = v + 1 := by rw [List.length_append, hP]; rfl
    have e : P ++ dig H (d + 1) n = (P ++ [((n % H : Nat) : Int)]) ++ dig H d (n / H) := by rw [List.append_assoc]; rfl
    rw [e, ← ih, same_snoc, hP]
    cases same P with
    | false => rfl
    | true =>
      rw [cond_true, inside_lt (show v < (P ++ [((n % H : Nat) : Int)]).length by omega), show inside 0 (P ++ [((n % H : Nat) : Int)]).length = true from inside_lt (k := 0) (by omega)]
      simp only [cond_true, Int.toNat_natCast, Bool.true_and]
set_option maxRecDepth 100000 in
theorem cl2_p (G : GOk g) (K : GOk h) (hg : g.2.length ≤ 5) (hh : h.2.length ≤ 3) {N H : Nat} (hN : g.1 = (N : Int)) (hN4 : N ≤ 4) (hH : h.1 = (H : Int)) (hH1 : 1 ≤ H) (hb : H ^ N ≤ 81) : ∀ m k s, k + m = H ^ N → s + m * 1024 ≤ 800000 →
    spec_CountMorphisms_l2 g h ((H ^ N : Nat) : Int) ((s : Nat) : Int) ((k : Nat) : Int) = some ((s + SS m (fun j => uu g h (dig H N (k + j))) : Nat) : Int)
  | 0, k, s, hk, hs => by
    rw [spec_CountMorphisms_l2_eq, decide_eq_false (by omega)]
    rfl
  | m + 1, k, s, hk, hs => by
    have hkl : k < H ^ N := by omega
    rw [Nat.succ_mul] at hs
    have hs' : s + m * 1024 ≤ 800000 := by omega
    have hk' : k + 1 + m = H ^ N := by omega
    rw [spec_CountMorphisms_l2_eq, dec_lt_t hkl, cond_true]
    have := cl4_p (g := g) (h := h) hN hN4 hH hH1 (all := ((H ^ N : Nat) : Int)) (sum := ((s : Nat) : Int)) (k := ((k : Nat) : Int)) N 0 [] k rfl (by omega) (by omega)
    rw [show same [] = true from rfl] at this
    rw [show (0 : Int) = ((0 : Nat) : Int) from rfl, this, List.nil_append, l16_p (V := dig H N k) G K hg hh (by rw [dig_len, hN]) g.2.length [] (by simp), w64_succ hkl (by omega), SS_first]
    have sh : (fun i => uu g h (dig H N (k + (i + 1)))) = fun i => uu g h (dig H N (k + 1 + i)) := by
      funext i; rw [show k + (i + 1) = k + 1 + i by omega]
    rw [sh, show (k + 0 : Nat) = k from rfl]
    have hu := uu_le (g := g) (h := h) hg hh (dig H N k)
    cases hc : same (dig H N k) with
    | true =>
      have hz : uu g h (dig H N k) = 0 := by unfold uu; rw [hc]; rfl
      have ih := cl2_p G K hg hh hN hN4 hH hH1 hb m (k + 1) s hk' hs'
      rw [hz, Nat.zero_add, ← ih]
      simp only [Bool.not_true, cond_false]
    | false =>
      have hz : uu g h (dig H N k) = cnt g h (dig H N k) g.2.length [] := by unfold uu; rw [hc]; rfl
      rw [← hz]
      simp only [Bool.not_false, cond_true, Option.bind_some]
      rw [w64_id (by omega) (by omega), ← Int.natCast_add, cl2_p G K hg hh hN hN4 hH hH1 hb m (k + 1) (s + uu g h (dig H N k)) (by omega) (by omega)]
      congr 2
      omega
theorem cl0_p {N H : Nat} (hN : g.1 = (N : Int)) (hN4 : N ≤ 4) (hH : h.1 = (H : Int)) (hH3 : H ≤ 3) : ∀ m i, i + m = N → spec_CountMorphisms_l0 g h ((H ^ i : Nat) : Int) ((i : Nat) : Int) = spec_CountMorphisms_l2 g h ((H ^ N : Nat) : Int) 0 0
  | 0, i, hi => by
    rw [spec_CountMorphisms_l0_eq, decide_eq_false (by omega), show i = N by omega]
    rfl
  | m + 1, i, hi => by
    have b1 : H ^ i ≤ 3 ^ i := Nat.pow_le_pow_left hH3 i
    have b2 : 3 ^ i ≤ 3 ^ 4 := Nat.pow_le_pow_right (by omega) (by omega)
    have b3 : H ^ i * H ≤ 81 * 3 := Nat.mul_le_mul (by omega) hH3
    rw [spec_CountMorphisms_l0_eq, decide_eq_true (by omega), cond_true, hH, ← Int.natCast_mul, w64_id (by omega) (by omega), w64_succ (k := i) (n := N) (by omega) (by omega), ← Nat.pow_succ]
    exact cl0_p hN hN4 hH hH3 m (i + 1) (by omega)
/-- both count the same maps -/
theorem count_p (hg : g.2.length ≤ 1048576) (hh : h.2.length ≤ 1048576) : ∃ r, spec_CountMorphisms g h = some r ∧ impl_CountMorphisms g h = some r := by
  obtain ⟨b, p1, p2, p3⟩ := graphOk_p (g := g) (by omega)
  obtain ⟨c, q1, q2, q3⟩ := graphOk_p (g := h) (by omega)
  rw [spec_CountMorphisms_eq, impl_CountMorphisms_eq]
  unfold Lb.cm
  rw [p1, p2, q1, q2]
  simp only [Option.bind_some]
  cases b with
  | false => exact ⟨-1, rfl, rfl⟩
  | true =>
  cases c with
  | false => exact ⟨-1, rfl, rfl⟩
  | true =>
  simp only [Bool.not_true, cond_false, cond_true]
  have G := p3.1 rfl
  have K := q3.1 rfl
  by_cases c1 : g.1 ≤ 4
  case neg => rw [decide_eq_true (show g.1 > 4 by omega), decide_eq_false c1]; exact ⟨-1, rfl, rfl⟩
  by_cases c2 : g.2.length ≤ 5
  case neg => rw [decide_eq_false (show ¬ g.1 > 4 by omega), decide_eq_true c1, decide_eq_true (show (g.2.length : Int) > 5 by omega), decide_eq_false c2]; exact ⟨-1, rfl, rfl⟩
  by_cases c3 : h.1 ≤ 3
  case neg => rw [decide_eq_false (show ¬ g.1 > 4 by omega), decide_eq_true c1, decide_eq_false (show ¬ (g.2.length : Int) > 5 by omega), decide_eq_true c2, decide_eq_true (show h.1 > 3 by omega), decide_eq_false c3]; exact ⟨-1, rfl, rfl⟩
  by_cases c4 : h.2.length ≤ 3
  case neg => rw [decide_eq_false (show ¬ g.1 > 4 by omega), decide_eq_true c1, decide_eq_false (show ¬ (g.2.length : Int) > 5 by omega), decide_eq_true c2, decide_eq_false (show ¬ h.1 > 3 by omega), decide_eq_true c3, decide_eq_true (show (h.2.length : Int) > 3 by omega), decide_eq_false c4]; exact ⟨-1, rfl, rfl⟩
  rw [decide_eq_false (show ¬ g.1 > 4 by omega), decide_eq_true c1, decide_eq_false (show ¬ (g.2.length : Int) > 5 by omega), decide_eq_true c2, decide_eq_false (show ¬ h.1 > 3 by omega), decide_eq_true c3, decide_eq_false (show ¬ (h.2.length : Int) > 3 by omega), decide_eq_true c4]
  simp only [Bool.and_self, cond_true, cond_false]
  have hin : Lb.cmIn g h = true := by
    unfold Lb.cmIn
    rw [Bool.and_eq_true, Bool.and_eq_true, decide_eq_true_eq, decide_eq_true_eq, List.all_eq_true]
    refine ⟨⟨G.1.1.1, K.1.1.1⟩, fun e he => ?_⟩
    obtain ⟨j, hj, rfl⟩ := List.getElem_of_mem he
    have := G.1.2.2 j hj
    rw [List.getD_eq_getElem?_getD, List.getElem?_eq_getElem hj, Option.getD_some] at this
    obtain ⟨e1, e2, e3⟩ := this
    simp only [Bool.and_eq_true, decide_eq_true_eq]
    omega
  rw [hin, cond_true]
  obtain ⟨N, hN⟩ : ∃ N : Nat, g.1 = N := ⟨g.1.toNat, by have := G.1.1.1; omega⟩
  obtain ⟨H, hH⟩ : ∃ H : Nat, h.1 = H := ⟨h.1.toNat, by have := K.1.1.1; omega⟩
  have hN1 : 1 ≤ N := by have := G.1.1.1; omega
  have hH1 : 1 ≤ H := by have := K.1.1.1; omega
  have eN : g.1.toNat = N := by omega
  have eH : h.1.toNat = H := by omega
  have b1 : H ^ N ≤ 3 ^ N := Nat.pow_le_pow_left (by omega) N
  have b2 : 3 ^ N ≤ 3 ^ 4 := Nat.pow_le_pow_right (by omega) (by omega)
  unfold Lb.cmAll
  rw [eN, eH]
  obtain ⟨V', E', v1, v2, v3, v4⟩ := verts_p (g := g) (h := h) c2 c4 hN1 (by omega) (by omega : H ≤ 3) N (Nat.le_refl _) (List.replicate N 0) (List.replicate g.2.length 0) 0 List.length_replicate List.length_replicate (by omega)
  have w1 := cl0_p (g := g) (h := h) hN (by omega) hH (by omega) N 0 (by omega)
  have w2 := cl2_p (g := g) (h := h) G K c2 c4 hN (by omega) hH hH1 (by omega) (H ^ N) 0 0 (by omega) (by omega)
  refine ⟨((vs (uu g h) H N [] : Nat) : Int), ?_, ?_⟩
  · refine Eq.trans w1 (Eq.trans w2 ?_)
    congr 2
    rw [Nat.zero_add, ← vs_dig]
    refine SS_congr fun i _ => ?_
    rw [Nat.zero_add, List.nil_append]
  · rw [Nat.sub_self, Nat.zero_add] at v1
    refine Eq.trans (congrArg (fun o => Option.bind o _) v1) ?_
    rfl
end
theorem law_CountMorphisms {g h : Gr} (hg : g.2.length ≤ 9223372036854775807) (hh : h.2.length ≤ 9223372036854775807) : laws_FnExactCountMorphisms g h = some true := by
  rw [laws_FnExactCountMorphisms_eq]
  obtain ⟨r, k1, k2⟩ := szGraph_p hg (m := 1048576) (by omega) (by omega)
  rw [k1]
  simp only [Option.bind_some]
  by_cases c : r < 0
  · rw [decide_eq_true c]; rfl
  rw [decide_eq_false c]
  simp only [cond_false]
  have k3 := k2 (by omega)
  obtain ⟨r2, j1, j2⟩ := szGraph_p hh (m := r) (by omega) (by omega)
  rw [j1]
  simp only [Option.bind_some]
  by_cases c2 : r2 < 0
  · rw [decide_eq_true c2]; rfl
  rw [decide_eq_false c2]
  simp only [cond_false]
  have j3 := j2 (by omega)
  obtain ⟨q, p1, p2⟩ := count_p (g := g) (h := h) (by omega) (by omega)
  rw [toGraph_p (by omega), toGraph_p (by omega)]
  simp only [Option.bind_some, p1, p2, bne_self_eq_false, cond_false, true_of (eqGraph_p hg) rfl, Bool.not_true]
  rw [laws_FnExactCountMorphisms_c16_eq, toGraph_p (by omega)]
  simp only [Option.bind_some, Bool.not_true, cond_false, true_of (eqGraph_p hh) rfl]
end Go.Proofs.Ytgncajnfphlgeaa.D

/-
  Graphs: the program's bits of what is reached; both say alike whether a graph is connected.
-/
import Derived.Test.YthhogfhffpfkdaaGreatDoorPureD
namespace Go.Proofs.YthhogfhffpfkdaaGreatDoor.D
open Go Go.Den
set_option linter.unusedVariables false
set_option linter.unusedSimpArgs false
theorem bits_or_p {x y : Nat} (hx : x < 2 ^ 62) (hy : y < 2 ^ 62) : bits .or .i64 (x : Int) (y : Int) = ((x ||| y : Nat) : Int) := by
  have h := Nat.or_lt_two_pow hx hy
  have e1 : (BitVec.ofInt 64 (x : Int)) = BitVec.ofNat 64 x := by simp
  have e2 : (BitVec.ofInt 64 (y : Int)) = BitVec.ofNat 64 y := by simp
  show ((bitsD .or .i64 (x : Int) (y : Int)).getD 0) = _
  simp only [bitsD, Option.getD_some]
  show IntKind.i64.wrap (((BitVec.ofInt 64 (x : Int)) ||| (BitVec.ofInt 64 (y : Int))).toNat : Int) = _
  rw [e1, e2, BitVec.toNat_or, BitVec.toNat_ofNat, BitVec.toNat_ofNat, Nat.mod_eq_of_lt (by omega), Nat.mod_eq_of_lt (by omega)]
  exact w64_id (by omega) (by omega)
theorem bits_and1_p {x : Nat} (hx : x < 2 ^ 62) : bits .and .i64 (x : Int) 1 = ((x % 2 : Nat) : Int) := by
  have e1 : (BitVec.ofInt 64 (x : Int)) = BitVec.ofNat 64 x := by simp
  show ((bitsD .and .i64 (x : Int) 1).getD 0) = _
  simp only [bitsD, Option.getD_some]
  show IntKind.i64.wrap (((BitVec.ofInt 64 (x : Int)) &&& (BitVec.ofInt 64 1)).toNat : Int) = _
  rw [e1, BitVec.toNat_and, BitVec.toNat_ofNat, Nat.mod_eq_of_lt (show x < 2 ^ 64 by omega)]
  have : (BitVec.ofInt 64 1).toNat = 1 := by decide
  rw [this, Nat.and_one_is_mod]
  exact w64_id (by omega) (by omega)
theorem bit_p {m a : Nat} (hm : m < 2 ^ 62) (ha : a ≤ 64) : ((bits .and .i64 (Int.fdiv (m : Int) (2 ^ (min a 64))) 1) == 1) = m.testBit a := by
  have h1 : Int.fdiv (m : Int) (2 ^ (min a 64)) = ((m / 2 ^ a : Nat) : Int) := by
    rw [Nat.min_eq_left ha]
    have : ((2 : Int) ^ a) = ((2 ^ a : Nat) : Int) := by simp
    rw [this]
    exact (Int.ofNat_fdiv m (2 ^ a)).symm
  rw [h1, bits_and1_p (Nat.lt_of_le_of_lt (Nat.div_le_self _ _) hm), Nat.testBit_eq_decide_div_mod_eq]
  rw [Bool.eq_iff_iff, beq_iff_eq, decide_eq_true_iff]
  omega
theorem pow_p {a : Nat} (ha : a < 60) : w64 (1 * 2 ^ (min a 64)) = ((2 ^ a : Nat) : Int) := by
  rw [Nat.min_eq_left (by omega), Int.one_mul]
  have h : ((2 : Int) ^ a) = ((2 ^ a : Nat) : Int) := by simp
  have hlt : 2 ^ a < 2 ^ 60 := Nat.pow_lt_pow_right (by omega) ha
  rw [h]
  generalize 2 ^ a = x at hlt
  exact w64_id (by omega) (by omega)
/-- one edge: both ends are reached where one is -/
def bst (m : Nat) (e : Int × Int) : Nat := if m.testBit e.1.toNat = true ∨ m.testBit e.2.toNat = true then m ||| (2 ^ e.1.toNat ||| 2 ^ e.2.toNat) else m
def Sub' (m m' : Nat) : Prop := ∀ i, m.testBit i = true → m'.testBit i = true
theorem bst_sub (m : Nat) (e : Int × Int) : Sub' m (bst m e) := fun i hi => by
  unfold bst
  split
  · rw [Nat.testBit_or, hi]; rfl
  · exact hi
structure BG (g : Gr) (m : Nat) : Prop where
  lt : m < 2 ^ 62
  zero : m.testBit 0 = true
  ok : ∀ i, m.testBit i = true → (i : Int) < g.1 ∧ Conn g.2 (i : Int)
theorem bst_ok {g : Gr} (hg : EOk g) {m : Nat} (G : BG g m) {j : Nat} (hj : j < g.2.length) : BG g (bst m (g.2.getD j (0, 0))) ∧ ((bst m (g.2.getD j (0, 0)) = m) → (m.testBit (g.2.getD j (0, 0)).1.toNat = true ↔ m.testBit (g.2.getD j (0, 0)).2.toNat = true)) := by
  obtain ⟨h1, h2, h3⟩ := hg.2.2 j hj
  have hn := hg.1.2
  have f1 : @Conn.fwd g.2 j = @Conn.fwd g.2 j := rfl
  have hf : Conn g.2 (g.2.getD j (0, 0)).1 → Conn g.2 (g.2.getD j (0, 0)).2 := .fwd hj
  have hb : Conn g.2 (g.2.getD j (0, 0)).2 → Conn g.2 (g.2.getD j (0, 0)).1 := .bwd hj
  generalize g.2.getD j (0, 0) = e at h1 h2 h3 hf hb
  obtain ⟨a, b⟩ := e
  simp only at h1 h2 h3 hf hb
  have ea : ((a.toNat : Nat) : Int) = a := by omega
  have eb : ((b.toNat : Nat) : Int) = b := by omega
  unfold bst
  simp only
  split
  · rename_i c
    have hc : Conn g.2 a ∧ Conn g.2 b := by
      rcases c with c | c
      · have := (G.ok _ c).2
        rw [ea] at this
        exact ⟨this, hf this⟩
      · have := (G.ok _ c).2
        rw [eb] at this
        exact ⟨hb this, this⟩
    refine ⟨⟨?_, ?_, fun i hi => ?_⟩, fun q => ?_⟩
    · refine Nat.or_lt_two_pow G.lt (Nat.or_lt_two_pow ?_ ?_)
      · exact Nat.pow_lt_pow_right (by omega) (by omega)
      · exact Nat.pow_lt_pow_right (by omega) (by omega)
    · rw [Nat.testBit_or, G.zero]; rfl
    · rw [Nat.testBit_or, Nat.testBit_or, Nat.testBit_two_pow, Nat.testBit_two_pow] at hi
      simp only [Bool.or_eq_true, decide_eq_true_eq] at hi
      rcases hi with hi | hi | hi
      · exact G.ok i hi
      · subst hi; rw [ea]; exact ⟨by omega, hc.1⟩
      · subst hi; rw [eb]; exact ⟨h3, hc.2⟩
    · have t1 : (m ||| (2 ^ a.toNat ||| 2 ^ b.toNat)).testBit a.toNat = true := by
        rw [Nat.testBit_or, Nat.testBit_or, Nat.testBit_two_pow]; simp
      have t2 : (m ||| (2 ^ a.toNat ||| 2 ^ b.toNat)).testBit b.toNat = true := by
        rw [Nat.testBit_or, Nat.testBit_or, Nat.testBit_two_pow, Nat.testBit_two_pow]; simp
      rw [q] at t1 t2
      rw [t1, t2]
  · rename_i c
    refine ⟨G, fun _ => ?_⟩
    constructor
    · exact fun k => absurd (.inl k) c
    · exact fun k => absurd (.inr k) c
theorem il2_p {g : Gr} (hg : EOk g) {m : Nat} (G : BG g m) {n : Int} {i : Int} {j : Nat} (hj : j < g.2.length) :
    impl_connected_l2 g.1 g.2 (m : Int) n i g.2 (g.2.length : Int) (j : Nat) = impl_connected_l2 g.1 g.2 ((bst m (g.2.getD j (0, 0)) : Nat) : Int) n i g.2 (g.2.length : Int) ((j + 1 : Nat) : Int) := by
  obtain ⟨h1, h2, h3⟩ := hg.2.2 j hj
  have hn := hg.1.2
  have hl := hg.2.1
  rw [impl_connected_l2_eq, dec_lt_t hj, inside_lt hj, w64_succ hj (by omega)]
  simp only [cond_true, Int.toNat_natCast]
  obtain ⟨⟨a, b⟩, hab⟩ : ∃ e, g.2.getD j (0, 0) = e := ⟨_, rfl⟩
  rw [hab] at h1 h2 h3
  simp only at h1 h2 h3
  simp only [hab]
  have d1 : ¬ (a < 0) := by omega
  have d2 : ¬ (b < 0) := by omega
  have p1 : 2 ^ a.toNat < 2 ^ 62 := Nat.pow_lt_pow_right (by omega) (by omega)
  have p2 : 2 ^ b.toNat < 2 ^ 62 := Nat.pow_lt_pow_right (by omega) (by omega)
  rw [decide_eq_false d1, decide_eq_false d2, bit_p G.lt (by omega), bit_p G.lt (by omega)]
  rw [pow_p (a := a.toNat) (by omega), pow_p (a := b.toNat) (by omega), bits_or_p p1 p2, bits_or_p G.lt (Nat.or_lt_two_pow p1 p2)]
  simp only [cond_false]
  unfold bst
  simp only
  cases t1 : m.testBit a.toNat with
  | true => simp
  | false =>
    cases t2 : m.testBit b.toNat with
    | true => simp
    | false => simp
def pass (g : Gr) (m : Nat) : Nat := itr (fun j s => bst s (g.2.getD j (0, 0))) g.2.length m
theorem pass_p {g : Gr} (hg : EOk g) {m : Nat} (G : BG g m) : BG g (pass g m) ∧ Sub' m (pass g m) := by
  have : ∀ k, k ≤ g.2.length → BG g (itr (fun j s => bst s (g.2.getD j (0, 0))) k m) ∧ Sub' m (itr (fun j s => bst s (g.2.getD j (0, 0))) k m) := by
    intro k
    induction k with
    | zero => exact fun _ => ⟨G, fun _ h => h⟩
    | succ k ih =>
      intro hk
      obtain ⟨q1, q2⟩ := ih (by omega)
      exact ⟨(bst_ok hg q1 (by omega)).1, fun i hi => bst_sub _ _ i (q2 i hi)⟩
  exact this _ (Nat.le_refl _)
theorem sub_anti {m m' : Nat} (h1 : Sub' m m') (h2 : Sub' m' m) : m = m' := by
  refine Nat.eq_of_testBit_eq fun i => ?_
  rw [Bool.eq_iff_iff]
  exact ⟨h1 i, h2 i⟩
theorem pass_fix {g : Gr} (hg : EOk g) {m : Nat} (G : BG g m) (hf : pass g m = m) {j : Nat} (hj : j < g.2.length) : m.testBit (g.2.getD j (0, 0)).1.toNat = true ↔ m.testBit (g.2.getD j (0, 0)).2.toNat = true := by
  have sub : ∀ (d k : Nat) (x : Nat), Sub' x (itr (fun j s => bst s (g.2.getD (k + j) (0, 0))) d x) := by
    intro d k
    induction d with
    | zero => exact fun _ _ h => h
    | succ d ih => exact fun x i hi => bst_sub _ _ i (ih x i hi)
  have mono : ∀ k d, Sub' (itr (fun j s => bst s (g.2.getD j (0, 0))) k m) (itr (fun j s => bst s (g.2.getD j (0, 0))) (k + d) m) := by
    intro k d
    induction d with
    | zero => exact fun _ h => h
    | succ d ih => exact fun i hi => bst_sub _ _ i (ih i hi)
  have up : ∀ k, Sub' m (itr (fun j s => bst s (g.2.getD j (0, 0))) k m) := fun k => by
    have := mono 0 k
    rw [Nat.zero_add] at this
    exact this
  have fix : ∀ k, k ≤ g.2.length → itr (fun j s => bst s (g.2.getD j (0, 0))) k m = m := fun k hk => by
    refine (sub_anti (up k) fun i hi => ?_).symm
    have := mono k (g.2.length - k) i hi
    rw [show k + (g.2.length - k) = g.2.length by omega] at this
    have h2 : (pass g m).testBit i = true := this
    rwa [hf] at h2
  have h1 := fix j (by omega)
  have h2 := fix (j + 1) (by omega)
  rw [itr, h1] at h2
  exact (bst_ok hg G hj).2 h2
def bitsOf (m : Nat) : List Nat := (List.range 6).filter fun i => m.testBit i
theorem mem_bitsOf {g : Gr} (hg : EOk g) {m : Nat} (G : BG g m) {i : Nat} : i ∈ bitsOf m ↔ m.testBit i = true := by
  unfold bitsOf
  rw [List.mem_filter, List.mem_range]
  refine ⟨fun k => k.2, fun k => ⟨?_, k⟩⟩
  have := (G.ok i k).1
  have := hg.1.2
  omega
theorem bitsOf_nodup (m : Nat) : (bitsOf m).Nodup := by unfold bitsOf; exact List.Pairwise.filter _ List.nodup_range
theorem rounds {g : Gr} (hg : EOk g) {m : Nat} (G : BG g m) : ∀ k, BG g (itr (fun _ s => pass g s) k m) ∧ (pass g (itr (fun _ s => pass g s) k m) = itr (fun _ s => pass g s) k m ∨ k + 1 ≤ (bitsOf (itr (fun _ s => pass g s) k m)).length)
  | 0 => by
    refine ⟨G, .inr ?_⟩
    have : 0 ∈ bitsOf m := (mem_bitsOf hg G).2 G.zero
    exact List.length_pos_of_mem this
  | k + 1 => by
    obtain ⟨q1, q2⟩ := rounds hg G k
    rw [itr]
    generalize itr (fun _ s => pass g s) k m = x at q1 q2
    obtain ⟨r1, r2⟩ := pass_p hg q1
    refine ⟨r1, ?_⟩
    rcases q2 with q2 | q2
    · left; rw [q2, q2]
    · by_cases c : pass g x = x
      · left; rw [c, c]
      · right
        have : ∃ i, (pass g x).testBit i = true ∧ ¬ x.testBit i = true := by
          apply Classical.byContradiction
          intro hno
          refine c (sub_anti r2 fun i hi => ?_).symm
          apply Classical.byContradiction
          exact fun h => hno ⟨i, hi, h⟩
        obtain ⟨i, hi1, hi2⟩ := this
        have := nodup_len (l := i :: bitsOf x) (m := bitsOf (pass g x)) (List.nodup_cons.2 ⟨fun h => hi2 ((mem_bitsOf hg q1).1 h), bitsOf_nodup x⟩) fun y hy => by
          rw [mem_bitsOf hg r1]
          rcases List.mem_cons.1 hy with hy | hy
          · rw [hy]; exact hi1
          · exact r2 y ((mem_bitsOf hg q1).1 hy)
        simp only [List.length_cons] at this
        omega
theorem connected_p {g : Gr} (hg : EOk g) : ∃ b, impl_connected g.1 g.2 = some b ∧ (b = true ↔ All g) := by
  rw [impl_connected_eq]
  obtain ⟨hn1, hn2⟩ := hg.1
  have hl := hg.2.1
  have G0 : BG g 1 := ⟨by decide, by decide, fun i hi => by
    have : 0 = i := by
      rw [show (1 : Nat) = 2 ^ 0 from rfl, Nat.testBit_two_pow] at hi
      simpa using hi
    subst this
    exact ⟨by simp; omega, .zero⟩⟩
  have hN : ((g.1.toNat : Nat) : Int) = g.1 := by omega
  obtain ⟨k1, k2⟩ := upFold (n := g.1.toNat) (f := fun (s : Nat) i => impl_connected_l0 g.1 g.2 (s : Int) ((g.1.toNat : Nat) : Int) i) (g := fun _ s => pass g s) (fun _ s => BG g s) (fun k s hk Gs => by
    refine ⟨?_, (pass_p hg Gs).1⟩
    rw [impl_connected_l0_eq, dec_lt_t hk]
    simp only [cond_true]
    obtain ⟨j1, j2⟩ := upFold (n := g.2.length) (f := fun (s : Nat) j => impl_connected_l2 g.1 g.2 (s : Int) ((g.1.toNat : Nat) : Int) (k : Int) g.2 (g.2.length : Int) j) (g := fun j s => bst s (g.2.getD j (0, 0))) (fun _ s => BG g s) (fun j s hj Gs => ⟨il2_p hg Gs hj, (bst_ok hg Gs hj).1⟩) (s := s) Gs
    rw [show ((0 : Nat) : Int) = 0 from rfl] at j1
    rw [j1, impl_connected_l2_eq, dec_lt_f, w64_succ hk (by omega)]
    rfl) (s := 1) G0
  rw [hN, show ((0 : Nat) : Int) = 0 from rfl, show ((1 : Nat) : Int) = 1 from rfl] at k1
  rw [k1]
  obtain ⟨-, q2⟩ := rounds hg G0 g.1.toNat
  generalize itr (fun _ s => pass g s) g.1.toNat 1 = m at k2 q2
  rw [impl_connected_l0_eq, decide_eq_false (show ¬ g.1 < g.1 from Int.lt_irrefl _), decide_eq_false (show ¬ g.1 < 0 by omega), pow_p (a := g.1.toNat) (by omega)]
  simp only [cond_false]
  have hfix : pass g m = m := by
    rcases q2 with q2 | q2
    · exact q2
    · exfalso
      have := nodup_len (l := bitsOf m) (m := List.range g.1.toNat) (bitsOf_nodup m) fun i hi => by
        have := (k2.ok i ((mem_bitsOf hg k2).1 hi)).1
        rw [List.mem_range]; omega
      simp at this
      omega
  have hbit : ∀ v, Conn g.2 v → m.testBit v.toNat = true := fun v hv => by
    induction hv with
    | zero => exact k2.zero
    | fwd hj _ ih => exact (pass_fix hg k2 hfix hj).1 ih
    | bwd hj _ ih => exact (pass_fix hg k2 hfix hj).2 ih
  have hp : 2 ^ g.1.toNat ≤ 2 ^ 6 := Nat.pow_le_pow_right (by omega) (by omega)
  have hp1 : 1 ≤ 2 ^ g.1.toNat := Nat.one_le_two_pow
  have hw : w64 (((2 ^ g.1.toNat : Nat) : Int) - 1) = ((2 ^ g.1.toNat - 1 : Nat) : Int) := by
    rw [w64_id (by omega) (by omega)]; omega
  rw [hw]
  refine ⟨_, rfl, ?_⟩
  rw [beq_iff_eq]
  constructor
  · intro h v h0 hv
    have hm : m = 2 ^ g.1.toNat - 1 := by omega
    have ht : m.testBit v.toNat = true := by
      rw [hm, Nat.testBit_two_pow_sub_one]
      exact decide_eq_true (by omega)
    have := (k2.ok _ ht).2
    rw [show ((v.toNat : Nat) : Int) = v by omega] at this
    exact this
  · intro hA
    have hm : m = 2 ^ g.1.toNat - 1 := by
      refine Nat.eq_of_testBit_eq fun i => ?_
      rw [Nat.testBit_two_pow_sub_one, Bool.eq_iff_iff, decide_eq_true_iff]
      constructor
      · intro h
        have := (k2.ok i h).1
        omega
      · intro h
        have := hbit _ (hA (i : Int) (by omega) (by omega))
        rwa [Int.toNat_natCast] at this
    rw [hm]
end Go.Proofs.YthhogfhffpfkdaaGreatDoor.D

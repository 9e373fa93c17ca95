/-
  From one effective divisor of a class to all others by sets that fire; the effective divisors of a degree: all of them, in order.
-/
import Derived.Test.YtafgbjhojkgbjaaGreatDoorPureX
import Derived.Test.YtafgbjhojkgbjaaGreatDoorPureS
import Derived.Test.YtafgbjhojkgbjaaGreatDoorSo
namespace Go.Proofs.YtafgbjhojkgbjaaGreatDoor.D
open Go Go.Den
set_option linter.unusedVariables false
set_option linter.unusedSimpArgs false
/-- what holds of one effective divisor, and passes to each that a set's firing makes of it, holds of all of the class -/
theorem climb {n : Nat} {E : Es} (hE : GE n E) (hn : 0 < n) {P : (Nat → Int) → Prop} (hc : ∀ f f', (∀ v, v < n → f v = f' v) → P f → P f')
    (hP : ∀ f (A : Nat → Bool), P f → (∀ v, v < n → 0 ≤ f v) → (∃ v, v < n ∧ A v = true) → (∃ v, v < n ∧ A v = false) → (∀ v, v < n → 0 ≤ f v - lap E (ind A) v) → P (fun v => f v - lap E (ind A) v))
    (c : Int) : ∀ (m : Nat) (s f : Nat → Int), (∀ v, v < n → c ≤ s v) → sm n (fun v => s v - c) < (m : Int) → P f → (∀ v, v < n → 0 ≤ f v) → (∀ v, v < n → 0 ≤ f v - lap E s v) → P (fun v => f v - lap E s v)
  | 0, s, f, hs, hm, _, _, _ => by
    have : 0 ≤ sm n (fun v => s v - c) := sm_nonneg fun v hv => by have := hs v hv; omega
    omega
  | m + 1, s, f, hs, hm, hf, h0, h1 => by
    obtain ⟨M, hM, w, hw, hwM⟩ := max_of s n hn
    by_cases hall : ∀ v, v < n → s v = M
    · refine hc _ _ (fun v hv => ?_) hf
      rw [lap_const hv hall hE]; omega
    · obtain ⟨u, hu⟩ := Classical.not_forall.1 hall
      have hu' : u < n ∧ ¬ s u = M := Classical.not_imp.1 hu
      let A : Nat → Bool := fun v => decide (s v = M)
      have hA : ∀ w, w < n → (A w = true ↔ s w = M) := fun w _ => decide_eq_true_iff
      have hg : ∀ v, v < n → 0 ≤ f v - lap E (ind A) v := fun v hv => by
        cases hv' : A v with
        | true =>
          have := lap_top hv hA hM hv' hE
          rw [lap_ind_in hv']
          have := h1 v hv
          omega
        | false =>
          have := lap_ind_out hv' E
          have := h0 v hv
          omega
      have hPA := hP f A hf h0 ⟨w, hw, decide_eq_true hwM⟩ ⟨u, hu'.1, decide_eq_false hu'.2⟩ hg
      have e : ∀ v, v < n → (f v - lap E (ind A) v) - lap E (fun w => s w + - ind A w) v = f v - lap E s v := fun v hv => by
        rw [lap_add, lap_neg]; omega
      have hcM : c + 1 ≤ M := by
        have := hs u hu'.1
        have := hM u hu'.1
        have := hu'.2
        omega
      have hi : ∀ v, 0 ≤ ind A v := fun v => by unfold ind; cases A v <;> decide
      refine hc _ _ e (climb hE hn hc hP c m (fun w => s w + - ind A w) _ (fun v hv => ?_) ?_ hPA hg (fun v hv => ?_))
      · have := hs v hv
        show c ≤ s v + - ind A v
        unfold ind
        cases hv' : A v with
        | true => have := (hA v hv).1 hv'; simp only [cond_true]; omega
        | false => simp only [cond_false]; omega
      · have e1 : sm n (fun v => s v + - ind A v - c) = sm n (fun v => (s v - c) + - ind A v) := sm_congr fun v _ => by omega
        have e2 := sm_add (fun v => s v - c) (fun v => - ind A v) n
        have e3 := sm_neg (ind A) n
        have e4 := sm_ge_one (f := ind A) (n := n) (fun v _ => hi v) hw
        have e5 : ind A w = 1 := by unfold ind; rw [show A w = true from decide_eq_true hwM]; rfl
        show sm n (fun v => s v + - ind A v - c) < (m : Int)
        omega
      · rw [e v hv]; exact h1 v hv
theorem min_of (s : Nat → Int) : ∀ n, ∃ c, ∀ w, w < n → c ≤ s w
  | 0 => ⟨0, fun w h => by omega⟩
  | n + 1 => by
    obtain ⟨c, hc⟩ := min_of s n
    by_cases h : c ≤ s n
    · exact ⟨c, fun w hw => by
        rcases Nat.lt_or_ge w n with q | q
        · exact hc w q
        · rw [show w = n by omega]; exact h⟩
    · exact ⟨s n, fun w hw => by
        rcases Nat.lt_or_ge w n with q | q
        · have := hc w q; omega
        · rw [show w = n by omega]; exact Int.le_refl _⟩
theorem climb_all {n : Nat} {E : Es} (hE : GE n E) (hn : 0 < n) {P : (Nat → Int) → Prop} (hc : ∀ f f', (∀ v, v < n → f v = f' v) → P f → P f')
    (hP : ∀ f (A : Nat → Bool), P f → (∀ v, v < n → 0 ≤ f v) → (∃ v, v < n ∧ A v = true) → (∃ v, v < n ∧ A v = false) → (∀ v, v < n → 0 ≤ f v - lap E (ind A) v) → P (fun v => f v - lap E (ind A) v))
    {s f : Nat → Int} (hf : P f) (h0 : ∀ v, v < n → 0 ≤ f v) (h1 : ∀ v, v < n → 0 ≤ f v - lap E s v) : P (fun v => f v - lap E s v) := by
  obtain ⟨c, hcs⟩ := min_of s n
  obtain ⟨m, hm⟩ := bound_nat (sm n (fun v => s v - c)) (sm_nonneg fun v hv => by have := hcs v hv; omega)
  exact climb hE hn hc hP c m s f hcs hm hf h0 h1
/-! ### the lists of a degree -/
theorem sm_front (f : Nat → Int) : ∀ n, sm (n + 1) f = f 0 + sm n (fun v => f (v + 1))
  | 0 => by simp [sm]
  | n + 1 => by rw [sm, sm_front f n, sm]; omega
theorem sm_list : ∀ d : List Int, sm d.length (fun w => d.getD w 0) = d.sum
  | [] => rfl
  | a :: d => by
    rw [List.length_cons, sm_front, List.sum_cons, ← sm_list d]
    rfl
theorem eff_in : ∀ {n k : Nat} {d : List Int}, d.length = n + 1 → (∀ x ∈ d, 0 ≤ x) → d.sum = (k : Int) → d ∈ eff n k
  | 0, k, [a], _, _, hs => by
    simp only [List.sum_cons, List.sum_nil, Int.add_zero] at hs
    rw [eff, hs]; exact List.mem_singleton.2 rfl
  | n + 1, k, a :: d, hl, h0, hs => by
    rw [List.sum_cons] at hs
    have ha := h0 a List.mem_cons_self
    have hd : 0 ≤ d.sum := by
      have : ∀ l : List Int, (∀ x ∈ l, 0 ≤ x) → 0 ≤ l.sum := fun l => by
        induction l with
        | nil => intro _; exact Int.le_refl _
        | cons b l ih =>
          intro h
          have := ih fun x hx => h x (List.mem_cons_of_mem _ hx)
          have := h b List.mem_cons_self
          rw [List.sum_cons]; omega
      exact this d fun x hx => h0 x (List.mem_cons_of_mem _ hx)
    have e : a = ((a.toNat : Nat) : Int) := by omega
    rw [eff, e]
    refine effR_in (eff_in (by simpa using hl) (fun x hx => h0 x (List.mem_cons_of_mem _ hx)) (by omega)) (by omega)
theorem eff_sum : ∀ {n k : Nat} {d : List Int}, d ∈ eff n k → d.sum = (k : Int)
  | 0, k, d, h => by
    rw [eff, List.mem_singleton] at h
    subst h
    simp
  | n + 1, k, d, h => by
    obtain ⟨a, r, h1, h2, h3⟩ := effR_mem (show d ∈ effR (eff n) k (k + 1) from h)
    have := eff_sum h3
    subst h2
    rw [List.sum_cons]; omega
theorem effR_sorted {f : Nat → List (List Int)} {k : Nat} (h : ∀ j, j ≤ k → (f j).Pairwise fun a b => cmpL a b < 0) : ∀ x, (effR f k x).Pairwise fun a b => cmpL a b < 0
  | 0 => List.Pairwise.nil
  | x + 1 => by
    rw [effR, List.pairwise_append]
    refine ⟨effR_sorted h x, ?_, fun a ha b hb => ?_⟩
    · rw [List.pairwise_map]
      refine (h (k - x) (by omega)).imp fun hab => ?_
      simp only [cmpL, Int.lt_irrefl, if_false]
      exact hab
    · obtain ⟨y, r, h1, h2, h3⟩ := effR_mem ha
      obtain ⟨r', _, h4⟩ := List.mem_map.1 hb
      subst h2; subst h4
      simp only [cmpL]
      rw [if_pos (by omega)]; decide
theorem eff_sorted : ∀ n k : Nat, (eff n k).Pairwise fun a b => cmpL a b < 0
  | 0, k => by rw [eff]; exact List.pairwise_singleton _ _
  | n + 1, k => by rw [eff]; exact effR_sorted (fun j _ => eff_sorted n j) _
theorem eff_nonempty : ∀ n k : Nat, ∃ d, d ∈ eff n k
  | 0, k => ⟨_, by rw [eff]; exact List.mem_singleton.2 rfl⟩
  | n + 1, k => by
    obtain ⟨d, hd⟩ := eff_nonempty n (k - 0)
    exact ⟨_, by rw [eff]; exact effR_in hd (Nat.succ_pos k)⟩
theorem rows_uniq {l m : List (List Int)} (hl : l.Pairwise fun a b => cmpL a b < 0) (hm : m.Pairwise fun a b => rowLe a b = true) (hn : m.Nodup) (h : ∀ r, r ∈ l ↔ r ∈ m) : m = l := by
  have hln : l.Nodup := hl.imp fun {a b} hab e => by rw [e, cmpL_self] at hab; omega
  refine sorted_uniq ?_ hm (hl.imp fun {a b} hab => by simp only [rowLe, decide_eq_true_eq]; omega)
  exact (List.perm_ext_iff_of_nodup hn hln).2 fun a => (h a).symm
/-! ### texts of small numbers -/
theorem fi_small (k : Nat) (hk : k ≤ 9) : fi (k : Int) = lb [UInt8.ofNat (48 + k)] := by
  unfold fi Lib.itoa
  rw [if_neg (by omega), Int.toNat_natCast]
  unfold Lib.decDigits
  rw [dif_pos (by omega)]
def dig (x : Int) : List UInt8 := [UInt8.ofNat (48 + x.toNat)]
theorem dig_inj {a b : Int} (ha : 0 ≤ a ∧ a ≤ 9) (hb : 0 ≤ b ∧ b ≤ 9) (h : dig a = dig b) : a = b := by
  unfold dig at h
  have h1 : (UInt8.ofNat (48 + a.toNat)).toNat = (UInt8.ofNat (48 + b.toNat)).toNat := congrArg UInt8.toNat (List.cons.inj h).1
  rw [UInt8.toNat_ofNat_of_lt' (by show _ < 256; omega), UInt8.toNat_ofNat_of_lt' (by show _ < 256; omega)] at h1
  omega
theorem tail_inj : ∀ {a b : List Int}, (∀ x ∈ a, 0 ≤ x ∧ x ≤ 9) → (∀ x ∈ b, 0 ≤ x ∧ x ≤ 9) → a.length = b.length → Lib.joinTail [32] (a.map dig) = Lib.joinTail [32] (b.map dig) → a = b
  | [], [], _, _, _, _ => rfl
  | [], _ :: _, _, _, h, _ => by cases h
  | _ :: _, [], _, _, h, _ => by cases h
  | x :: a, y :: b, ha, hb, hl, h => by
    simp only [Lib.joinTail, List.map_cons, List.flatten_cons, dig, List.cons_append, List.nil_append, List.cons.injEq, true_and] at h
    rw [dig_inj (ha x List.mem_cons_self) (hb y List.mem_cons_self) (by unfold dig; rw [h.1])]
    rw [tail_inj (fun z hz => ha z (List.mem_cons_of_mem _ hz)) (fun z hz => hb z (List.mem_cons_of_mem _ hz)) (by simpa using hl) h.2]
theorem fd_inj {a b : List Int} (ha : ∀ x ∈ a, 0 ≤ x ∧ x ≤ 9) (hb : ∀ x ∈ b, 0 ≤ x ∧ x ≤ 9) (hl : a.length = b.length) (h : fd a = fd b) : a = b := by
  have key : ∀ {c : List Int}, (∀ x ∈ c, 0 ≤ x ∧ x ≤ 9) → (c.map fi).map bl = c.map dig := fun {c} hc => by
    rw [List.map_map]
    refine List.map_congr_left fun x hx => ?_
    have := hc x hx
    show bl (fi x) = dig x
    rw [show x = ((x.toNat : Nat) : Int) by omega, fi_small _ (by omega), bl_lb]
    unfold dig
    rw [Int.toNat_natCast]
  match a, b, hl with
  | [], [], _ => rfl
  | x :: a, y :: b, hl =>
    unfold fd at h
    rw [if_neg (by simp), if_neg (by simp)] at h
    have h' := congrArg bl h
    unfold jn at h'
    rw [bl_lb, bl_lb, key ha, key hb, List.map_cons, List.map_cons, Lib.join_cons, Lib.join_cons] at h'
    simp only [dig, List.cons_append, List.nil_append, List.cons.injEq] at h'
    rw [dig_inj (ha x List.mem_cons_self) (hb y List.mem_cons_self) (by unfold dig; rw [h'.1])]
    rw [tail_inj (fun z hz => ha z (List.mem_cons_of_mem _ hz)) (fun z hz => hb z (List.mem_cons_of_mem _ hz)) (by simpa using hl) h'.2]
theorem ba_beq {a b : ByteArray} : (a == b) = decide (a = b) := by
  rw [Bool.eq_iff_iff, decide_eq_true_iff]
  show (a.data == b.data) = true ↔ _
  rw [beq_iff_eq]
  constructor
  · intro h; cases a; cases b; simp at h; rw [h]
  · intro h; rw [h]
theorem mget_put : ∀ (m : List (ByteArray × Int)) (k k' : ByteArray) (v : Int), mget (mput m k v) k' = if k' = k then v else mget m k'
  | [], k, k', v => by
    simp only [mput, mget, ba_beq]
    by_cases h : k' = k
    · rw [if_pos h, decide_eq_true h]; rfl
    · rw [if_neg h, decide_eq_false h]; rfl
  | (a, u) :: r, k, k', v => by
    simp only [mput, ba_beq]
    by_cases h : k = a
    · subst h
      rw [decide_eq_true rfl]
      simp only [cond_true, mget, ba_beq]
      by_cases h' : k' = k
      · rw [if_pos h', decide_eq_true h']; rfl
      · rw [if_neg h', decide_eq_false h']; rfl
    · rw [decide_eq_false h]
      simp only [cond_false, mget, ba_beq]
      rw [mget_put r k k' v]
      by_cases h' : k' = a
      · subst h'
        have h2 : ¬ k' = k := fun c => h c.symm
        simp only [if_neg h2]
      · rw [decide_eq_false h']; rfl
end Go.Proofs.YtafgbjhojkgbjaaGreatDoor.D

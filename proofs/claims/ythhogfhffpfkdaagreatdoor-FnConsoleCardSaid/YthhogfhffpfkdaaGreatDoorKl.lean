/-
  Copies that are carried out step by step: a copy that answers, answers as what it is a copy of.
-/
import Derived.Test.YthhogfhffpfkdaaGreatDoorLb
namespace Go.Den
set_option linter.unusedVariables false
open Go
/-- what a tells, b tells too -/
def Le {α : Type} (a b : Option α) : Prop := ∀ r, a = some r → b = some r
section
variable {α β : Type}
theorem Le.refl (a : Option α) : Le a a := fun _ h => h
theorem Le.no (b : Option α) : Le none b := fun _ h => by cases h
theorem Le.bind {a a' : Option α} {f f' : α → Option β} (h : Le a a') (k : ∀ x, Le (f x) (f' x)) : Le (a.bind f) (a'.bind f') := fun r h1 => by
  obtain ⟨x, h2, h3⟩ := Option.bind_eq_some_iff.1 h1
  rw [h x h2, Option.bind_some]
  exact k x r h3
theorem Le.cond (c : Bool) {a a' b b' : Option α} (h : Le a a') (k : Le b b') : Le (cond c a b) (cond c a' b') := by
  cases c
  · exact k
  · exact h
end
/-- a value, worked out before it is handed on -/
class Frc (α : Type) where
  k : {β : Type} → α → (α → β) → β
  ok : ∀ {β : Type} (a : α) (f : α → β), k a f = f a
theorem Le.frc {α β : Type} [Frc α] {a : α} {f : α → Option β} {b : Option β} (h : Le (f a) b) : Le (Frc.k a f) b := by
  rw [Frc.ok]
  exact h
noncomputable instance : Frc Nat := ⟨fun n f => Nat.rec (f 0) (fun m _ => f (Nat.succ m)) n, fun n f => by cases n <;> rfl⟩
noncomputable instance : Frc Int := ⟨fun x f => Int.rec (fun n => Frc.k n fun n => f (Int.ofNat n)) (fun n => Frc.k n fun n => f (Int.negSucc n)) x, fun x f => by
  cases x with
  | ofNat n => exact Frc.ok n fun n => f (Int.ofNat n)
  | negSucc n => exact Frc.ok n fun n => f (Int.negSucc n)⟩
noncomputable instance : Frc Bool := ⟨fun b f => cond b (f true) (f false), fun b f => by cases b <;> rfl⟩
noncomputable instance : Frc Unit := ⟨fun b f => f b, fun b f => rfl⟩
noncomputable instance {α β : Type} [Frc α] [Frc β] : Frc (α × β) := ⟨fun p f => Prod.rec (fun a b => Frc.k a fun a => Frc.k b fun b => f (a, b)) p, fun p f => by
  obtain ⟨a, b⟩ := p
  show Frc.k a _ = _
  rw [Frc.ok, Frc.ok]⟩
noncomputable def frcL {α β : Type} [Frc α] (l : List α) : (List α → β) → β := List.rec (fun f => f []) (fun h t ih f => Frc.k h fun h => ih fun t => f (h :: t)) l
theorem frcL_ok {α β : Type} [Frc α] : ∀ (l : List α) (f : List α → β), frcL l f = f l
  | [], f => rfl
  | h :: t, f => by
    show Frc.k h _ = _
    rw [Frc.ok]
    exact frcL_ok t fun t => f (h :: t)
noncomputable instance {α : Type} [Frc α] : Frc (List α) := ⟨fun l f => frcL l f, fun l f => frcL_ok l f⟩
noncomputable instance : Frc UInt8 := ⟨fun c f => Frc.k c.toNat fun n => f (UInt8.ofNat n), fun c f => by rw [Frc.ok, UInt8.ofNat_toNat]⟩
noncomputable instance : Frc ByteArray := ⟨fun s f => Frc.k (bl s) fun l => f (lb l), fun s f => by rw [Frc.ok]; rfl⟩
theorem Lb.redLap_le {α : Type} {f f' : α → Int → Option Bool} {h h' : α → Option (List (List Int))} (hf : ∀ a b, Le (f a b) (f' a b)) (hh : ∀ a, Le (h a) (h' a)) (g : α) (q : Int) : Le (Lb.redLap f h g q) (Lb.redLap f' h' g q) :=
  Le.bind (hf g q) fun b => Le.cond b (Le.bind (hh g) fun l => Le.refl _) (Le.refl _)
theorem Lb.trLeaf_le {f f' : List Int → Option Bool} {h h' : List Int → Option (List Int)} (hf : ∀ a, Le (f a) (f' a)) (hh : ∀ a, Le (h a) (h' a)) (t : List Int) (o : List (List Int)) : Le (Lb.trLeaf f h t o) (Lb.trLeaf f' h' t o) :=
  Le.cond _ (Le.bind (hf t) fun b => Le.cond b (Le.bind (hh t) fun r => Le.refl _) (Le.refl _)) (Le.refl _)
theorem Lb.trP_le {f f' : List Int → Option Bool} {h h' : List Int → Option (List Int)} (hf : ∀ a, Le (f a) (f' a)) (hh : ∀ a, Le (h a) (h' a)) (need m : Nat) : ∀ d t o, Le (Lb.trP f h need m d t o) (Lb.trP f' h' need m d t o)
  | 0, t, o => by
    by_cases k : t.length = need
    · simp only [Lb.trP, if_pos k]
      exact Lb.trLeaf_le hf hh t o
    · simp only [Lb.trP, if_neg k]
      exact Le.refl _
  | d + 1, t, o => by
    by_cases k : t.length = need
    · simp only [Lb.trP, if_pos k]
      exact Lb.trLeaf_le hf hh t o
    · simp only [Lb.trP, if_neg k]
      exact Le.bind (Lb.trP_le hf hh need m d _ _) fun o => Lb.trP_le hf hh need m d _ _
theorem Lb.treesOf_le {ok ok' : Lb.GrL → Option Bool} {ct ct' : Lb.GrL → Option Int} {f f' : Lb.GrL → List Int → Option Bool} {h h' : List Int → Option (List Int)} (ho : ∀ a, Le (ok a) (ok' a)) (hc : ∀ a, Le (ct a) (ct' a)) (hf : ∀ a b, Le (f a b) (f' a b)) (hh : ∀ a, Le (h a) (h' a)) (g : Lb.GrL) :
    Le (Lb.treesOf ok ct f h g) (Lb.treesOf ok' ct' f' h' g) :=
  Le.bind (ho g) fun b => Le.cond b (Le.bind (hc g) fun c => Le.cond _ (Le.refl _) (Le.cond _ (Le.bind (Lb.trP_le (hf g) hh _ _ _ _ _) fun o => Le.refl _) (Le.refl _))) (Le.refl _)
theorem Lb.delR_le {c c' : List Int → Option Bool} (h : ∀ d, Le (c d) (c' d)) : ∀ l, Le (Lb.delR c l) (Lb.delR c' l)
  | [] => Le.refl _
  | d :: l => Le.bind (h d) fun b => Le.bind (Lb.delR_le h l) fun r => Le.refl _
theorem Lb.delRows_le {α β : Type} {c c' : List Int → α → β → Option Bool} (h : ∀ d x y, Le (c d x y) (c' d x y)) (l : List (List Int)) (x : α) (y : β) : Le (Lb.delRows c l x y) (Lb.delRows c' l x y) := by
  unfold Lb.delRows
  split
  · exact Lb.delR_le (fun d => h d x y) l
  · exact Le.refl _
theorem Lb.rowsM_le {f f' : List Int → Option (List Int)} (h : ∀ r, Le (f r) (f' r)) (T : List Int) : ∀ m i, Le (Lb.rowsM f T m i) (Lb.rowsM f' T m i)
  | 0, i => Le.refl _
  | m + 1, i => Le.bind (h _) fun r => Le.bind (Lb.rowsM_le h T m (i + 1)) fun l => Le.refl _
theorem Lb.tutOf_le {t : Ty} {ok ok' : Lb.GrL → Option Bool} {tu tu' : List (Int × Int) → Option t.den} {f f' g g' : List Int → Option (List Int)} (ho : ∀ a, Le (ok a) (ok' a)) (ht : ∀ a, Le (tu a) (tu' a)) (hf : ∀ a, Le (f a) (f' a)) (hg : ∀ a, Le (g a) (g' a)) (a : Lb.GrL) :
    Le (Lb.tutOf t ok tu f g a) (Lb.tutOf t ok' tu' f' g' a) :=
  Le.bind (ho a) fun b => Le.cond b (Le.cond _ (Le.bind (ht _) fun T => Le.bind (Lb.rowsM_le (fun r => Le.bind (hf r) fun s => hg s) _ _ _) fun l => Le.refl _) (Le.refl _)) (Le.refl _)
noncomputable def Lb.addTmK (t : Ty) (S T : t.den) (x y : Int) : Option t.den :=
  cond (decide (0 ≤ x) && decide (x ≤ 1) && decide (0 ≤ y) && decide (y ≤ 1) && Lb.sqB (Lb.toI t S) && Lb.sqB (Lb.toI t T)) (Frc.k (Lb.addT (Lb.toI t S) (Lb.toI t T) x.toNat y.toNat) fun l => some (Lb.ofI t l)) none
theorem Lb.addTmK_le (t : Ty) (S T : t.den) (x y : Int) : Le (Lb.addTmK t S T x y) (Lb.addTm t S T x y) := Le.cond _ (Le.frc (Le.refl _)) (Le.refl _)
/-! sorting by putting in -/
def insG {α : Type} (le : α → α → Bool) (x : α) : List α → List α
  | [] => [x]
  | y :: l => cond (le x y) (x :: y :: l) (y :: insG le x l)
def isoG {α : Type} (le : α → α → Bool) : List α → List α
  | [] => []
  | x :: l => insG le x (isoG le l)
namespace Ks
theorem insG_perm {α : Type} (le : α → α → Bool) (x : α) : ∀ l, (insG le x l).Perm (x :: l)
  | [] => List.Perm.refl _
  | y :: l => by
    unfold insG
    cases le x y with
    | true => exact List.Perm.refl _
    | false => exact ((insG_perm le x l).cons y).trans (List.Perm.swap x y l)
theorem isoG_perm {α : Type} (le : α → α → Bool) : ∀ l, (isoG le l).Perm l
  | [] => List.Perm.refl _
  | x :: l => (insG_perm le x _).trans ((isoG_perm le l).cons x)
theorem insG_sorted {α : Type} {le : α → α → Bool} (ht : ∀ a b c, le a b = true → le b c = true → le a c = true) (hto : ∀ a b, (le a b || le b a) = true) (x : α) : ∀ {l}, l.Pairwise (fun a b => le a b = true) → (insG le x l).Pairwise fun a b => le a b = true
  | [], _ => List.pairwise_singleton _ _
  | y :: l, h => by
    rw [List.pairwise_cons] at h
    unfold insG
    cases c : le x y with
    | true => exact List.pairwise_cons.2 ⟨fun z hz => by
        rcases List.mem_cons.1 hz with rfl | hz
        · exact c
        · exact ht _ _ _ c (h.1 z hz), List.pairwise_cons.2 h⟩
    | false =>
      refine List.pairwise_cons.2 ⟨fun z hz => ?_, insG_sorted ht hto x h.2⟩
      rcases List.mem_cons.1 ((insG_perm le x l).mem_iff.1 hz) with rfl | hz
      · have := hto z y
        rw [c, Bool.false_or] at this
        exact this
      · exact h.1 z hz
theorem isoG_sorted {α : Type} {le : α → α → Bool} (ht : ∀ a b c, le a b = true → le b c = true → le a c = true) (hto : ∀ a b, (le a b || le b a) = true) : ∀ l : List α, (isoG le l).Pairwise fun a b => le a b = true
  | [] => List.Pairwise.nil
  | x :: l => insG_sorted ht hto x (isoG_sorted ht hto l)
theorem uniq {α : Type} {le : α → α → Bool} (ha : ∀ a b, le a b = true → le b a = true → a = b) : ∀ {l m : List α}, l.Perm m → l.Pairwise (fun a b => le a b = true) → m.Pairwise (fun a b => le a b = true) → l = m
  | [], m, hp, _, _ => by rw [List.nil_perm] at hp; exact hp.symm
  | a :: l, [], hp, _, _ => absurd hp.length_eq (by simp)
  | a :: l, b :: m, hp, h1, h2 => by
    rw [List.pairwise_cons] at h1 h2
    have e : a = b := by
      have ha' : a ∈ b :: m := hp.subset List.mem_cons_self
      have hb' : b ∈ a :: l := hp.symm.subset List.mem_cons_self
      rcases List.mem_cons.1 ha' with q | q
      · exact q
      · rcases List.mem_cons.1 hb' with q' | q'
        · exact q'.symm
        · exact ha _ _ (h1.1 b q') (h2.1 a q)
    subst e
    rw [uniq ha ((List.perm_cons _).1 hp) h1.2 h2.2]
theorem merge_iso {α : Type} {le : α → α → Bool} (ht : ∀ a b c, le a b = true → le b c = true → le a c = true) (hto : ∀ a b, (le a b || le b a) = true) (ha : ∀ a b, le a b = true → le b a = true → a = b) (l : List α) : l.mergeSort le = isoG le l :=
  uniq ha ((List.mergeSort_perm l le).trans (isoG_perm le l).symm) (List.pairwise_mergeSort ht hto l) (isoG_sorted ht hto l)
theorem cmpL_self : ∀ a : List Int, cmpL a a = 0
  | [] => rfl
  | a :: l => by simp [cmpL, cmpL_self l]
theorem cmpL_neg : ∀ a b : List Int, cmpL b a = - cmpL a b
  | [], [] => rfl
  | [], _ :: _ => rfl
  | _ :: _, [] => rfl
  | a :: l, b :: m => by
    simp only [cmpL]
    by_cases h1 : a < b
    · have : ¬ b < a := by omega
      simp [h1, this]
    · by_cases h2 : b < a
      · simp [h1, h2]
      · simp [h1, h2, cmpL_neg l m]
theorem cmpL_eq : ∀ {a b : List Int}, cmpL a b = 0 → a = b
  | [], [], _ => rfl
  | [], _ :: _, h => by simp [cmpL] at h
  | _ :: _, [], h => by simp [cmpL] at h
  | a :: l, b :: m, h => by
    simp only [cmpL] at h
    by_cases h1 : a < b
    · simp [h1] at h
    · by_cases h2 : b < a
      · simp [h1, h2] at h
      · simp only [h1, h2, if_false] at h
        rw [cmpL_eq h, show a = b by omega]
theorem cmpL_le_trans : ∀ {a b c : List Int}, cmpL a b ≤ 0 → cmpL b c ≤ 0 → cmpL a c ≤ 0
  | [], [], [], _, _ => by simp [cmpL]
  | [], [], _ :: _, _, _ => by simp [cmpL]
  | [], _ :: _, [], _, h => by simp [cmpL] at h
  | [], _ :: _, _ :: _, _, _ => by simp [cmpL]
  | _ :: _, [], _, h, _ => by simp [cmpL] at h
  | _ :: _, _ :: _, [], _, h => by simp [cmpL] at h
  | a :: l, b :: m, c :: n, h1, h2 => by
    simp only [cmpL] at h1 h2 ⊢
    by_cases q1 : a < b
    · by_cases q2 : b < c
      · have : a < c := by omega
        simp [this]
      · by_cases q3 : c < b
        · simp [q2, q3] at h2
        · have : a < c := by omega
          simp [this]
    · by_cases q4 : b < a
      · simp [q1, q4] at h1
      · by_cases q2 : b < c
        · have : a < c := by omega
          simp [this]
        · by_cases q3 : c < b
          · simp [q2, q3] at h2
          · have e1 : ¬ a < c := by omega
            have e2 : ¬ c < a := by omega
            simp only [q1, q4, if_false] at h1
            simp only [q2, q3, if_false] at h2
            simp only [e1, e2, if_false]
            exact cmpL_le_trans h1 h2
theorem cmpL_tot (a b : List Int) : cmpL a b ≤ 0 ∨ cmpL b a ≤ 0 := by
  rw [cmpL_neg a b]; omega
theorem rowLe_trans (a b c : List Int) (h1 : rowLe a b = true) (h2 : rowLe b c = true) : rowLe a c = true := by
  simp only [rowLe, decide_eq_true_eq] at *
  exact cmpL_le_trans h1 h2
theorem rowLe_total (a b : List Int) : (rowLe a b || rowLe b a) = true := by
  simp only [rowLe, Bool.or_eq_true, decide_eq_true_eq]
  exact cmpL_tot a b
theorem rowLe_anti {a b : List Int} (h1 : rowLe a b = true) (h2 : rowLe b a = true) : a = b := by
  simp only [rowLe, decide_eq_true_eq] at *
  rw [cmpL_neg a b] at h2
  exact cmpL_eq (by omega)
end Ks
def Lb.sortRowsK (l : List (List Int)) : Option (List (List Int)) := if 0 < l.length ∧ l.length ≤ 1099511627776 ∧ (∀ r ∈ l, r.length ≤ 1048576) then some (isoG rowLe l) else none
def Lb.sortIntsK (l : List Int) : Option (List Int) := if l.length ≤ 1099511627776 then some (isoG (fun x y => decide (x ≤ y)) l) else none
theorem Lb.sortRowsK_le (l : List (List Int)) : Le (Lb.sortRowsK l) (Lb.sortRows l) := by
  have e : l.mergeSort rowLe = isoG rowLe l := Ks.merge_iso Ks.rowLe_trans Ks.rowLe_total (fun _ _ h k => Ks.rowLe_anti h k) l
  unfold Lb.sortRowsK Lb.sortRows
  rw [e]
  exact Le.refl _
theorem Lb.sortIntsK_le (l : List Int) : Le (Lb.sortIntsK l) (Lb.sortInts l) := by
  have e : (l.mergeSort fun x y => decide (x ≤ y)) = isoG (fun x y => decide (x ≤ y)) l := Ks.merge_iso (fun a b c h k => by simp only [decide_eq_true_eq] at *; omega) (fun a b => by simp only [Bool.or_eq_true, decide_eq_true_eq]; omega) (fun a b h k => by simp only [decide_eq_true_eq] at *; omega) l
  unfold Lb.sortIntsK Lb.sortInts
  rw [e]
  exact Le.refl _
section
variable {α β : Type}
theorem LR {a : Option α} : Le a a := Le.refl a
theorem LN {b : Option α} : Le none b := Le.no b
theorem LF [Frc α] {a : α} {f : α → Option β} {b : Option β} (h : Le (f a) b) : Le (Frc.k a f) b := Le.frc h
theorem LC {c : Bool} {a a' b b' : Option α} (h : Le a a') (k : Le b b') : Le (cond c a b) (cond c a' b') := Le.cond c h k
theorem LB {a a' : Option α} {f f' : α → Option β} (h : Le a a') (k : ∀ x, Le (f x) (f' x)) : Le (a.bind f) (a'.bind f') := Le.bind h k
end
noncomputable abbrev fk {α β : Type} [Frc α] (a : α) (f : α → β) : β := Frc.k a f
end Go.Den

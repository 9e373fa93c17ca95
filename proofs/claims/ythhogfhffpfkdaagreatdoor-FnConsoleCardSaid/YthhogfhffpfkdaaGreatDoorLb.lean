/-
  Functions of Go's library, told plainly; what the evaluator tells of a function from elsewhere.
-/
import Derived.Test.YthhogfhffpfkdaaGreatDoorDnA
import Derived.Lib.ItoaNum
import Derived.Lib.Join
import Derived.Lib.AtoiAll
import Derived.Lib.IndexMore
import Derived.Lib.Bytealg
import Derived.Lib.Strings
namespace Go.Den
set_option linter.unusedVariables false
open Go
/-- a text as bytes -/
def lb (l : List UInt8) : ByteArray := ⟨l.toArray⟩
def bl (s : ByteArray) : List UInt8 := s.data.toList
def Lb.itoa (n : Int) : Option ByteArray := if -9223372036854775808 ≤ n ∧ n ≤ 9223372036854775807 then some (lb (Lib.itoa n)) else none
def Lb.join (l : List ByteArray) (sep : ByteArray) : Option ByteArray := if l.length ≤ 1099511627776 ∧ (Lib.join (l.map bl) (bl sep)).length ≤ 140737488355328 then some (lb (Lib.join (l.map bl) (bl sep))) else none
/-- a number's text read: only the one text of a number is taken -/
def pInt (s : ByteArray) : Int × Bool := match Lib.atoiAll (bl s) with
  | .ok v => if bl s = Lib.itoa v then (v, true) else (0, false)
  | _ => (0, false)
def Lb.pint (s : ByteArray) : Option (Int × Bool) := if s.size ≤ 281474976710656 then some (pInt s) else none
def Lb.indexByte (s : ByteArray) (c : Int) : Option Int := some (Lib.indexByte (bl s) c.toNat.toUInt8)
def Lb.cut (s sep : ByteArray) : Option (ByteArray × ByteArray × Bool) := if s.size < 4294967281 then some (lb (Lib.cut (bl s) (bl sep)).1, lb (Lib.cut (bl s) (bl sep)).2.1, (Lib.cut (bl s) (bl sep)).2.2) else none
def Lb.trimSuffix (s p : ByteArray) : Option ByteArray := if s.size ≤ 9223372036854775807 then some (lb (Lib.trimSuffix (bl s) (bl p))) else none
/-- rows of numbers, by their numbers: which comes first -/
def cmpL : List Int → List Int → Int
  | [], [] => 0
  | [], _ :: _ => -1
  | _ :: _, [] => 1
  | a :: l, b :: m => if a < b then -1 else if b < a then 1 else cmpL l m
def rowLe (a b : List Int) : Bool := decide (cmpL a b ≤ 0)
def Lb.sortRows (l : List (List Int)) : Option (List (List Int)) := if 0 < l.length ∧ l.length ≤ 1099511627776 ∧ (∀ r ∈ l, r.length ≤ 1048576) then some (l.mergeSort rowLe) else none
def Lb.sortInts (l : List Int) : Option (List Int) := if l.length ≤ 1099511627776 then some (l.mergeSort fun x y => decide (x ≤ y)) else none
/-- a row without its q-th number -/
def Lb.delAt (q : Nat) (r : List Int) : List Int := r.take q ++ r.drop (q + 1)
/-- the rows but the q-th, each without its q-th number -/
def Lb.redUp (q : Nat) (l : List (List Int)) (k : Nat) : List (List Int) := ((List.range k).filter fun j => j != q).map fun j => Lb.delAt q (l.getD j [])
def Lb.redOf (q : Int) (l : List (List Int)) : Option (List (List Int)) := if 0 < l.length ∧ l.length ≤ 1000000 ∧ 0 ≤ q ∧ q ≤ 1000000 ∧ (∀ r ∈ l, q < (r.length : Int)) then some (Lb.redUp q.toNat l l.length) else none
def Lb.redLap {α : Type} (f : α → Int → Option Bool) (h : α → Option (List (List Int))) (g : α) (q : Int) : Option (List (List Int)) := (f g q).bind fun b => cond b ((h g).bind (Lb.redOf q)) none
theorem Lb.redLap_lim {α : Type} {f : Nat → α × Int → Option Bool} {f' : α × Int → Option Bool} {h : Nat → α → Option (List (List Int))} {h' : α → Option (List (List Int))} (hf : ∀ a, Lim (fun j => f j a) (f' a)) (hh : ∀ a, Lim (fun j => h j a) (h' a)) (a : α × Int) :
    Lim (fun j => Lb.redLap (fun x y => f j (x, y)) (fun x => h j x) a.1 a.2) (Lb.redLap (fun x y => f' (x, y)) (fun x => h' x) a.1 a.2) :=
  Lim.bind (hf (a.1, a.2)) fun b => Lim.cond b (Lim.bind (hh a.1) fun l => Lim.const _) (Lim.const _)
/-- m rounds from i on -/
def Lb.rnd {σ : Type} (f : Nat → σ → Option σ) : Nat → Nat → σ → Option σ
  | 0, _, s => some s
  | m + 1, i, s => (f i s).bind fun s' => Lb.rnd f m (i + 1) s'
theorem Lb.rnd_lim {σ : Type} {f : Nat → Nat → σ → Option σ} {f' : Nat → σ → Option σ} (hf : ∀ i s, Lim (fun j => f j i s) (f' i s)) : ∀ m i s, Lim (fun j => Lb.rnd (f j) m i s) (Lb.rnd f' m i s)
  | 0, _, _ => Lim.const _
  | m + 1, i, s => Lim.bind (hf i s) fun s' => Lb.rnd_lim hf m (i + 1) s'
abbrev Lb.GrL := Int × List (Int × Int)
/-- whether an edge may have this image -/
def Lb.cmHit (g h : Lb.GrL) (V : List Int) (k : Nat) (im : Int) : Bool :=
  (decide (im = -1) && decide (V.getD (g.2.getD k (0, 0)).1.toNat 0 = V.getD (g.2.getD k (0, 0)).2.toNat 0)) ||
  (decide (0 ≤ im) && (decide ((h.2.getD im.toNat (0, 0)).1 = min (V.getD (g.2.getD k (0, 0)).1.toNat 0) (V.getD (g.2.getD k (0, 0)).2.toNat 0)) && decide ((h.2.getD im.toNat (0, 0)).2 = max (V.getD (g.2.getD k (0, 0)).1.toNat 0) (V.getD (g.2.getD k (0, 0)).2.toNat 0))))
/-- all images are given: one more if the map is harmonic and not constant -/
def Lb.cmLeaf (har : List Int → List Int → Option Bool) (mn mx : List Int → Option Int) (V E : List Int) (n : Int) : Option Int :=
  (har V E).bind fun b => cond b ((mn V).bind fun x => (mx V).bind fun y => cond (decide (x = y)) (some n) (cond (decide (n < 1000000)) (some (n + 1)) none)) (some n)
/-- the images of the last d edges, one behind the other -/
def Lb.cmEdges (leaf : List Int → Int → Option Int) (hit : Nat → Int → Bool) (le L : Nat) : Nat → List Int × Int → Option (List Int × Int)
  | 0, s => (leaf s.1 s.2).bind fun n => some (s.1, n)
  | d + 1, s => Lb.rnd (fun i s => cond (hit (le - (d + 1)) ((i : Int) - 1)) (Lb.cmEdges leaf hit le L d (s.1.set (le - (d + 1)) ((i : Int) - 1), s.2)) (some s)) (L + 1) 0 s
/-- the images of the last d vertices -/
def Lb.cmVerts (ed : List Int → List Int × Int → Option (List Int × Int)) (N H : Nat) : Nat → List Int × List Int × Int → Option (List Int × List Int × Int)
  | 0, s => (ed s.1 s.2).bind fun t => some (s.1, t)
  | d + 1, s => (Lb.rnd (fun i s => Lb.cmVerts ed N H d (s.1.set (N - (d + 1)) (i : Int), s.2)) H 0 s).bind fun s => some (s.1.set (N - (d + 1)) (H : Int), s.2)
/-- the numbers lie where they are looked up -/
def Lb.cmIn (g h : Lb.GrL) : Bool := decide (1 ≤ g.1) && decide (1 ≤ h.1) && g.2.all fun e => decide (0 ≤ e.1) && decide (e.1 < g.1) && decide (0 ≤ e.2) && decide (e.2 < g.1)
def Lb.cmAll (har : List Int → List Int → Option Bool) (mn mx : List Int → Option Int) (g h : Lb.GrL) : Option (List Int × List Int × Int) :=
  Lb.cmVerts (fun V => Lb.cmEdges (Lb.cmLeaf har mn mx V) (Lb.cmHit g h V) g.2.length h.2.length g.2.length) g.1.toNat h.1.toNat g.1.toNat (List.replicate g.1.toNat 0, List.replicate g.2.length 0, 0)
def Lb.cm (ok : Lb.GrL → Option Bool) (har : Lb.GrL → Lb.GrL → List Int × List Int → Option Bool) (mn mx : List Int → Option Int) (g h : Lb.GrL) : Option Int :=
  (ok g).bind fun b => cond b ((ok h).bind fun c => cond c (cond (decide (g.1 ≤ 4) && decide (g.2.length ≤ 5) && decide (h.1 ≤ 3) && decide (h.2.length ≤ 3)) (cond (Lb.cmIn g h) ((Lb.cmAll (fun V E => har g h (V, E)) mn mx g h).bind fun s => some s.2.2) none) (some (-1))) (some (-1))) (some (-1))
theorem Lb.cmLeaf_lim {har : Nat → List Int → List Int → Option Bool} {har' : List Int → List Int → Option Bool} {mn mx : Nat → List Int → Option Int} {mn' mx' : List Int → Option Int} (hh : ∀ V E, Lim (fun j => har j V E) (har' V E)) (hn : ∀ V, Lim (fun j => mn j V) (mn' V)) (hx : ∀ V, Lim (fun j => mx j V) (mx' V)) (V E : List Int) (n : Int) :
    Lim (fun j => Lb.cmLeaf (har j) (mn j) (mx j) V E n) (Lb.cmLeaf har' mn' mx' V E n) :=
  Lim.bind (hh V E) fun b => Lim.cond b (Lim.bind (hn V) fun x => Lim.bind (hx V) fun y => Lim.const _) (Lim.const _)
theorem Lb.cmEdges_lim {leaf : Nat → List Int → Int → Option Int} {leaf' : List Int → Int → Option Int} (hl : ∀ E n, Lim (fun j => leaf j E n) (leaf' E n)) (hit : Nat → Int → Bool) (le L : Nat) : ∀ d s, Lim (fun j => Lb.cmEdges (leaf j) hit le L d s) (Lb.cmEdges leaf' hit le L d s)
  | 0, s => Lim.bind (hl s.1 s.2) fun n => Lim.const _
  | d + 1, s => Lb.rnd_lim (fun i s => Lim.cond _ (Lb.cmEdges_lim hl hit le L d _) (Lim.const _)) (L + 1) 0 s
theorem Lb.cmVerts_lim {ed : Nat → List Int → List Int × Int → Option (List Int × Int)} {ed' : List Int → List Int × Int → Option (List Int × Int)} (he : ∀ V s, Lim (fun j => ed j V s) (ed' V s)) (N H : Nat) : ∀ d s, Lim (fun j => Lb.cmVerts (ed j) N H d s) (Lb.cmVerts ed' N H d s)
  | 0, s => Lim.bind (he s.1 s.2) fun t => Lim.const _
  | d + 1, s => Lim.bind (Lb.rnd_lim (fun i s => Lb.cmVerts_lim he N H d _) H 0 s) fun s => Lim.const _
theorem Lb.cm_lim {ok : Nat → Lb.GrL → Option Bool} {ok' : Lb.GrL → Option Bool} {har : Nat → Lb.GrL × Lb.GrL × List Int × List Int → Option Bool} {har' : Lb.GrL × Lb.GrL × List Int × List Int → Option Bool} {mn mx : Nat → List Int → Option Int} {mn' mx' : List Int → Option Int}
    (ho : ∀ a, Lim (fun j => ok j a) (ok' a)) (hh : ∀ a, Lim (fun j => har j a) (har' a)) (hn : ∀ V, Lim (fun j => mn j V) (mn' V)) (hx : ∀ V, Lim (fun j => mx j V) (mx' V)) (a : Lb.GrL × Lb.GrL) :
    Lim (fun j => Lb.cm (fun x => ok j x) (fun x y z => har j (x, y, z)) (fun x => mn j x) (fun x => mx j x) a.1 a.2) (Lb.cm (fun x => ok' x) (fun x y z => har' (x, y, z)) (fun x => mn' x) (fun x => mx' x) a.1 a.2) :=
  Lim.bind (ho a.1) fun b => Lim.cond b (Lim.bind (ho a.2) fun c => Lim.cond c (Lim.cond _ (Lim.cond _ (Lim.bind (Lb.cmVerts_lim (fun V s => Lb.cmEdges_lim (fun E n => Lb.cmLeaf_lim (fun V E => hh (a.1, a.2, V, E)) hn hx V E n) _ _ _ _ s) _ _ _ _) fun s => Lim.const _) (Lim.const _)) (Lim.const _)) (Lim.const _)) (Lim.const _)
/-- numbers in a struct or an array, one behind the other -/
def Lb.toI : (t : Ty) → t.den → List Int
  | .int _, x => [x]
  | .one a, x => Lb.toI a x
  | .cons a b, x => Lb.toI a x.1 ++ Lb.toI b x.2
  | _, _ => []
def Lb.ofI : (t : Ty) → List Int → t.den
  | .int _, l => l.headD 0
  | .one a, l => Lb.ofI a l
  | .cons a b, l => (Lb.ofI a l, Lb.ofI b (l.drop a.size))
  | t, _ => t.dflt
/-- nothing but numbers -/
def Ty.nums : Ty → Bool
  | .int k => decide (k = .i64)
  | .one a => a.nums
  | .cons a b => a.nums && b.nums
  | _ => false
theorem Lb.toI_len : ∀ {t : Ty} {x : t.den}, t.nums = true → (Lb.toI t x).length = t.size
  | .int _, _, _ => rfl
  | .one a, x, h => Lb.toI_len (t := a) (x := x) h
  | .cons a b, x, h => by
    simp only [Ty.nums, Bool.and_eq_true] at h
    show (Lb.toI a x.1 ++ Lb.toI b x.2).length = a.size + b.size
    rw [List.length_append, Lb.toI_len h.1, Lb.toI_len h.2]
  | .bool, _, h => by cases h
  | .str, _, h => by cases h
  | .unit, _, h => by cases h
  | .sl _, _, h => by cases h
theorem Lb.toI_of : ∀ {t : Ty} {l : List Int}, t.nums = true → t.size ≤ l.length → Lb.toI t (Lb.ofI t l) = l.take t.size
  | .int _, l, _, h => by
    match l, h with
    | a :: r, _ => rfl
  | .one a, l, h, hl => Lb.toI_of (t := a) h hl
  | .cons a b, l, h, hl => by
    simp only [Ty.nums, Bool.and_eq_true] at h
    have hl' : a.size + b.size ≤ l.length := hl
    show Lb.toI a (Lb.ofI a l) ++ Lb.toI b (Lb.ofI b (l.drop a.size)) = l.take (a.size + b.size)
    rw [Lb.toI_of h.1 (by omega), Lb.toI_of h.2 (by rw [List.length_drop]; omega), List.take_add]
  | .bool, _, h, _ => by cases h
  | .str, _, h, _ => by cases h
  | .unit, _, h, _ => by cases h
  | .sl _, _, h, _ => by cases h
/-- a square of 16 times 16 numbers, row by row; another added to it, by so many rows down and places on -/
def Lb.addT (S T : List Int) (x y : Nat) : List Int := (List.range 256).map fun k => S.getD k 0 + if x ≤ k / 16 ∧ y ≤ k % 16 then T.getD ((k / 16 - x) * 16 + (k % 16 - y)) 0 else 0
/-- none of the numbers is large -/
def Lb.sqB (S : List Int) : Bool := S.all fun x => decide (-1000000000000 ≤ x) && decide (x ≤ 1000000000000)
def Lb.addTm (t : Ty) (S T : t.den) (x y : Int) : Option t.den :=
  cond (decide (0 ≤ x) && decide (x ≤ 1) && decide (0 ≤ y) && decide (y ≤ 1) && Lb.sqB (Lb.toI t S) && Lb.sqB (Lb.toI t T)) (some (Lb.ofI t (Lb.addT (Lb.toI t S) (Lb.toI t T) x.toNat y.toNat))) none
def Lb.sq0 : List Int := List.replicate 256 0
def Lb.sq1 : List Int := Lb.sq0.set 0 1
/-- b's name becomes a's -/
def Lb.mgE (a b : Int) (r : List (Int × Int)) : List (Int × Int) := r.map fun e => (if e.1 = b then a else e.1, if e.2 = b then a else e.2)
/-- the polynomial of some edges; jo: whether edges join two vertices -/
def Lb.tut (jo : List (Int × Int) → Int → Int → Option Bool) : Nat → List (Int × Int) → Option (List Int)
  | _, [] => some Lb.sq1
  | 0, _ :: _ => none
  | n + 1, e :: r => if e.1 = e.2 then (Lb.tut jo n r).bind fun T => some (Lb.addT Lb.sq0 T 0 1)
      else (jo r e.1 e.2).bind fun b => cond b ((Lb.tut jo n r).bind fun T => (Lb.tut jo n (Lb.mgE e.1 e.2 r)).bind fun U => some (Lb.addT (Lb.addT Lb.sq0 T 0 0) U 0 0))
        ((Lb.tut jo n (Lb.mgE e.1 e.2 r)).bind fun U => some (Lb.addT Lb.sq0 U 1 0))
/-- no zeros behind the last that is none -/
def Lb.trim (r : List Int) : List Int := (r.reverse.dropWhile fun x => decide (x = 0)).reverse
/-- the square's rows, each as it is told; none behind the last that is not empty -/
def Lb.rowsM (f : List Int → Option (List Int)) (T : List Int) : Nat → Nat → Option (List (List Int))
  | 0, _ => some []
  | m + 1, i => (f ((T.drop (i * 16)).take 16)).bind fun r => (Lb.rowsM f T m (i + 1)).bind fun l => some (r :: l)
def Lb.trimL (l : List (List Int)) : List (List Int) := (l.reverse.dropWhile fun x => x.isEmpty).reverse
def Lb.tutOf (t : Ty) (ok : Lb.GrL → Option Bool) (tu : List (Int × Int) → Option t.den) (tr cp : List Int → Option (List Int)) (g : Lb.GrL) : Option (List (List Int) × Bool) :=
  (ok g).bind fun b => cond b (cond (decide (g.2.length ≤ 9)) ((tu g.2).bind fun T => (Lb.rowsM (fun r => (tr r).bind cp) (Lb.toI t T) 16 0).bind fun l => some (Lb.trimL l, true)) (some ([], false))) (some ([], false))
theorem Lb.rowsM_lim {f : Nat → List Int → Option (List Int)} {f' : List Int → Option (List Int)} (h : ∀ r, Lim (fun j => f j r) (f' r)) (T : List Int) : ∀ m i, Lim (fun j => Lb.rowsM (f j) T m i) (Lb.rowsM f' T m i)
  | 0, _ => Lim.const _
  | m + 1, i => Lim.bind (h _) fun r => Lim.bind (Lb.rowsM_lim h T m (i + 1)) fun l => Lim.const _
theorem Lb.tutOf_lim {t : Ty} {ok : Nat → Lb.GrL → Option Bool} {ok' : Lb.GrL → Option Bool} {tu : Nat → List (Int × Int) → Option t.den} {tu' : List (Int × Int) → Option t.den} {tr cp : Nat → List Int → Option (List Int)} {tr' cp' : List Int → Option (List Int)}
    (ho : ∀ a, Lim (fun j => ok j a) (ok' a)) (ht : ∀ a, Lim (fun j => tu j a) (tu' a)) (hr : ∀ a, Lim (fun j => tr j a) (tr' a)) (hc : ∀ a, Lim (fun j => cp j a) (cp' a)) (a : Lb.GrL) :
    Lim (fun j => Lb.tutOf t (fun x => ok j x) (fun x => tu j x) (fun x => tr j x) (fun x => cp j x) a) (Lb.tutOf t (fun x => ok' x) (fun x => tu' x) (fun x => tr' x) (fun x => cp' x) a) :=
  Lim.bind (ho a) fun b => Lim.cond b (Lim.cond _ (Lim.bind (ht a.2) fun T => Lim.bind (Lb.rowsM_lim (fun r => Lim.bind (hr r) fun q => hc q) _ _ _) fun l => Lim.const _) (Lim.const _)) (Lim.const _)
/-- the rows that are not struck -/
def Lb.delR (c : List Int → Option Bool) : List (List Int) → Option (List (List Int))
  | [] => some []
  | d :: l => (c d).bind fun b => (Lb.delR c l).bind fun r => some (cond b r (d :: r))
def Lb.delRows {α β : Type} (c : List Int → α → β → Option Bool) (l : List (List Int)) (x : α) (y : β) : Option (List (List Int)) := if l.length ≤ 1099511627776 then Lb.delR (fun d => c d x y) l else none
theorem Lb.delR_lim {c : Nat → List Int → Option Bool} {c' : List Int → Option Bool} (h : ∀ d, Lim (fun j => c j d) (c' d)) : ∀ l, Lim (fun j => Lb.delR (c j) l) (Lb.delR c' l)
  | [] => Lim.const _
  | d :: l => Lim.bind (h d) fun b => Lim.bind (Lb.delR_lim h l) fun r => Lim.const _
theorem Lb.delRows_lim {α β : Type} {c : Nat → List Int × α × β → Option Bool} {c' : List Int × α × β → Option Bool} (h : ∀ a, Lim (fun j => c j a) (c' a)) (a : List (List Int) × α × β) :
    Lim (fun j => Lb.delRows (fun x y z => c j (x, y, z)) a.1 a.2.1 a.2.2) (Lb.delRows (fun x y z => c' (x, y, z)) a.1 a.2.1 a.2.2) := by
  by_cases k : a.1.length ≤ 1099511627776
  · simp only [Lb.delRows, if_pos k]
    exact Lb.delR_lim (fun d => h (d, a.2.1, a.2.2)) a.1
  · simp only [Lb.delRows, if_neg k]
    exact Lim.const _
/-- the trees that begin with these edges: edge by edge, the last d to choose from -/
def Lb.trLeaf (isT : List Int → Option Bool) (cp : List Int → Option (List Int)) (tree : List Int) (out : List (List Int)) : Option (List (List Int)) :=
  cond (decide (out.length ≤ 100000)) ((isT tree).bind fun b => cond b ((cp tree).bind fun c => some (out ++ [c])) (some out)) none
def Lb.trP (isT : List Int → Option Bool) (cp : List Int → Option (List Int)) (need m : Nat) : Nat → List Int → List (List Int) → Option (List (List Int))
  | 0, tree, out => if tree.length = need then Lb.trLeaf isT cp tree out else some out
  | d + 1, tree, out => if tree.length = need then Lb.trLeaf isT cp tree out else (Lb.trP isT cp need m d (tree ++ [((m - (d + 1) : Nat) : Int)]) out).bind fun o => Lb.trP isT cp need m d tree o
def Lb.treesOf (ok : Lb.GrL → Option Bool) (ct : Lb.GrL → Option Int) (isT : Lb.GrL → List Int → Option Bool) (cp : List Int → Option (List Int)) (g : Lb.GrL) : Option (List (List Int) × Bool) :=
  (ok g).bind fun b => cond b ((ct g).bind fun c => cond (decide (c > 400)) (some ([], false))
    (cond (decide (1 ≤ g.1) && decide (g.1 ≤ 6) && decide (g.2.length ≤ 12)) ((Lb.trP (fun t => isT g t) cp (g.1 - 1).toNat g.2.length g.2.length [] []).bind fun o => some (o, true)) none)) (some ([], false))
theorem Lb.trLeaf_lim {c : Nat → List Int → Option Bool} {c' : List Int → Option Bool} (h : ∀ t, Lim (fun j => c j t) (c' t)) {e : Nat → List Int → Option (List Int)} {e' : List Int → Option (List Int)} (he : ∀ t, Lim (fun j => e j t) (e' t)) (tree : List Int) (out : List (List Int)) :
    Lim (fun j => Lb.trLeaf (c j) (e j) tree out) (Lb.trLeaf c' e' tree out) :=
  Lim.cond _ (Lim.bind (h tree) fun b => Lim.cond b (Lim.bind (he tree) fun r => Lim.const _) (Lim.const _)) (Lim.const _)
theorem Lb.trP_lim {c : Nat → List Int → Option Bool} {c' : List Int → Option Bool} (h : ∀ t, Lim (fun j => c j t) (c' t)) {e : Nat → List Int → Option (List Int)} {e' : List Int → Option (List Int)} (he : ∀ t, Lim (fun j => e j t) (e' t)) (need m : Nat) :
    ∀ d tree out, Lim (fun j => Lb.trP (c j) (e j) need m d tree out) (Lb.trP c' e' need m d tree out)
  | 0, tree, out => by
    by_cases k : tree.length = need
    · simp only [Lb.trP, if_pos k]
      exact Lb.trLeaf_lim h he tree out
    · simp only [Lb.trP, if_neg k]
      exact Lim.const _
  | d + 1, tree, out => by
    by_cases k : tree.length = need
    · simp only [Lb.trP, if_pos k]
      exact Lb.trLeaf_lim h he tree out
    · simp only [Lb.trP, if_neg k]
      exact Lim.bind (Lb.trP_lim h he need m d _ _) fun o => Lb.trP_lim h he need m d _ _
theorem Lb.treesOf_lim {ok : Nat → Lb.GrL → Option Bool} {ok' : Lb.GrL → Option Bool} {ct : Nat → Lb.GrL → Option Int} {ct' : Lb.GrL → Option Int} {isT : Nat → Lb.GrL × List Int → Option Bool} {isT' : Lb.GrL × List Int → Option Bool} {cp : Nat → List Int → Option (List Int)} {cp' : List Int → Option (List Int)}
    (ho : ∀ a, Lim (fun j => ok j a) (ok' a)) (hc : ∀ a, Lim (fun j => ct j a) (ct' a)) (hi : ∀ a, Lim (fun j => isT j a) (isT' a)) (hp : ∀ a, Lim (fun j => cp j a) (cp' a)) (a : Lb.GrL) :
    Lim (fun j => Lb.treesOf (fun x => ok j x) (fun x => ct j x) (fun x y => isT j (x, y)) (fun x => cp j x) a) (Lb.treesOf (fun x => ok' x) (fun x => ct' x) (fun x y => isT' (x, y)) (fun x => cp' x) a) :=
  Lim.bind (ho a) fun b => Lim.cond b (Lim.bind (hc a) fun c => Lim.cond _ (Lim.const _) (Lim.cond _ (Lim.bind (Lb.trP_lim (fun t => hi (a, t)) hp _ _ _ _ _) fun o => Lim.const _) (Lim.const _))) (Lim.const _)
end Go.Den

/-
  Functions of Go's library, told plainly; what the evaluator tells of a function from elsewhere.
-/
import Derived.Test.YtgncajnfphlgeaaDnA
import Derived.Lib.ItoaNum
import Derived.Lib.Join
import Derived.Lib.AtoiAll
import Derived.Lib.IndexMore
import Derived.Lib.Bytealg
import Derived.Lib.Strings
namespace Go.Den
set_option linter.unusedVariables false
open Go
/-- a text as bytes -/
def lb (l : List UInt8) : ByteArray := ⟨l.toArray⟩
def bl (s : ByteArray) : List UInt8 := s.data.toList
def Lb.itoa (n : Int) : Option ByteArray := if -9223372036854775808 ≤ n ∧ n ≤ 9223372036854775807 then some (lb (Lib.itoa n)) else none
def Lb.join (l : List ByteArray) (sep : ByteArray) : Option ByteArray := if l.length ≤ 1099511627776 ∧ (Lib.join (l.map bl) (bl sep)).length ≤ 140737488355328 then some (lb (Lib.join (l.map bl) (bl sep))) else none
/-- a number's text read: only the one text of a number is taken -/
def pInt (s : ByteArray) : Int × Bool := match Lib.atoiAll (bl s) with
  | .ok v => if bl s = Lib.itoa v then (v, true) else (0, false)
  | _ => (0, false)
def Lb.pint (s : ByteArray) : Option (Int × Bool) := if s.size ≤ 281474976710656 then some (pInt s) else none
def Lb.indexByte (s : ByteArray) (c : Int) : Option Int := some (Lib.indexByte (bl s) c.toNat.toUInt8)
def Lb.cut (s sep : ByteArray) : Option (ByteArray × ByteArray × Bool) := if s.size < 4294967281 then some (lb (Lib.cut (bl s) (bl sep)).1, lb (Lib.cut (bl s) (bl sep)).2.1, (Lib.cut (bl s) (bl sep)).2.2) else none
def Lb.trimSuffix (s p : ByteArray) : Option ByteArray := if s.size ≤ 9223372036854775807 then some (lb (Lib.trimSuffix (bl s) (bl p))) else none
/-- rows of numbers, by their numbers: which comes first -/
def cmpL : List Int → List Int → Int
  | [], [] => 0
  | [], _ :: _ => -1
  | _ :: _, [] => 1
  | a :: l, b :: m => if a < b then -1 else if b < a then 1 else cmpL l m
def rowLe (a b : List Int) : Bool := decide (cmpL a b ≤ 0)
def Lb.sortRows (l : List (List Int)) : Option (List (List Int)) := if 0 < l.length ∧ l.length ≤ 1099511627776 ∧ (∀ r ∈ l, r.length ≤ 1048576) then some (l.mergeSort rowLe) else none
def Lb.sortInts (l : List Int) : Option (List Int) := if l.length ≤ 1099511627776 then some (l.mergeSort fun x y => decide (x ≤ y)) else none
/-- a row without its q-th number -/
def Lb.delAt (q : Nat) (r : List Int) : List Int := r.take q ++ r.drop (q + 1)
/-- the rows but the q-th, each without its q-th number -/
def Lb.redUp (q : Nat) (l : List (List Int)) (k : Nat) : List (List Int) := ((List.range k).filter fun j => j != q).map fun j => Lb.delAt q (l.getD j [])
def Lb.redOf (q : Int) (l : List (List Int)) : Option (List (List Int)) := if 0 < l.length ∧ l.length ≤ 1000000 ∧ 0 ≤ q ∧ q ≤ 1000000 ∧ (∀ r ∈ l, q < (r.length : Int)) then some (Lb.redUp q.toNat l l.length) else none
def Lb.redLap {α : Type} (f : α → Int → Option Bool) (h : α → Option (List (List Int))) (g : α) (q : Int) : Option (List (List Int)) := (f g q).bind fun b => cond b ((h g).bind (Lb.redOf q)) none
theorem Lb.redLap_lim {α : Type} {f : Nat → α × Int → Option Bool} {f' : α × Int → Option Bool} {h : Nat → α → Option (List (List Int))} {h' : α → Option (List (List Int))} (hf : ∀ a, Lim (fun j => f j a) (f' a)) (hh : ∀ a, Lim (fun j => h j a) (h' a)) (a : α × Int) :
    Lim (fun j => Lb.redLap (fun x y => f j (x, y)) (fun x => h j x) a.1 a.2) (Lb.redLap (fun x y => f' (x, y)) (fun x => h' x) a.1 a.2) :=
  Lim.bind (hf (a.1, a.2)) fun b => Lim.cond b (Lim.bind (hh a.1) fun l => Lim.const _) (Lim.const _)
/-- m rounds from i on -/
def Lb.rnd {σ : Type} (f : Nat → σ → Option σ) : Nat → Nat → σ → Option σ
  | 0, _, s => some s
  | m + 1, i, s => (f i s).bind fun s' => Lb.rnd f m (i + 1) s'
theorem Lb.rnd_lim {σ : Type} {f : Nat → Nat → σ → Option σ} {f' : Nat → σ → Option σ} (hf : ∀ i s, Lim (fun j => f j i s) (f' i s)) : ∀ m i s, Lim (fun j => Lb.rnd (f j) m i s) (Lb.rnd f' m i s)
  | 0, _, _ => Lim.const _
  | m + 1, i, s => Lim.bind (hf i s) fun s' => Lb.rnd_lim hf m (i + 1) s'
abbrev Lb.GrL := Int × List (Int × Int)
/-- whether an edge may have this image -/
def Lb.cmHit (g h : Lb.GrL) (V : List Int) (k : Nat) (im : Int) : Bool :=
  (decide (im = -1) && decide (V.getD (g.2.getD k (0, 0)).1.toNat 0 = V.getD (g.2.getD k (0, 0)).2.toNat 0)) ||
  (decide (0 ≤ im) && (decide ((h.2.getD im.toNat (0, 0)).1 = min (V.getD (g.2.getD k (0, 0)).1.toNat 0) (V.getD (g.2.getD k (0, 0)).2.toNat 0)) && decide ((h.2.getD im.toNat (0, 0)).2 = max (V.getD (g.2.getD k (0, 0)).1.toNat 0) (V.getD (g.2.getD k (0, 0)).2.toNat 0))))
/-- all images are given: one more if the map is harmonic and not constant -/
def Lb.cmLeaf (har : List Int → List Int → Option Bool) (mn mx : List Int → Option Int) (V E : List Int) (n : Int) : Option Int :=
  (har V E).bind fun b => cond b ((mn V).bind fun x => (mx V).bind fun y => cond (decide (x = y)) (some n) (cond (decide (n < 1000000)) (some (n + 1)) none)) (some n)
/-- the images of the last d edges, one behind the other -/
def Lb.cmEdges (leaf : List Int → Int → Option Int) (hit : Nat → Int → Bool) (le L : Nat) : Nat → List Int × Int → Option (List Int × Int)
  | 0, s => (leaf s.1 s.2).bind fun n => some (s.1, n)
  | d + 1, s => Lb.rnd (fun i s => cond (hit (le - (d + 1)) ((i : Int) - 1)) (Lb.cmEdges leaf hit le L d (s.1.set (le - (d + 1)) ((i : Int) - 1), s.2)) (some s)) (L + 1) 0 s
/-- the images of the last d vertices -/
def Lb.cmVerts (ed : List Int → List Int × Int → Option (List Int × Int)) (N H : Nat) : Nat → List Int × List Int × Int → Option (List Int × List Int × Int)
  | 0, s => (ed s.1 s.2).bind fun t => some (s.1, t)
  | d + 1, s => (Lb.rnd (fun i s => Lb.cmVerts ed N H d (s.1.set (N - (d + 1)) (i : Int), s.2)) H 0 s).bind fun s => some (s.1.set (N - (d + 1)) (H : Int), s.2)
/-- the numbers lie where they are looked up -/
def Lb.cmIn (g h : Lb.GrL) : Bool := decide (1 ≤ g.1) && decide (1 ≤ h.1) && g.2.all fun e => decide (0 ≤ e.1) && decide (e.1 < g.1) && decide (0 ≤ e.2) && decide (e.2 < g.1)
def Lb.cmAll (har : List Int → List Int → Option Bool) (mn mx : List Int → Option Int) (g h : Lb.GrL) : Option (List Int × List Int × Int) :=
  Lb.cmVerts (fun V => Lb.cmEdges (Lb.cmLeaf har mn mx V) (Lb.cmHit g h V) g.2.length h.2.length g.2.length) g.1.toNat h.1.toNat g.1.toNat (List.replicate g.1.toNat 0, List.replicate g.2.length 0, 0)
def Lb.cm (ok : Lb.GrL → Option Bool) (har : Lb.GrL → Lb.GrL → List Int × List Int → Option Bool) (mn mx : List Int → Option Int) (g h : Lb.GrL) : Option Int :=
  (ok g).bind fun b => cond b ((ok h).bind fun c => cond c (cond (decide (g.1 ≤ 4) && decide (g.2.length ≤ 5) && decide (h.1 ≤ 3) && decide (h.2.length ≤ 3)) (cond (Lb.cmIn g h) ((Lb.cmAll (fun V E => har g h (V, E)) mn mx g h).bind fun s => some s.2.2) none) (some (-1))) (some (-1))) (some (-1))
theorem Lb.cmLeaf_lim {har : Nat → List Int → List Int → Option Bool} {har' : List Int → List Int → Option Bool} {mn mx : Nat → List Int → Option Int} {mn' mx' : List Int → Option Int} (hh : ∀ V E, Lim (fun j => har j V E) (har' V E)) (hn : ∀ V, Lim (fun j => mn j V) (mn' V)) (hx : ∀ V, Lim (fun j => mx j V) (mx' V)) (V E : List Int) (n : Int) :
    Lim (fun j => Lb.cmLeaf (har j) (mn j) (mx j) V E n) (Lb.cmLeaf har' mn' mx' V E n) :=
  Lim.bind (hh V E) fun b => Lim.cond b (Lim.bind (hn V) fun x => Lim.bind (hx V) fun y => Lim.const _) (Lim.const _)
theorem Lb.cmEdges_lim {leaf : Nat → List Int → Int → Option Int} {leaf' : List Int → Int → Option Int} (hl : ∀ E n, Lim (fun j => leaf j E n) (leaf' E n)) (hit : Nat → Int → Bool) (le L : Nat) : ∀ d s, Lim (fun j => Lb.cmEdges (leaf j) hit le L d s) (Lb.cmEdges leaf' hit le L d s)
  | 0, s => Lim.bind (hl s.1 s.2) fun n => Lim.const _
  | d + 1, s => Lb.rnd_lim (fun i s => Lim.cond _ (Lb.cmEdges_lim hl hit le L d _) (Lim.const _)) (L + 1) 0 s
theorem Lb.cmVerts_lim {ed : Nat → List Int → List Int × Int → Option (List Int × Int)} {ed' : List Int → List Int × Int → Option (List Int × Int)} (he : ∀ V s, Lim (fun j => ed j V s) (ed' V s)) (N H : Nat) : ∀ d s, Lim (fun j => Lb.cmVerts (ed j) N H d s) (Lb.cmVerts ed' N H d s)
  | 0, s => Lim.bind (he s.1 s.2) fun t => Lim.const _
  | d + 1, s => Lim.bind (Lb.rnd_lim (fun i s => Lb.cmVerts_lim he N H d _) H 0 s) fun s => Lim.const _
theorem Lb.cm_lim {ok : Nat → Lb.GrL → Option Bool} {ok' : Lb.GrL → Option Bool} {har : Nat → Lb.GrL × Lb.GrL × List Int × List Int → Option Bool} {har' : Lb.GrL × Lb.GrL × List Int × List Int → Option Bool} {mn mx : Nat → List Int → Option Int} {mn' mx' : List Int → Option Int}
    (ho : ∀ a, Lim (fun j => ok j a) (ok' a)) (hh : ∀ a, Lim (fun j => har j a) (har' a)) (hn : ∀ V, Lim (fun j => mn j V) (mn' V)) (hx : ∀ V, Lim (fun j => mx j V) (mx' V)) (a : Lb.GrL × Lb.GrL) :
    Lim (fun j => Lb.cm (fun x => ok j x) (fun x y z => har j (x, y, z)) (fun x => mn j x) (fun x => mx j x) a.1 a.2) (Lb.cm (fun x => ok' x) (fun x y z => har' (x, y, z)) (fun x => mn' x) (fun x => mx' x) a.1 a.2) :=
  Lim.bind (ho a.1) fun b => Lim.cond b (Lim.bind (ho a.2) fun c => Lim.cond c (Lim.cond _ (Lim.cond _ (Lim.bind (Lb.cmVerts_lim (fun V s => Lb.cmEdges_lim (fun E n => Lb.cmLeaf_lim (fun V E => hh (a.1, a.2, V, E)) hn hx V E n) _ _ _ _ s) _ _ _ _) fun s => Lim.const _) (Lim.const _)) (Lim.const _)) (Lim.const _)) (Lim.const _)
end Go.Den

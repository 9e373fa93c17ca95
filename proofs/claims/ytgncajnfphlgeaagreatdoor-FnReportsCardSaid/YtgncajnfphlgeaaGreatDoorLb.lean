/-
  Functions of Go's library, told plainly; what the evaluator tells of a function from elsewhere.
-/
import Derived.Test.YtgncajnfphlgeaaGreatDoorDnA
import Derived.Lib.ItoaNum
import Derived.Lib.Join
import Derived.Lib.AtoiAll
import Derived.Lib.IndexMore
import Derived.Lib.Bytealg
import Derived.Lib.Strings
namespace Go.Den
open Go
/-- a text as bytes -/
def lb (l : List UInt8) : ByteArray := ⟨l.toArray⟩
def bl (s : ByteArray) : List UInt8 := s.data.toList
def Lb.itoa (n : Int) : Option ByteArray := if -9223372036854775808 ≤ n ∧ n ≤ 9223372036854775807 then some (lb (Lib.itoa n)) else none
def Lb.join (l : List ByteArray) (sep : ByteArray) : Option ByteArray := if l.length ≤ 1099511627776 ∧ (Lib.join (l.map bl) (bl sep)).length ≤ 140737488355328 then some (lb (Lib.join (l.map bl) (bl sep))) else none
/-- a number's text read: only the one text of a number is taken -/
def pInt (s : ByteArray) : Int × Bool := match Lib.atoiAll (bl s) with
  | .ok v => if bl s = Lib.itoa v then (v, true) else (0, false)
  | _ => (0, false)
def Lb.pint (s : ByteArray) : Option (Int × Bool) := if s.size ≤ 281474976710656 then some (pInt s) else none
def Lb.indexByte (s : ByteArray) (c : Int) : Option Int := some (Lib.indexByte (bl s) c.toNat.toUInt8)
def Lb.cut (s sep : ByteArray) : Option (ByteArray × ByteArray × Bool) := if s.size < 4294967281 then some (lb (Lib.cut (bl s) (bl sep)).1, lb (Lib.cut (bl s) (bl sep)).2.1, (Lib.cut (bl s) (bl sep)).2.2) else none
def Lb.trimSuffix (s p : ByteArray) : Option ByteArray := if s.size ≤ 9223372036854775807 then some (lb (Lib.trimSuffix (bl s) (bl p))) else none
/-- rows of numbers, by their numbers: which comes first -/
def cmpL : List Int → List Int → Int
  | [], [] => 0
  | [], _ :: _ => -1
  | _ :: _, [] => 1
  | a :: l, b :: m => if a < b then -1 else if b < a then 1 else cmpL l m
def rowLe (a b : List Int) : Bool := decide (cmpL a b ≤ 0)
def Lb.sortRows (l : List (List Int)) : Option (List (List Int)) := if 0 < l.length ∧ l.length ≤ 1099511627776 ∧ (∀ r ∈ l, r.length ≤ 1048576) then some (l.mergeSort rowLe) else none
def Lb.sortInts (l : List Int) : Option (List Int) := if l.length ≤ 1099511627776 then some (l.mergeSort fun x y => decide (x ≤ y)) else none
/-- a row without its q-th number -/
def Lb.delAt (q : Nat) (r : List Int) : List Int := r.take q ++ r.drop (q + 1)
/-- the rows but the q-th, each without its q-th number -/
def Lb.redUp (q : Nat) (l : List (List Int)) (k : Nat) : List (List Int) := ((List.range k).filter fun j => j != q).map fun j => Lb.delAt q (l.getD j [])
def Lb.redOf (q : Int) (l : List (List Int)) : Option (List (List Int)) := if 0 < l.length ∧ l.length ≤ 1000000 ∧ 0 ≤ q ∧ q ≤ 1000000 ∧ (∀ r ∈ l, q < (r.length : Int)) then some (Lb.redUp q.toNat l l.length) else none
def Lb.redLap {α : Type} (f : α → Int → Option Bool) (h : α → Option (List (List Int))) (g : α) (q : Int) : Option (List (List Int)) := (f g q).bind fun b => cond b ((h g).bind (Lb.redOf q)) none
theorem Lb.redLap_lim {α : Type} {f : Nat → α × Int → Option Bool} {f' : α × Int → Option Bool} {h : Nat → α → Option (List (List Int))} {h' : α → Option (List (List Int))} (hf : ∀ a, Lim (fun j => f j a) (f' a)) (hh : ∀ a, Lim (fun j => h j a) (h' a)) (a : α × Int) :
    Lim (fun j => Lb.redLap (fun x y => f j (x, y)) (fun x => h j x) a.1 a.2) (Lb.redLap (fun x y => f' (x, y)) (fun x => h' x) a.1 a.2) :=
  Lim.bind (hf (a.1, a.2)) fun b => Lim.cond b (Lim.bind (hh a.1) fun l => Lim.const _) (Lim.const _)
end Go.Den

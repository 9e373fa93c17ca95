/-
  Functions of Go's library, told plainly; what the evaluator tells of a function from elsewhere.
-/
import Derived.Test.YtaapeofhcopajaaDoorDnA
import Derived.Lib.ItoaNum
import Derived.Lib.Join
namespace Go.Den
open Go
theorem den_ext (Γ : Ctx) (X : Ext Γ) (n : Nat) (h : X.has n = true) (a : (prodTy (Γ.insL n)).den) : den Γ X n a = X.f n a := by
  have h1 : ∀ k, denN Γ X (k + 1) n a = X.f n a := fun k => by simp only [denN, h, if_true]
  apply Option.ext
  intro r
  show lub (fun k => denN Γ X k n a) = some r ↔ _
  rw [lub_eq (c := fun k => denN Γ X k n a) fun j r hj => ?_]
  · constructor
    · rintro ⟨j, hj⟩
      cases j with
      | zero => cases hj
      | succ j => simp only [h1] at hj; exact hj
    · exact fun hr => ⟨1, by simp only [h1]; exact hr⟩
  · cases j with
    | zero => cases hj
    | succ j => simp only [h1] at hj ⊢; exact hj
/-- a text as bytes -/
def lb (l : List UInt8) : ByteArray := ⟨l.toArray⟩
def bl (s : ByteArray) : List UInt8 := s.data.toList
def Lb.itoa (n : Int) : Option ByteArray := if -9223372036854775808 ≤ n ∧ n ≤ 9223372036854775807 then some (lb (Lib.itoa n)) else none
def Lb.join (l : List ByteArray) (sep : ByteArray) : Option ByteArray := if l.length ≤ 1099511627776 ∧ (Lib.join (l.map bl) (bl sep)).length ≤ 140737488355328 then some (lb (Lib.join (l.map bl) (bl sep))) else none
end Go.Den

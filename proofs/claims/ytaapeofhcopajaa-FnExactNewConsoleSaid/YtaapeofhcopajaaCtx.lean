/-
  What the evaluator is told of this program: its types, the functions that the laws reach; each function as a plain Lean function.
-/
import Derived.Test.YtaapeofhcopajaaProg
import Derived.Test.YtaapeofhcopajaaDnA
import Derived.KernelRfl
namespace Go.Proofs.Ytaapeofhcopajaa.D
open Go Go.Den
set_option linter.unusedVariables false
set_option maxRecDepth 100000
def tys : List (Option TInfo) := [
  none,
  none,
  some ⟨(.int .i64), [], false⟩,
  some ⟨(.int .i64), [], false⟩,
  some ⟨.bool, [], false⟩,
  some ⟨(.int .u8), [], false⟩,
  some ⟨(.int .u8), [], false⟩,
  some ⟨(.cons (.int .i64) (.cons (.int .i64) (.cons .bool (.int .u8)))), [([.l], (.int .i64)), ([.r, .l], (.int .i64)), ([.r, .r, .l], .bool), ([.r, .r, .r], (.int .u8))], true⟩,
  some ⟨(.cons (.int .i64) (.cons (.int .i64) (.cons .bool (.int .u8)))), [([.l], (.int .i64)), ([.r, .l], (.int .i64)), ([.r, .r, .l], .bool), ([.r, .r, .r], (.int .u8))], true⟩,
  some ⟨.str, [], false⟩,
  some ⟨.str, [], false⟩,
  some ⟨.str, [], false⟩,
  some ⟨(.int .u64), [], false⟩,
  some ⟨(.cons .str (.int .u64)), [([.l], .str), ([.r], (.int .u64))], false⟩,
  some ⟨(.cons .str (.int .u64)), [([.l], .str), ([.r], (.int .u64))], false⟩,
  none,
  none,
  none,
  none,
  none,
  none,
  some ⟨(.int .i32), [], false⟩,
  some ⟨(.sl (.cons (.int .i64) (.int .i64))), [], false⟩,
  some ⟨(.cons (.int .i64) (.sl (.cons (.int .i64) (.int .i64)))), [([.l], (.int .i64)), ([.r], (.sl (.cons (.int .i64) (.int .i64))))], false⟩,
  some ⟨(.cons (.int .i64) (.sl (.cons (.int .i64) (.int .i64)))), [([.l], (.int .i64)), ([.r], (.sl (.cons (.int .i64) (.int .i64))))], false⟩,
  some ⟨(.sl (.int .i64)), [], false⟩,
  some ⟨(.cons (.cons (.int .i64) (.sl (.cons (.int .i64) (.int .i64)))) (.cons (.sl (.int .i64)) (.int .i64))), [([.l], (.cons (.int .i64) (.sl (.cons (.int .i64) (.int .i64))))), ([.r, .l], (.sl (.int .i64))), ([.r, .r], (.int .i64))], false⟩,
  some ⟨(.cons (.cons (.int .i64) (.sl (.cons (.int .i64) (.int .i64)))) (.cons (.sl (.int .i64)) (.int .i64))), [([.l], (.cons (.int .i64) (.sl (.cons (.int .i64) (.int .i64))))), ([.r, .l], (.sl (.int .i64))), ([.r, .r], (.int .i64))], false⟩,
  none,
  none,
  none,
  none,
  none,
  none,
  none,
  none,
  none,
  none,
  none,
  some ⟨(.cons (.int .i64) (.int .i64)), [([.l], (.int .i64)), ([.r], (.int .i64))], true⟩,
  some ⟨(.cons (.int .i64) (.int .i64)), [([.l], (.int .i64)), ([.r], (.int .i64))], true⟩,
  none,
  none,
  none,
  none,
  none,
  none,
  none,
  some ⟨(.int .u32), [], false⟩,
  some ⟨(.int .u8), [], false⟩,
  some ⟨(.int .u8), [], false⟩,
  none,
  none,
  some ⟨(.int .i32), [], false⟩,
  some ⟨(.int .i32), [], false⟩,
  none,
  none,
  none]
noncomputable def s0 : Sig := ⟨4, Go.Proofs.Try.f4, [], [.val (.cons (.cons (.int .i64) (.sl (.cons (.int .i64) (.int .i64)))) (.cons (.sl (.int .i64)) (.int .i64))) (.pr (.pr (.sh false) (.own (.pr (.sh false) (.sh false)))) (.pr (.own (.sh false)) (.sh false)))], false, [], []⟩
noncomputable def s1 : Sig := ⟨5, Go.Proofs.Try.f5, [], [.val (.cons (.cons (.int .i64) (.sl (.cons (.int .i64) (.int .i64)))) (.cons (.sl (.int .i64)) (.int .i64))) (.pr (.pr (.sh false) (.own (.pr (.sh false) (.sh false)))) (.pr (.own (.sh false)) (.sh false)))], false, [], []⟩
noncomputable def s2 : Sig := ⟨18, Go.Proofs.Try.f18, [.val (.cons (.int .i64) (.int .i64)), .val (.cons (.int .i64) (.int .i64))], [.val .bool (.sh false)], false, [], []⟩
noncomputable def s3 : Sig := ⟨15, Go.Proofs.Try.f15, [.val (.sl (.cons (.int .i64) (.int .i64))), .val (.sl (.cons (.int .i64) (.int .i64)))], [.val .bool (.sh false)], false, [(0, [(0, .val .reg (.sl (.cons (.int .i64) (.int .i64))) (.sh true)), (1, .val .reg (.sl (.cons (.int .i64) (.int .i64))) (.sh true)), (5, .val .reg (.int .i64) (.sh false))])], []⟩
noncomputable def s4 : Sig := ⟨9, Go.Proofs.Try.f9, [.val (.cons (.int .i64) (.sl (.cons (.int .i64) (.int .i64)))), .val (.cons (.int .i64) (.sl (.cons (.int .i64) (.int .i64))))], [.val .bool (.sh false)], false, [], []⟩
noncomputable def s5 : Sig := ⟨10, Go.Proofs.Try.f10, [.val (.sl (.int .i64)), .val (.sl (.int .i64))], [.val .bool (.sh false)], false, [(0, [(0, .val .reg (.sl (.int .i64)) (.sh true)), (1, .val .reg (.sl (.int .i64)) (.sh true)), (5, .val .reg (.int .i64) (.sh false))])], []⟩
noncomputable def s6 : Sig := ⟨6, Go.Proofs.Try.f6, [.val (.cons (.cons (.int .i64) (.sl (.cons (.int .i64) (.int .i64)))) (.cons (.sl (.int .i64)) (.int .i64))), .val (.cons (.cons (.int .i64) (.sl (.cons (.int .i64) (.int .i64)))) (.cons (.sl (.int .i64)) (.int .i64)))], [.val .bool (.sh false)], false, [], []⟩
noncomputable def s7 : Sig := ⟨16, Go.Proofs.Try.f16, [.io (.sl (.cons (.int .i64) (.int .i64))) (.own (.pr (.sh false) (.sh false))), .val (.int .i64)], [.val (.int .i64) (.sh false)], false, [(0, [(0, .val .reg (.sl (.cons (.int .i64) (.int .i64))) (.own (.pr (.sh false) (.sh false)))), (1, .val .reg (.int .i64) (.sh false)), (5, .val .reg (.int .i64) (.sh false))])], []⟩
noncomputable def s8 : Sig := ⟨11, Go.Proofs.Try.f11, [.io (.cons (.int .i64) (.sl (.cons (.int .i64) (.int .i64)))) (.pr (.sh false) (.own (.pr (.sh false) (.sh false)))), .val (.int .i64)], [.val (.int .i64) (.sh false)], false, [], []⟩
noncomputable def s9 : Sig := ⟨12, Go.Proofs.Try.f12, [.io (.sl (.int .i64)) (.own (.sh false)), .val (.int .i64)], [.val (.int .i64) (.sh false)], false, [(0, [(0, .val .reg (.sl (.int .i64)) (.own (.sh false))), (1, .val .reg (.int .i64) (.sh false)), (5, .val .reg (.int .i64) (.sh false))])], []⟩
noncomputable def s10 : Sig := ⟨7, Go.Proofs.Try.f7, [.io (.cons (.cons (.int .i64) (.sl (.cons (.int .i64) (.int .i64)))) (.cons (.sl (.int .i64)) (.int .i64))) (.pr (.pr (.sh false) (.own (.pr (.sh false) (.sh false)))) (.pr (.own (.sh false)) (.sh false))), .val (.int .i64)], [.val (.int .i64) (.sh false)], false, [], []⟩
noncomputable def s11 : Sig := ⟨17, Go.Proofs.Try.f17, [.val (.sl (.cons (.int .i64) (.int .i64))), .val (.int .i64)], [.val (.int .i64) (.sh false)], false, [(0, [(0, .val .reg (.sl (.cons (.int .i64) (.int .i64))) (.sh true)), (1, .val .reg (.int .i64) (.sh false)), (5, .val .reg (.int .i64) (.sh false))])], []⟩
noncomputable def s12 : Sig := ⟨13, Go.Proofs.Try.f13, [.val (.cons (.int .i64) (.sl (.cons (.int .i64) (.int .i64)))), .val (.int .i64)], [.val (.int .i64) (.sh false)], false, [], []⟩
noncomputable def s13 : Sig := ⟨14, Go.Proofs.Try.f14, [.val (.sl (.int .i64)), .val (.int .i64)], [.val (.int .i64) (.sh false)], false, [(0, [(0, .val .reg (.sl (.int .i64)) (.sh true)), (1, .val .reg (.int .i64) (.sh false)), (5, .val .reg (.int .i64) (.sh false))])], []⟩
noncomputable def s14 : Sig := ⟨8, Go.Proofs.Try.f8, [.val (.cons (.cons (.int .i64) (.sl (.cons (.int .i64) (.int .i64)))) (.cons (.sl (.int .i64)) (.int .i64))), .val (.int .i64)], [.val (.int .i64) (.sh false)], false, [], []⟩
noncomputable def s15 : Sig := ⟨3, Go.Proofs.Try.f3, [], [.val .bool (.sh false)], false, [], []⟩
noncomputable def sigs : List Sig := [s0, s1, s2, s3, s4, s5, s6, s7, s8, s9, s10, s11, s12, s13, s14, s15]
noncomputable def Γ : Ctx := ⟨tys, sigs⟩
noncomputable def X : Ext Γ := ⟨fun _ => false, fun _ _ => none⟩
noncomputable def spec_NewConsole : Option ((Int × (List (Int × Int))) × ((List Int) × Int)) := den Γ X 0 ()
noncomputable def impl_NewConsole : Option ((Int × (List (Int × Int))) × ((List Int) × Int)) := den Γ X 1 ()
noncomputable def laws_eqEdge (a0 : (Int × Int)) (a1 : (Int × Int)) : Option Bool := den Γ X 2 (a0, a1)
noncomputable def laws_eqEdgeS (a0 : (List (Int × Int))) (a1 : (List (Int × Int))) : Option Bool := den Γ X 3 (a0, a1)
noncomputable def laws_eqEdgeS_l0 (x0 : (List (Int × Int))) (x1 : (List (Int × Int))) (x5 : Int) : Option Bool := atF Γ (den Γ X) 3 [1, 1, 0, 1, 0] [(0, ⟨0, 0, 0, .val .reg (.sl (.cons (.int .i64) (.int .i64))) (.sh true) x0⟩), (1, ⟨0, 0, 0, .val .reg (.sl (.cons (.int .i64) (.int .i64))) (.sh true) x1⟩), (5, ⟨0, 0, 0, .val .reg (.int .i64) (.sh false) x5⟩)]
noncomputable def laws_eqGraph (a0 : (Int × (List (Int × Int)))) (a1 : (Int × (List (Int × Int)))) : Option Bool := den Γ X 4 (a0, a1)
noncomputable def laws_eqIntS (a0 : (List Int)) (a1 : (List Int)) : Option Bool := den Γ X 5 (a0, a1)
noncomputable def laws_eqIntS_l0 (x0 : (List Int)) (x1 : (List Int)) (x5 : Int) : Option Bool := atF Γ (den Γ X) 5 [1, 1, 0, 1, 0] [(0, ⟨0, 0, 0, .val .reg (.sl (.int .i64)) (.sh true) x0⟩), (1, ⟨0, 0, 0, .val .reg (.sl (.int .i64)) (.sh true) x1⟩), (5, ⟨0, 0, 0, .val .reg (.int .i64) (.sh false) x5⟩)]
noncomputable def laws_eqConsole (a0 : ((Int × (List (Int × Int))) × ((List Int) × Int))) (a1 : ((Int × (List (Int × Int))) × ((List Int) × Int))) : Option Bool := den Γ X 6 (a0, a1)
noncomputable def laws_markEdgeS (a0 : (List (Int × Int))) (a1 : Int) : Option (Int × (List (Int × Int))) := den Γ X 7 (a0, a1)
noncomputable def laws_markEdgeS_l0 (x0 : (List (Int × Int))) (x1 : Int) (x5 : Int) : Option (Int × (List (Int × Int))) := atF Γ (den Γ X) 7 [1, 0, 1, 0] [(0, ⟨0, 0, 0, .val .reg (.sl (.cons (.int .i64) (.int .i64))) (.own (.pr (.sh false) (.sh false))) x0⟩), (1, ⟨0, 0, 0, .val .reg (.int .i64) (.sh false) x1⟩), (5, ⟨0, 0, 0, .val .reg (.int .i64) (.sh false) x5⟩)]
noncomputable def laws_markGraph (a0 : (Int × (List (Int × Int)))) (a1 : Int) : Option (Int × (Int × (List (Int × Int)))) := den Γ X 8 (a0, a1)
noncomputable def laws_markIntS (a0 : (List Int)) (a1 : Int) : Option (Int × (List Int)) := den Γ X 9 (a0, a1)
noncomputable def laws_markIntS_l0 (x0 : (List Int)) (x1 : Int) (x5 : Int) : Option (Int × (List Int)) := atF Γ (den Γ X) 9 [1, 0, 1, 0] [(0, ⟨0, 0, 0, .val .reg (.sl (.int .i64)) (.own (.sh false)) x0⟩), (1, ⟨0, 0, 0, .val .reg (.int .i64) (.sh false) x1⟩), (5, ⟨0, 0, 0, .val .reg (.int .i64) (.sh false) x5⟩)]
noncomputable def laws_markConsole (a0 : ((Int × (List (Int × Int))) × ((List Int) × Int))) (a1 : Int) : Option (Int × ((Int × (List (Int × Int))) × ((List Int) × Int))) := den Γ X 10 (a0, a1)
noncomputable def laws_heldEdgeS (a0 : (List (Int × Int))) (a1 : Int) : Option Int := den Γ X 11 (a0, a1)
noncomputable def laws_heldEdgeS_l0 (x0 : (List (Int × Int))) (x1 : Int) (x5 : Int) : Option Int := atF Γ (den Γ X) 11 [1, 0, 1, 0] [(0, ⟨0, 0, 0, .val .reg (.sl (.cons (.int .i64) (.int .i64))) (.sh true) x0⟩), (1, ⟨0, 0, 0, .val .reg (.int .i64) (.sh false) x1⟩), (5, ⟨0, 0, 0, .val .reg (.int .i64) (.sh false) x5⟩)]
noncomputable def laws_heldGraph (a0 : (Int × (List (Int × Int)))) (a1 : Int) : Option Int := den Γ X 12 (a0, a1)
noncomputable def laws_heldIntS (a0 : (List Int)) (a1 : Int) : Option Int := den Γ X 13 (a0, a1)
noncomputable def laws_heldIntS_l0 (x0 : (List Int)) (x1 : Int) (x5 : Int) : Option Int := atF Γ (den Γ X) 13 [1, 0, 1, 0] [(0, ⟨0, 0, 0, .val .reg (.sl (.int .i64)) (.sh true) x0⟩), (1, ⟨0, 0, 0, .val .reg (.int .i64) (.sh false) x1⟩), (5, ⟨0, 0, 0, .val .reg (.int .i64) (.sh false) x5⟩)]
noncomputable def laws_heldConsole (a0 : ((Int × (List (Int × Int))) × ((List Int) × Int))) (a1 : Int) : Option Int := den Γ X 14 (a0, a1)
noncomputable def laws_FnExactNewConsole : Option Bool := den Γ X 15 ()
end Go.Proofs.Ytaapeofhcopajaa.D

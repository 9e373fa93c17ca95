/-
  What the evaluator is told of this program: its types, the functions that the laws reach; each function as a plain Lean function.
-/
import Derived.Test.YtkedbhndiokegaaDoorProg
import Derived.Test.YtkedbhndiokegaaDoorLb
import Derived.KernelRfl
namespace Go.Proofs.YtkedbhndiokegaaDoor.D
open Go Go.Den
set_option linter.unusedVariables false
set_option maxRecDepth 100000
def tys : List (Option TInfo) := [
  none,
  none,
  some ⟨(.int .i64), [], false⟩,
  some ⟨(.int .i64), [], false⟩,
  some ⟨.bool, [], false⟩,
  some ⟨(.int .u8), [], false⟩,
  some ⟨(.int .u8), [], false⟩,
  some ⟨(.cons (.int .i64) (.cons (.int .i64) (.cons .bool (.int .u8)))), [([.l], (.int .i64)), ([.r, .l], (.int .i64)), ([.r, .r, .l], .bool), ([.r, .r, .r], (.int .u8))], true⟩,
  some ⟨(.cons (.int .i64) (.cons (.int .i64) (.cons .bool (.int .u8)))), [([.l], (.int .i64)), ([.r, .l], (.int .i64)), ([.r, .r, .l], .bool), ([.r, .r, .r], (.int .u8))], true⟩,
  some ⟨.str, [], false⟩,
  some ⟨.str, [], false⟩,
  some ⟨.str, [], false⟩,
  some ⟨(.int .u64), [], false⟩,
  some ⟨(.cons .str (.int .u64)), [([.l], .str), ([.r], (.int .u64))], false⟩,
  some ⟨(.cons .str (.int .u64)), [([.l], .str), ([.r], (.int .u64))], false⟩,
  none,
  none,
  none,
  none,
  none,
  none,
  some ⟨(.int .i32), [], false⟩,
  some ⟨(.sl (.cons (.int .i64) (.int .i64))), [], false⟩,
  some ⟨(.cons (.int .i64) (.sl (.cons (.int .i64) (.int .i64)))), [([.l], (.int .i64)), ([.r], (.sl (.cons (.int .i64) (.int .i64))))], false⟩,
  some ⟨(.cons (.int .i64) (.sl (.cons (.int .i64) (.int .i64)))), [([.l], (.int .i64)), ([.r], (.sl (.cons (.int .i64) (.int .i64))))], false⟩,
  none,
  none,
  some ⟨(.sl (.cons (.int .i64) (.int .i64))), [], false⟩,
  some ⟨(.cons (.int .i64) (.sl (.cons (.int .i64) (.int .i64)))), [([.l], (.int .i64)), ([.r], (.sl (.cons (.int .i64) (.int .i64))))], false⟩,
  some ⟨(.cons (.int .i64) (.sl (.cons (.int .i64) (.int .i64)))), [([.l], (.int .i64)), ([.r], (.sl (.cons (.int .i64) (.int .i64))))], false⟩,
  none,
  none,
  none,
  none,
  none,
  none,
  none,
  none,
  none,
  none,
  some ⟨(.cons (.int .i64) (.int .i64)), [([.l], (.int .i64)), ([.r], (.int .i64))], true⟩,
  some ⟨(.cons (.int .i64) (.int .i64)), [([.l], (.int .i64)), ([.r], (.int .i64))], true⟩,
  none,
  none,
  some ⟨(.sl .str), [], false⟩,
  none,
  none,
  none,
  some ⟨(.sl (.int .i64)), [], false⟩,
  none,
  none,
  none,
  none,
  none,
  none,
  none,
  some ⟨(.sl (.int .u8)), [], false⟩,
  none,
  some ⟨(.cons (.int .i64) (.int .i64)), [([.l], (.int .i64)), ([.r], (.int .i64))], true⟩,
  none,
  none,
  none,
  none,
  none,
  none,
  none,
  none,
  none,
  none,
  none,
  none,
  none,
  none,
  none,
  none,
  none,
  some ⟨(.int .i64), [], false⟩,
  none,
  none,
  none,
  none,
  none,
  none,
  some ⟨(.int .u64), [], false⟩,
  none,
  some ⟨(.int .u64), [], false⟩,
  none,
  none,
  none,
  none,
  none,
  none,
  none,
  none,
  none,
  none,
  some ⟨(.int .u32), [], false⟩,
  none,
  none,
  none,
  none,
  none,
  none,
  none,
  none,
  none,
  some ⟨(.one .str), [([.l], .str)], false⟩,
  some ⟨(.one .str), [([.l], .str)], false⟩,
  none,
  none,
  none,
  none,
  none,
  none,
  none,
  none,
  none,
  none,
  some ⟨(.int .u8), [], false⟩,
  some ⟨(.int .u8), [], false⟩,
  none,
  some ⟨(.int .i32), [], false⟩,
  some ⟨(.int .i32), [], false⟩,
  none,
  none,
  none]
noncomputable def s0 : Sig := ⟨14, Go.Proofs.Tryd.f14, [.val (.sl (.cons (.int .i64) (.int .i64))), .val (.int .i64)], [.val (.int .i64) (.sh false)], false, [], []⟩
noncomputable def s1 : Sig := ⟨5, Go.Proofs.Tryd.f5, [.val (.cons (.int .i64) (.sl (.cons (.int .i64) (.int .i64)))), .val (.int .i64)], [.val (.int .i64) (.sh false)], false, [], []⟩
noncomputable def s2 : Sig := ⟨32, Go.Proofs.Tryd.f32, [.val (.cons (.int .i64) (.int .i64))], [.val (.cons (.int .i64) (.int .i64)) (.pr (.sh false) (.sh false))], false, [], []⟩
noncomputable def s3 : Sig := ⟨17, Go.Proofs.Tryd.f17, [.val (.sl (.cons (.int .i64) (.int .i64)))], [.val (.sl (.cons (.int .i64) (.int .i64))) (.own (.pr (.sh false) (.sh false)))], false, [(0, [(0, .val .reg (.sl (.cons (.int .i64) (.int .i64))) (.sh true)), (3, .val .reg (.sl (.cons (.int .i64) (.int .i64))) (.own (.pr (.sh false) (.sh false)))), (4, .val .reg (.int .i64) (.sh false))])], []⟩
noncomputable def s4 : Sig := ⟨7, Go.Proofs.Tryd.f7, [.val (.cons (.int .i64) (.sl (.cons (.int .i64) (.int .i64))))], [.val (.cons (.int .i64) (.sl (.cons (.int .i64) (.int .i64)))) (.pr (.sh false) (.own (.pr (.sh false) (.sh false))))], false, [], []⟩
noncomputable def s5 : Sig := ⟨44, Go.Proofs.Tryd.f44, [.val (.int .i64), .val (.int .i64), .val (.int .i64)], [.val .bool (.sh false)], false, [], []⟩
noncomputable def s6 : Sig := ⟨30, Go.Proofs.Tryd.f30, [.val (.cons (.int .i64) (.sl (.cons (.int .i64) (.int .i64))))], [.val .bool (.sh false)], false, [(0, [(1, .val .box (.cons (.int .i64) (.sl (.cons (.int .i64) (.int .i64)))) (.sh true)), (16, .val .reg (.sl (.cons (.int .i64) (.int .i64))) (.sh true)), (17, .val .reg (.int .i64) (.sh false)), (18, .val .reg (.int .i64) (.sh false))])], []⟩
noncomputable def s7 : Sig := ⟨45, Go.Proofs.Tryd.f45, [.val (.sl (.int .i64)), .val (.int .i64)], [.val .bool (.sh false)], false, [(0, [(1, .val .reg (.int .i64) (.sh false)), (7, .val .reg (.sl (.int .i64)) (.sh true)), (8, .val .reg (.int .i64) (.sh false)), (9, .val .reg (.int .i64) (.sh false))])], []⟩
noncomputable def s8 : Sig := ⟨31, Go.Proofs.Tryd.f31, [.val (.cons (.int .i64) (.sl (.cons (.int .i64) (.int .i64))))], [.val (.sl (.int .i64)) (.own (.sh false))], false, [(0, [(1, .val .box (.cons (.int .i64) (.sl (.cons (.int .i64) (.int .i64)))) (.sh true)), (3, .val .reg (.sl (.int .i64)) (.own (.sh false))), (4, .val .reg (.int .i64) (.sh false))]), (2, [(1, .val .box (.cons (.int .i64) (.sl (.cons (.int .i64) (.int .i64)))) (.sh true)), (3, .val .reg (.sl (.int .i64)) (.own (.sh false))), (4, .val .reg (.int .i64) (.sh false)), (15, .val .reg (.sl (.cons (.int .i64) (.int .i64))) (.sh true)), (16, .val .reg (.int .i64) (.sh false)), (17, .val .reg (.int .i64) (.sh false))]), (100011, [(1, .val .box (.cons (.int .i64) (.sl (.cons (.int .i64) (.int .i64)))) (.sh true)), (3, .val .reg (.sl (.int .i64)) (.own (.sh false))), (4, .val .reg (.int .i64) (.sh false)), (6, .val .box (.cons (.int .i64) (.int .i64)) (.pr (.sh false) (.sh false))), (15, .val .reg (.sl (.cons (.int .i64) (.int .i64))) (.sh true)), (16, .val .reg (.int .i64) (.sh false)), (17, .val .reg (.int .i64) (.sh false))]), (100012, [(1, .val .box (.cons (.int .i64) (.sl (.cons (.int .i64) (.int .i64)))) (.sh true)), (3, .val .reg (.sl (.int .i64)) (.own (.sh false))), (4, .val .reg (.int .i64) (.sh false)), (15, .val .reg (.sl (.cons (.int .i64) (.int .i64))) (.sh true)), (16, .val .reg (.int .i64) (.sh false)), (17, .val .reg (.int .i64) (.sh false))])], []⟩
noncomputable def s9 : Sig := ⟨15, Go.Proofs.Tryd.f15, [.val (.cons (.int .i64) (.sl (.cons (.int .i64) (.int .i64))))], [.val .bool (.sh false)], false, [(0, [(1, .val .box (.cons (.int .i64) (.sl (.cons (.int .i64) (.int .i64)))) (.sh true)), (9, .val .reg (.sl (.cons (.int .i64) (.int .i64))) (.sh true)), (10, .val .reg (.int .i64) (.sh false)), (11, .val .reg (.int .i64) (.sh false))]), (100008, [(1, .val .box (.cons (.int .i64) (.sl (.cons (.int .i64) (.int .i64)))) (.sh true)), (9, .val .reg (.sl (.cons (.int .i64) (.int .i64))) (.sh true)), (10, .val .reg (.int .i64) (.sh false)), (11, .val .reg (.int .i64) (.sh false))])], []⟩
noncomputable def s10 : Sig := ⟨16, Go.Proofs.Tryd.f16, [.val (.int .i64)], [.val .str (.sh false)], false, [(0, [(0, .val .reg (.int .i64) (.sh false)), (3, .val .reg .str (.sh false))])], []⟩
noncomputable def s11 : Sig := ⟨6, Go.Proofs.Tryd.f6, [.val (.cons (.int .i64) (.sl (.cons (.int .i64) (.int .i64))))], [.val .str (.sh false)], false, [(0, [(3, .val .reg .str (.sh false)), (14, .val .reg (.sl (.cons (.int .i64) (.int .i64))) (.sh true)), (15, .val .reg (.int .i64) (.sh false)), (16, .val .reg (.int .i64) (.sh false))])], []⟩
noncomputable def s12 : Sig := ⟨46, Go.Proofs.Tryd.f46, [.val (.int .i64), .val (.int .i64), .val (.int .i64)], [.val .bool (.sh false)], false, [], []⟩
noncomputable def s13 : Sig := ⟨33, Go.Proofs.Tryd.f33, [.val (.cons (.int .i64) (.sl (.cons (.int .i64) (.int .i64))))], [.val .bool (.sh false)], false, [(0, [(1, .val .box (.cons (.int .i64) (.sl (.cons (.int .i64) (.int .i64)))) (.sh true)), (16, .val .reg (.sl (.cons (.int .i64) (.int .i64))) (.sh true)), (17, .val .reg (.int .i64) (.sh false)), (18, .val .reg (.int .i64) (.sh false))])], []⟩
noncomputable def s14 : Sig := ⟨54, Go.Proofs.Tryd.f54, [.val (.int .i64)], [.val .bool (.sh false)], false, [], []⟩
noncomputable def s15 : Sig := ⟨47, Go.Proofs.Tryd.f47, [.val (.int .i64), .val (.int .i64)], [.val (.int .i64) (.sh false)], false, [], []⟩
noncomputable def s16 : Sig := ⟨35, Go.Proofs.Tryd.f35, [.val (.cons (.int .i64) (.int .i64)), .val (.cons (.int .i64) (.int .i64))], [.val (.int .i64) (.sh false)], false, [], []⟩
noncomputable def s17 : Sig := ⟨34, Go.Proofs.Tryd.f34, [.val (.sl (.cons (.int .i64) (.int .i64))), .fn 35 []], [.val .bool (.sh false)], false, [(0, [(0, .val .reg (.sl (.cons (.int .i64) (.int .i64))) (.sh true)), (1, .fn 35 []), (5, .val .reg (.int .i64) (.sh false))])], []⟩
noncomputable def s18 : Sig := ⟨36, Go.Proofs.Tryd.f36, [.val (.int .i64), .val (.sl (.cons (.int .i64) (.int .i64)))], [.val .bool (.sh false)], false, [(0, [(0, .val .reg (.int .i64) (.sh false)), (1, .val .reg (.sl (.cons (.int .i64) (.int .i64))) (.sh true)), (5, .val .reg (.int .i64) (.sh false)), (8, .val .reg (.int .i64) (.sh false)), (9, .val .reg (.int .i64) (.sh false))]), (2, [(0, .val .reg (.int .i64) (.sh false)), (1, .val .reg (.sl (.cons (.int .i64) (.int .i64))) (.sh true)), (5, .val .reg (.int .i64) (.sh false)), (8, .val .reg (.int .i64) (.sh false)), (9, .val .reg (.int .i64) (.sh false)), (11, .val .reg (.sl (.cons (.int .i64) (.int .i64))) (.sh true)), (12, .val .reg (.int .i64) (.sh false)), (13, .val .reg (.int .i64) (.sh false))])], []⟩
noncomputable def s19 : Sig := ⟨18, Go.Proofs.Tryd.f18, [.val (.cons (.int .i64) (.sl (.cons (.int .i64) (.int .i64))))], [.val .bool (.sh false)], false, [], []⟩
noncomputable def s20 : Sig := ⟨37, Go.Proofs.Tryd.f37, [.val (.int .i64)], [.val .str (.sh false)], false, [], []⟩
noncomputable def s21 : Sig := ⟨19, Go.Proofs.Tryd.f19, [.val (.int .i64)], [.val .str (.sh false)], false, [], []⟩
noncomputable def s22 : Sig := ⟨8, Go.Proofs.Tryd.f8, [.val (.cons (.int .i64) (.sl (.cons (.int .i64) (.int .i64))))], [.val .str (.sh false)], false, [(0, [(3, .val .reg .str (.sh false)), (14, .val .reg (.sl (.cons (.int .i64) (.int .i64))) (.sh true)), (15, .val .reg (.int .i64) (.sh false)), (16, .val .reg (.int .i64) (.sh false))])], []⟩
noncomputable def s23 : Sig := ⟨38, Go.Proofs.Tryd.f38, [.val (.cons (.int .i64) (.int .i64)), .val (.cons (.int .i64) (.int .i64))], [.val .bool (.sh false)], false, [], []⟩
noncomputable def s24 : Sig := ⟨20, Go.Proofs.Tryd.f20, [.val (.sl (.cons (.int .i64) (.int .i64))), .val (.sl (.cons (.int .i64) (.int .i64)))], [.val .bool (.sh false)], false, [(0, [(0, .val .reg (.sl (.cons (.int .i64) (.int .i64))) (.sh true)), (1, .val .reg (.sl (.cons (.int .i64) (.int .i64))) (.sh true)), (5, .val .reg (.int .i64) (.sh false))])], []⟩
noncomputable def s25 : Sig := ⟨9, Go.Proofs.Tryd.f9, [.val (.cons (.int .i64) (.sl (.cons (.int .i64) (.int .i64)))), .val (.cons (.int .i64) (.sl (.cons (.int .i64) (.int .i64))))], [.val .bool (.sh false)], false, [], []⟩
noncomputable def s26 : Sig := ⟨3, Go.Proofs.Tryd.f3, [.val (.cons (.int .i64) (.sl (.cons (.int .i64) (.int .i64))))], [.val .bool (.sh false)], false, [], []⟩
noncomputable def s27 : Sig := ⟨21, Go.Proofs.Tryd.f21, [.val .str, .val .str], [.val (.sl .str) (.own (.sh false))], false, [(0, [(0, .val .reg .str (.sh false)), (1, .val .reg .str (.sh false)), (5, .val .reg (.sl .str) (.own (.sh false))), (6, .val .reg (.int .i64) (.sh false)), (7, .val .reg (.int .i64) (.sh false))]), (2, [(0, .val .reg .str (.sh false)), (1, .val .reg .str (.sh false)), (5, .val .reg (.sl .str) (.own (.sh false))), (6, .val .reg (.int .i64) (.sh false)), (7, .val .reg (.int .i64) (.sh false)), (8, .val .reg (.int .i64) (.sh false))])], []⟩
noncomputable def s28 : Sig := ⟨39, Go.Proofs.Tryd.f39, [.val .str], [.val .bool (.sh false)], false, [(0, [(0, .val .reg .str (.sh false)), (3, .val .reg (.int .i64) (.sh false))])], []⟩
noncomputable def s29 : Sig := ⟨22, Go.Proofs.Tryd.f22, [.val .str], [.val (.int .i64) (.sh false), .val .bool (.sh false)], false, [(0, [(0, .val .reg .str (.sh false)), (4, .val .reg .bool (.sh false)), (5, .val .reg .str (.sh false)), (6, .val .reg (.int .i64) (.sh false)), (7, .val .reg (.int .i64) (.sh false))])], []⟩
noncomputable def s30 : Sig := ⟨23, Go.Proofs.Tryd.f23, [.val (.sl .str)], [.val (.sl (.int .i64)) (.own (.sh false)), .val .bool (.sh false)], false, [(0, [(4, .val .reg (.sl (.int .i64)) (.own (.sh false))), (10, .val .reg (.sl .str) (.sh true)), (11, .val .reg (.int .i64) (.sh false)), (12, .val .reg (.int .i64) (.sh false))])], []⟩
noncomputable def s31 : Sig := ⟨10, Go.Proofs.Tryd.f10, [.val .str], [.val (.cons (.int .i64) (.sl (.cons (.int .i64) (.int .i64)))) (.pr (.sh false) (.own (.pr (.sh false) (.sh false)))), .val .bool (.sh false)], false, [(0, [(0, .val .reg .str (.sh false)), (2, .val .box (.cons (.int .i64) (.sl (.cons (.int .i64) (.int .i64)))) (.pr (.sh false) (.own (.pr (.sh false) (.sh false))))), (5, .val .box (.cons (.int .i64) (.sl (.cons (.int .i64) (.int .i64)))) (.pr (.sh false) (.own (.pr (.sh false) (.sh false))))), (37, .val .reg (.sl .str) (.sh false)), (38, .val .reg (.int .i64) (.sh false)), (39, .val .reg (.int .i64) (.sh false))])], []⟩
noncomputable def s32 : Sig := ⟨40, Go.Proofs.Tryd.f40, [.val .str, .val (.int .u8)], [.val (.int .i64) (.sh false)], false, [], []⟩
noncomputable def s33 : Sig := ⟨24, Go.Proofs.Tryd.f24, [.val .str, .val .str], [.val (.sl .str) (.own (.sh false))], false, [(0, [(0, .val .reg .str (.sh false)), (1, .val .reg .str (.sh false)), (5, .val .reg (.sl .str) (.own (.sh false))), (6, .val .reg (.int .i64) (.sh false)), (7, .val .reg (.int .i64) (.sh false))])], []⟩
noncomputable def s34 : Sig := ⟨26, Go.Proofs.Tryd.f26, [.val .str, .val .str], [.val .str (.sh false)], false, [], []⟩
noncomputable def s35 : Sig := ⟨25, Go.Proofs.Tryd.f25, [.val .str], [.val (.int .i64) (.sh false), .val .bool (.sh false)], false, [], []⟩
noncomputable def s36 : Sig := ⟨27, Go.Proofs.Tryd.f27, [.val .str, .val .str], [.val .str (.sh false), .val .str (.sh false), .val .bool (.sh false)], false, [], []⟩
noncomputable def s37 : Sig := ⟨11, Go.Proofs.Tryd.f11, [.val .str], [.val (.cons (.int .i64) (.sl (.cons (.int .i64) (.int .i64)))) (.pr (.sh false) (.own (.pr (.sh false) (.sh false)))), .val .bool (.sh false)], false, [(0, [(0, .val .reg .str (.sh false)), (2, .val .box (.cons (.int .i64) (.sl (.cons (.int .i64) (.int .i64)))) (.pr (.sh false) (.own (.pr (.sh false) (.sh false))))), (7, .val .box (.cons (.int .i64) (.sl (.cons (.int .i64) (.int .i64)))) (.pr (.sh false) (.own (.pr (.sh false) (.sh false))))), (33, .val .reg (.sl .str) (.sh false)), (34, .val .reg (.int .i64) (.sh false)), (35, .val .reg (.int .i64) (.sh false))]), (100015, [(0, .val .reg .str (.sh false)), (2, .val .box (.cons (.int .i64) (.sl (.cons (.int .i64) (.int .i64)))) (.pr (.sh false) (.own (.pr (.sh false) (.sh false))))), (7, .val .box (.cons (.int .i64) (.sl (.cons (.int .i64) (.int .i64)))) (.pr (.sh false) (.own (.sh false)))), (33, .val .reg (.sl .str) (.sh false)), (34, .val .reg (.int .i64) (.sh false)), (35, .val .reg (.int .i64) (.sh false))])], []⟩
noncomputable def s38 : Sig := ⟨28, Go.Proofs.Tryd.f28, [.io (.sl (.cons (.int .i64) (.int .i64))) (.own (.pr (.sh false) (.sh false))), .val (.int .i64)], [.val (.int .i64) (.sh false)], false, [(0, [(0, .val .reg (.sl (.cons (.int .i64) (.int .i64))) (.own (.pr (.sh false) (.sh false)))), (1, .val .reg (.int .i64) (.sh false)), (5, .val .reg (.int .i64) (.sh false))])], []⟩
noncomputable def s39 : Sig := ⟨12, Go.Proofs.Tryd.f12, [.io (.cons (.int .i64) (.sl (.cons (.int .i64) (.int .i64)))) (.pr (.sh false) (.own (.pr (.sh false) (.sh false)))), .val (.int .i64)], [.val (.int .i64) (.sh false)], false, [], []⟩
noncomputable def s40 : Sig := ⟨29, Go.Proofs.Tryd.f29, [.val (.sl (.cons (.int .i64) (.int .i64))), .val (.int .i64)], [.val (.int .i64) (.sh false)], false, [(0, [(0, .val .reg (.sl (.cons (.int .i64) (.int .i64))) (.sh true)), (1, .val .reg (.int .i64) (.sh false)), (5, .val .reg (.int .i64) (.sh false))])], []⟩
noncomputable def s41 : Sig := ⟨13, Go.Proofs.Tryd.f13, [.val (.cons (.int .i64) (.sl (.cons (.int .i64) (.int .i64)))), .val (.int .i64)], [.val (.int .i64) (.sh false)], false, [], []⟩
noncomputable def s42 : Sig := ⟨4, Go.Proofs.Tryd.f4, [.val .str], [.val .bool (.sh false)], false, [(100013, [(0, .val .reg .str (.sh false)), (3, .val .box (.cons (.int .i64) (.sl (.cons (.int .i64) (.int .i64)))) (.pr (.sh false) (.own (.pr (.sh false) (.sh false))))), (4, .val .reg .bool (.sh false)), (5, .val .box (.cons (.int .i64) (.sl (.cons (.int .i64) (.int .i64)))) (.pr (.sh false) (.own (.pr (.sh false) (.sh false))))), (7, .val .reg (.int .i64) (.sh false)), (8, .val .reg (.int .i64) (.sh false))])], []⟩
noncomputable def sigs : List Sig := [s0, s1, s2, s3, s4, s5, s6, s7, s8, s9, s10, s11, s12, s13, s14, s15, s16, s17, s18, s19, s20, s21, s22, s23, s24, s25, s26, s27, s28, s29, s30, s31, s32, s33, s34, s35, s36, s37, s38, s39, s40, s41, s42]
noncomputable def Γ : Ctx := ⟨tys, sigs⟩
noncomputable def Xf : Fun Γ := fun n => match n with
  | 20 => fun (a : Int) => (Lb.itoa a : Option ByteArray)
  | 32 => fun (a : (ByteArray × Int)) => (Lb.indexByte a.1 a.2 : Option Int)
  | 34 => fun (a : (ByteArray × ByteArray)) => (Lb.trimSuffix a.1 a.2 : Option ByteArray)
  | 35 => fun (a : ByteArray) => (Lb.pint a : Option (Int × Bool))
  | 36 => fun (a : (ByteArray × ByteArray)) => (Lb.cut a.1 a.2 : Option (ByteArray × (ByteArray × Bool)))
  | _ => fun _ => none
noncomputable def X : Ext Γ := ⟨fun n => n == 20 || n == 32 || n == 34 || n == 35 || n == 36, Xf⟩
noncomputable def laws_szEdgeS (a0 : (List (Int × Int))) (a1 : Int) : Option Int := den Γ X 0 (a0, a1)
noncomputable def laws_szGraph (a0 : (Int × (List (Int × Int)))) (a1 : Int) : Option Int := den Γ X 1 (a0, a1)
noncomputable def laws_toEdge (a0 : (Int × Int)) : Option (Int × Int) := den Γ X 2 a0
noncomputable def laws_toEdgeS (a0 : (List (Int × Int))) : Option (List (Int × Int)) := den Γ X 3 a0
noncomputable def laws_toEdgeS_l0 (x0 : (List (Int × Int))) (x3 : (List (Int × Int))) (x4 : Int) : Option (List (Int × Int)) := atF Γ (den Γ X) 3 [1, 1, 0, 1, 0] [(0, ⟨0, 0, 0, .val .reg (.sl (.cons (.int .i64) (.int .i64))) (.sh true) x0⟩), (3, ⟨0, 0, 0, .val .reg (.sl (.cons (.int .i64) (.int .i64))) (.own (.pr (.sh false) (.sh false))) x3⟩), (4, ⟨0, 0, 0, .val .reg (.int .i64) (.sh false) x4⟩)]
noncomputable def laws_toGraph (a0 : (Int × (List (Int × Int)))) : Option (Int × (List (Int × Int))) := den Γ X 4 a0
noncomputable def spec_l01In (a0 : Int) (a1 : Int) (a2 : Int) : Option Bool := den Γ X 5 (a0, a1, a2)
noncomputable def spec_EdgesOk (a0 : (Int × (List (Int × Int)))) : Option Bool := den Γ X 6 a0
noncomputable def spec_EdgesOk_l0 (x1 : (Int × (List (Int × Int)))) (x16 : (List (Int × Int))) (x17 : Int) (x18 : Int) : Option Bool := atF Γ (den Γ X) 6 [1, 1, 0, 1, 0] [(1, ⟨0, 0, 0, .val .box (.cons (.int .i64) (.sl (.cons (.int .i64) (.int .i64)))) (.sh true) x1⟩), (16, ⟨0, 0, 0, .val .reg (.sl (.cons (.int .i64) (.int .i64))) (.sh true) x16⟩), (17, ⟨0, 0, 0, .val .reg (.int .i64) (.sh false) x17⟩), (18, ⟨0, 0, 0, .val .reg (.int .i64) (.sh false) x18⟩)]
noncomputable def spec_l02Has (a0 : (List Int)) (a1 : Int) : Option Bool := den Γ X 7 (a0, a1)
noncomputable def spec_l02Has_l0 (x1 : Int) (x7 : (List Int)) (x8 : Int) (x9 : Int) : Option Bool := atF Γ (den Γ X) 7 [1, 0, 1, 0] [(1, ⟨0, 0, 0, .val .reg (.int .i64) (.sh false) x1⟩), (7, ⟨0, 0, 0, .val .reg (.sl (.int .i64)) (.sh true) x7⟩), (8, ⟨0, 0, 0, .val .reg (.int .i64) (.sh false) x8⟩), (9, ⟨0, 0, 0, .val .reg (.int .i64) (.sh false) x9⟩)]
noncomputable def spec_l02Reach (a0 : (Int × (List (Int × Int)))) : Option (List Int) := den Γ X 8 a0
noncomputable def spec_l02Reach_l0 (x1 : (Int × (List (Int × Int)))) (x3 : (List Int)) (x4 : Int) : Option (List Int) := atF Γ (den Γ X) 8 [1, 1, 0, 1, 0] [(1, ⟨0, 0, 0, .val .box (.cons (.int .i64) (.sl (.cons (.int .i64) (.int .i64)))) (.sh true) x1⟩), (3, ⟨0, 0, 0, .val .reg (.sl (.int .i64)) (.own (.sh false)) x3⟩), (4, ⟨0, 0, 0, .val .reg (.int .i64) (.sh false) x4⟩)]
noncomputable def spec_l02Reach_l2 (x1 : (Int × (List (Int × Int)))) (x3 : (List Int)) (x4 : Int) (x15 : (List (Int × Int))) (x16 : Int) (x17 : Int) : Option (List Int) := atF Γ (den Γ X) 8 [1, 1, 0, 1, 0, 0, 1, 0, 0, 1, 0] [(1, ⟨0, 0, 0, .val .box (.cons (.int .i64) (.sl (.cons (.int .i64) (.int .i64)))) (.sh true) x1⟩), (3, ⟨0, 0, 0, .val .reg (.sl (.int .i64)) (.own (.sh false)) x3⟩), (4, ⟨0, 0, 0, .val .reg (.int .i64) (.sh false) x4⟩), (15, ⟨0, 0, 0, .val .reg (.sl (.cons (.int .i64) (.int .i64))) (.sh true) x15⟩), (16, ⟨0, 0, 0, .val .reg (.int .i64) (.sh false) x16⟩), (17, ⟨0, 0, 0, .val .reg (.int .i64) (.sh false) x17⟩)]
noncomputable def spec_l02Reach_c11 (x1 : (Int × (List (Int × Int)))) (x3 : (List Int)) (x4 : Int) (x6 : (Int × Int)) (x15 : (List (Int × Int))) (x16 : Int) (x17 : Int) : Option (List Int) := atF Γ (den Γ X) 8 [1, 1, 0, 1, 0, 0, 1, 0, 0, 1, 0, 0, 1, 1, 0, 0, 1, 1, 1, 0] [(1, ⟨0, 0, 0, .val .box (.cons (.int .i64) (.sl (.cons (.int .i64) (.int .i64)))) (.sh true) x1⟩), (3, ⟨0, 0, 0, .val .reg (.sl (.int .i64)) (.own (.sh false)) x3⟩), (4, ⟨0, 0, 0, .val .reg (.int .i64) (.sh false) x4⟩), (6, ⟨0, 0, 0, .val .box (.cons (.int .i64) (.int .i64)) (.pr (.sh false) (.sh false)) x6⟩), (15, ⟨0, 0, 0, .val .reg (.sl (.cons (.int .i64) (.int .i64))) (.sh true) x15⟩), (16, ⟨0, 0, 0, .val .reg (.int .i64) (.sh false) x16⟩), (17, ⟨0, 0, 0, .val .reg (.int .i64) (.sh false) x17⟩)]
noncomputable def spec_l02Reach_c12 (x1 : (Int × (List (Int × Int)))) (x3 : (List Int)) (x4 : Int) (x15 : (List (Int × Int))) (x16 : Int) (x17 : Int) : Option (List Int) := atF Γ (den Γ X) 8 [1, 1, 0, 1, 0, 0, 1, 0, 0, 1, 0, 0, 1, 1, 1] [(1, ⟨0, 0, 0, .val .box (.cons (.int .i64) (.sl (.cons (.int .i64) (.int .i64)))) (.sh true) x1⟩), (3, ⟨0, 0, 0, .val .reg (.sl (.int .i64)) (.own (.sh false)) x3⟩), (4, ⟨0, 0, 0, .val .reg (.int .i64) (.sh false) x4⟩), (15, ⟨0, 0, 0, .val .reg (.sl (.cons (.int .i64) (.int .i64))) (.sh true) x15⟩), (16, ⟨0, 0, 0, .val .reg (.int .i64) (.sh false) x16⟩), (17, ⟨0, 0, 0, .val .reg (.int .i64) (.sh false) x17⟩)]
noncomputable def spec_GraphOk (a0 : (Int × (List (Int × Int)))) : Option Bool := den Γ X 9 a0
noncomputable def spec_GraphOk_l0 (x1 : (Int × (List (Int × Int)))) (x9 : (List (Int × Int))) (x10 : Int) (x11 : Int) : Option Bool := atF Γ (den Γ X) 9 [1, 1, 0, 1, 0] [(1, ⟨0, 0, 0, .val .box (.cons (.int .i64) (.sl (.cons (.int .i64) (.int .i64)))) (.sh true) x1⟩), (9, ⟨0, 0, 0, .val .reg (.sl (.cons (.int .i64) (.int .i64))) (.sh true) x9⟩), (10, ⟨0, 0, 0, .val .reg (.int .i64) (.sh false) x10⟩), (11, ⟨0, 0, 0, .val .reg (.int .i64) (.sh false) x11⟩)]
noncomputable def spec_GraphOk_c8 (x1 : (Int × (List (Int × Int)))) (x9 : (List (Int × Int))) (x10 : Int) (x11 : Int) : Option Bool := atF Γ (den Γ X) 9 [1, 1, 0, 1, 0, 0, 1, 1, 1] [(1, ⟨0, 0, 0, .val .box (.cons (.int .i64) (.sl (.cons (.int .i64) (.int .i64)))) (.sh true) x1⟩), (9, ⟨0, 0, 0, .val .reg (.sl (.cons (.int .i64) (.int .i64))) (.sh true) x9⟩), (10, ⟨0, 0, 0, .val .reg (.int .i64) (.sh false) x10⟩), (11, ⟨0, 0, 0, .val .reg (.int .i64) (.sh false) x11⟩)]
noncomputable def spec_FormatInt (a0 : Int) : Option ByteArray := den Γ X 10 a0
noncomputable def spec_FormatInt_l0 (x0 : Int) (x3 : ByteArray) : Option ByteArray := atF Γ (den Γ X) 10 [1, 1, 1, 0, 0] [(0, ⟨0, 0, 0, .val .reg (.int .i64) (.sh false) x0⟩), (3, ⟨0, 0, 0, .val .reg .str (.sh false) x3⟩)]
noncomputable def spec_FormatGraph (a0 : (Int × (List (Int × Int)))) : Option ByteArray := den Γ X 11 a0
noncomputable def spec_FormatGraph_l0 (x3 : ByteArray) (x14 : (List (Int × Int))) (x15 : Int) (x16 : Int) : Option ByteArray := atF Γ (den Γ X) 11 [1, 1, 1, 0, 1, 0] [(3, ⟨0, 0, 0, .val .reg .str (.sh false) x3⟩), (14, ⟨0, 0, 0, .val .reg (.sl (.cons (.int .i64) (.int .i64))) (.sh true) x14⟩), (15, ⟨0, 0, 0, .val .reg (.int .i64) (.sh false) x15⟩), (16, ⟨0, 0, 0, .val .reg (.int .i64) (.sh false) x16⟩)]
noncomputable def impl_within (a0 : Int) (a1 : Int) (a2 : Int) : Option Bool := den Γ X 12 (a0, a1, a2)
noncomputable def impl_EdgesOk (a0 : (Int × (List (Int × Int)))) : Option Bool := den Γ X 13 a0
noncomputable def impl_EdgesOk_l0 (x1 : (Int × (List (Int × Int)))) (x16 : (List (Int × Int))) (x17 : Int) (x18 : Int) : Option Bool := atF Γ (den Γ X) 13 [1, 1, 0, 1, 0] [(1, ⟨0, 0, 0, .val .box (.cons (.int .i64) (.sl (.cons (.int .i64) (.int .i64)))) (.sh true) x1⟩), (16, ⟨0, 0, 0, .val .reg (.sl (.cons (.int .i64) (.int .i64))) (.sh true) x16⟩), (17, ⟨0, 0, 0, .val .reg (.int .i64) (.sh false) x17⟩), (18, ⟨0, 0, 0, .val .reg (.int .i64) (.sh false) x18⟩)]
noncomputable def cmp_isNaN_int (a0 : Int) : Option Bool := den Γ X 14 a0
noncomputable def cmp_Compare_int (a0 : Int) (a1 : Int) : Option Int := den Γ X 15 (a0, a1)
noncomputable def impl_compareEdges (a0 : (Int × Int)) (a1 : (Int × Int)) : Option Int := den Γ X 16 (a0, a1)
noncomputable def impl_Edge__compareEdges (a0 : (List (Int × Int))) : Option Bool := den Γ X 17 a0
noncomputable def impl_Edge__compareEdges_l0 (x0 : (List (Int × Int))) (x5 : Int) : Option Bool := atF Γ (den Γ X) 17 [1, 0, 1, 0] [(0, ⟨0, 0, 0, .val .reg (.sl (.cons (.int .i64) (.int .i64))) (.sh true) x0⟩), (1, ⟨0, 0, 0, .fn 35 []⟩), (5, ⟨0, 0, 0, .val .reg (.int .i64) (.sh false) x5⟩)]
noncomputable def impl_connected (a0 : Int) (a1 : (List (Int × Int))) : Option Bool := den Γ X 18 (a0, a1)
noncomputable def impl_connected_l0 (x0 : Int) (x1 : (List (Int × Int))) (x5 : Int) (x8 : Int) (x9 : Int) : Option Bool := atF Γ (den Γ X) 18 [1, 1, 0, 1, 0] [(0, ⟨0, 0, 0, .val .reg (.int .i64) (.sh false) x0⟩), (1, ⟨0, 0, 0, .val .reg (.sl (.cons (.int .i64) (.int .i64))) (.sh true) x1⟩), (5, ⟨0, 0, 0, .val .reg (.int .i64) (.sh false) x5⟩), (8, ⟨0, 0, 0, .val .reg (.int .i64) (.sh false) x8⟩), (9, ⟨0, 0, 0, .val .reg (.int .i64) (.sh false) x9⟩)]
noncomputable def impl_connected_l2 (x0 : Int) (x1 : (List (Int × Int))) (x5 : Int) (x8 : Int) (x9 : Int) (x11 : (List (Int × Int))) (x12 : Int) (x13 : Int) : Option Bool := atF Γ (den Γ X) 18 [1, 1, 0, 1, 0, 0, 1, 1, 0, 0, 1, 0] [(0, ⟨0, 0, 0, .val .reg (.int .i64) (.sh false) x0⟩), (1, ⟨0, 0, 0, .val .reg (.sl (.cons (.int .i64) (.int .i64))) (.sh true) x1⟩), (5, ⟨0, 0, 0, .val .reg (.int .i64) (.sh false) x5⟩), (8, ⟨0, 0, 0, .val .reg (.int .i64) (.sh false) x8⟩), (9, ⟨0, 0, 0, .val .reg (.int .i64) (.sh false) x9⟩), (11, ⟨0, 0, 0, .val .reg (.sl (.cons (.int .i64) (.int .i64))) (.sh true) x11⟩), (12, ⟨0, 0, 0, .val .reg (.int .i64) (.sh false) x12⟩), (13, ⟨0, 0, 0, .val .reg (.int .i64) (.sh false) x13⟩)]
noncomputable def impl_GraphOk (a0 : (Int × (List (Int × Int)))) : Option Bool := den Γ X 19 a0
noncomputable def strconv_Itoa (a0 : Int) : Option ByteArray := den Γ X 20 a0
noncomputable def impl_FormatInt (a0 : Int) : Option ByteArray := den Γ X 21 a0
noncomputable def impl_FormatGraph (a0 : (Int × (List (Int × Int)))) : Option ByteArray := den Γ X 22 a0
noncomputable def impl_FormatGraph_l0 (x3 : ByteArray) (x14 : (List (Int × Int))) (x15 : Int) (x16 : Int) : Option ByteArray := atF Γ (den Γ X) 22 [1, 1, 1, 0, 1, 0] [(3, ⟨0, 0, 0, .val .reg .str (.sh false) x3⟩), (14, ⟨0, 0, 0, .val .reg (.sl (.cons (.int .i64) (.int .i64))) (.sh true) x14⟩), (15, ⟨0, 0, 0, .val .reg (.int .i64) (.sh false) x15⟩), (16, ⟨0, 0, 0, .val .reg (.int .i64) (.sh false) x16⟩)]
noncomputable def laws_eqEdge (a0 : (Int × Int)) (a1 : (Int × Int)) : Option Bool := den Γ X 23 (a0, a1)
noncomputable def laws_eqEdgeS (a0 : (List (Int × Int))) (a1 : (List (Int × Int))) : Option Bool := den Γ X 24 (a0, a1)
noncomputable def laws_eqEdgeS_l0 (x0 : (List (Int × Int))) (x1 : (List (Int × Int))) (x5 : Int) : Option Bool := atF Γ (den Γ X) 24 [1, 1, 0, 1, 0] [(0, ⟨0, 0, 0, .val .reg (.sl (.cons (.int .i64) (.int .i64))) (.sh true) x0⟩), (1, ⟨0, 0, 0, .val .reg (.sl (.cons (.int .i64) (.int .i64))) (.sh true) x1⟩), (5, ⟨0, 0, 0, .val .reg (.int .i64) (.sh false) x5⟩)]
noncomputable def laws_eqGraph (a0 : (Int × (List (Int × Int)))) (a1 : (Int × (List (Int × Int)))) : Option Bool := den Γ X 25 (a0, a1)
noncomputable def laws_FnExactFormatGraph (a0 : (Int × (List (Int × Int)))) : Option Bool := den Γ X 26 a0
noncomputable def spec_SplitAny (a0 : ByteArray) (a1 : ByteArray) : Option (List ByteArray) := den Γ X 27 (a0, a1)
noncomputable def spec_SplitAny_l0 (x0 : ByteArray) (x1 : ByteArray) (x5 : (List ByteArray)) (x6 : Int) (x7 : Int) : Option (List ByteArray) := atF Γ (den Γ X) 27 [1, 1, 1, 0, 1, 0] [(0, ⟨0, 0, 0, .val .reg .str (.sh false) x0⟩), (1, ⟨0, 0, 0, .val .reg .str (.sh false) x1⟩), (5, ⟨0, 0, 0, .val .reg (.sl .str) (.own (.sh false)) x5⟩), (6, ⟨0, 0, 0, .val .reg (.int .i64) (.sh false) x6⟩), (7, ⟨0, 0, 0, .val .reg (.int .i64) (.sh false) x7⟩)]
noncomputable def spec_SplitAny_l2 (x0 : ByteArray) (x1 : ByteArray) (x5 : (List ByteArray)) (x6 : Int) (x7 : Int) (x8 : Int) : Option (List ByteArray) := atF Γ (den Γ X) 27 [1, 1, 1, 0, 1, 0, 0, 1, 0, 0, 1, 0] [(0, ⟨0, 0, 0, .val .reg .str (.sh false) x0⟩), (1, ⟨0, 0, 0, .val .reg .str (.sh false) x1⟩), (5, ⟨0, 0, 0, .val .reg (.sl .str) (.own (.sh false)) x5⟩), (6, ⟨0, 0, 0, .val .reg (.int .i64) (.sh false) x6⟩), (7, ⟨0, 0, 0, .val .reg (.int .i64) (.sh false) x7⟩), (8, ⟨0, 0, 0, .val .reg (.int .i64) (.sh false) x8⟩)]
noncomputable def spec_IsDigits (a0 : ByteArray) : Option Bool := den Γ X 28 a0
noncomputable def spec_IsDigits_l0 (x0 : ByteArray) (x3 : Int) : Option Bool := atF Γ (den Γ X) 28 [1, 0, 1, 0] [(0, ⟨0, 0, 0, .val .reg .str (.sh false) x0⟩), (3, ⟨0, 0, 0, .val .reg (.int .i64) (.sh false) x3⟩)]
noncomputable def spec_ParseInt (a0 : ByteArray) : Option (Int × Bool) := den Γ X 29 a0
noncomputable def spec_ParseInt_l0 (x0 : ByteArray) (x4 : Bool) (x5 : ByteArray) (x6 : Int) (x7 : Int) : Option (Int × Bool) := atF Γ (den Γ X) 29 [1, 1, 1, 1, 1, 1, 0, 1, 0] [(0, ⟨0, 0, 0, .val .reg .str (.sh false) x0⟩), (4, ⟨0, 0, 0, .val .reg .bool (.sh false) x4⟩), (5, ⟨0, 0, 0, .val .reg .str (.sh false) x5⟩), (6, ⟨0, 0, 0, .val .reg (.int .i64) (.sh false) x6⟩), (7, ⟨0, 0, 0, .val .reg (.int .i64) (.sh false) x7⟩)]
noncomputable def spec_l18Numbers (a0 : (List ByteArray)) : Option ((List Int) × Bool) := den Γ X 30 a0
noncomputable def spec_l18Numbers_l0 (x4 : (List Int)) (x10 : (List ByteArray)) (x11 : Int) (x12 : Int) : Option ((List Int) × Bool) := atF Γ (den Γ X) 30 [1, 1, 0, 1, 0] [(4, ⟨0, 0, 0, .val .reg (.sl (.int .i64)) (.own (.sh false)) x4⟩), (10, ⟨0, 0, 0, .val .reg (.sl .str) (.sh true) x10⟩), (11, ⟨0, 0, 0, .val .reg (.int .i64) (.sh false) x11⟩), (12, ⟨0, 0, 0, .val .reg (.int .i64) (.sh false) x12⟩)]
noncomputable def spec_ParseGraph (a0 : ByteArray) : Option ((Int × (List (Int × Int))) × Bool) := den Γ X 31 a0
noncomputable def spec_ParseGraph_l0 (x0 : ByteArray) (x2 : (Int × (List (Int × Int)))) (x5 : (Int × (List (Int × Int)))) (x37 : (List ByteArray)) (x38 : Int) (x39 : Int) : Option ((Int × (List (Int × Int))) × Bool) := atF Γ (den Γ X) 31 [1, 1, 1, 1, 1, 1, 1, 1, 0, 1, 0] [(0, ⟨0, 0, 0, .val .reg .str (.sh false) x0⟩), (2, ⟨0, 0, 0, .val .box (.cons (.int .i64) (.sl (.cons (.int .i64) (.int .i64)))) (.pr (.sh false) (.own (.pr (.sh false) (.sh false)))) x2⟩), (5, ⟨0, 0, 0, .val .box (.cons (.int .i64) (.sl (.cons (.int .i64) (.int .i64)))) (.pr (.sh false) (.own (.pr (.sh false) (.sh false)))) x5⟩), (37, ⟨0, 0, 0, .val .reg (.sl .str) (.sh false) x37⟩), (38, ⟨0, 0, 0, .val .reg (.int .i64) (.sh false) x38⟩), (39, ⟨0, 0, 0, .val .reg (.int .i64) (.sh false) x39⟩)]
noncomputable def strings_IndexByte (a0 : ByteArray) (a1 : Int) : Option Int := den Γ X 32 (a0, a1)
noncomputable def impl_SplitAny (a0 : ByteArray) (a1 : ByteArray) : Option (List ByteArray) := den Γ X 33 (a0, a1)
noncomputable def impl_SplitAny_l0 (x0 : ByteArray) (x1 : ByteArray) (x5 : (List ByteArray)) (x6 : Int) (x7 : Int) : Option (List ByteArray) := atF Γ (den Γ X) 33 [1, 1, 1, 0, 1, 0] [(0, ⟨0, 0, 0, .val .reg .str (.sh false) x0⟩), (1, ⟨0, 0, 0, .val .reg .str (.sh false) x1⟩), (5, ⟨0, 0, 0, .val .reg (.sl .str) (.own (.sh false)) x5⟩), (6, ⟨0, 0, 0, .val .reg (.int .i64) (.sh false) x6⟩), (7, ⟨0, 0, 0, .val .reg (.int .i64) (.sh false) x7⟩)]
noncomputable def strings_TrimSuffix (a0 : ByteArray) (a1 : ByteArray) : Option ByteArray := den Γ X 34 (a0, a1)
noncomputable def impl_ParseInt (a0 : ByteArray) : Option (Int × Bool) := den Γ X 35 a0
noncomputable def strings_Cut (a0 : ByteArray) (a1 : ByteArray) : Option (ByteArray × (ByteArray × Bool)) := den Γ X 36 (a0, a1)
noncomputable def impl_ParseGraph (a0 : ByteArray) : Option ((Int × (List (Int × Int))) × Bool) := den Γ X 37 a0
noncomputable def impl_ParseGraph_l0 (x0 : ByteArray) (x2 : (Int × (List (Int × Int)))) (x7 : (Int × (List (Int × Int)))) (x33 : (List ByteArray)) (x34 : Int) (x35 : Int) : Option ((Int × (List (Int × Int))) × Bool) := atF Γ (den Γ X) 37 [1, 1, 1, 1, 1, 0, 1, 0] [(0, ⟨0, 0, 0, .val .reg .str (.sh false) x0⟩), (2, ⟨0, 0, 0, .val .box (.cons (.int .i64) (.sl (.cons (.int .i64) (.int .i64)))) (.pr (.sh false) (.own (.pr (.sh false) (.sh false)))) x2⟩), (7, ⟨0, 0, 0, .val .box (.cons (.int .i64) (.sl (.cons (.int .i64) (.int .i64)))) (.pr (.sh false) (.own (.pr (.sh false) (.sh false)))) x7⟩), (33, ⟨0, 0, 0, .val .reg (.sl .str) (.sh false) x33⟩), (34, ⟨0, 0, 0, .val .reg (.int .i64) (.sh false) x34⟩), (35, ⟨0, 0, 0, .val .reg (.int .i64) (.sh false) x35⟩)]
noncomputable def impl_ParseGraph_c15 (x0 : ByteArray) (x2 : (Int × (List (Int × Int)))) (x7 : (Int × (List (Int × Int)))) (x33 : (List ByteArray)) (x34 : Int) (x35 : Int) : Option ((Int × (List (Int × Int))) × Bool) := atF Γ (den Γ X) 37 [1, 1, 1, 1, 1, 0, 1, 0, 0, 1, 1, 1] [(0, ⟨0, 0, 0, .val .reg .str (.sh false) x0⟩), (2, ⟨0, 0, 0, .val .box (.cons (.int .i64) (.sl (.cons (.int .i64) (.int .i64)))) (.pr (.sh false) (.own (.pr (.sh false) (.sh false)))) x2⟩), (7, ⟨0, 0, 0, .val .box (.cons (.int .i64) (.sl (.cons (.int .i64) (.int .i64)))) (.pr (.sh false) (.own (.sh false))) x7⟩), (33, ⟨0, 0, 0, .val .reg (.sl .str) (.sh false) x33⟩), (34, ⟨0, 0, 0, .val .reg (.int .i64) (.sh false) x34⟩), (35, ⟨0, 0, 0, .val .reg (.int .i64) (.sh false) x35⟩)]
noncomputable def laws_markEdgeS (a0 : (List (Int × Int))) (a1 : Int) : Option (Int × (List (Int × Int))) := den Γ X 38 (a0, a1)
noncomputable def laws_markEdgeS_l0 (x0 : (List (Int × Int))) (x1 : Int) (x5 : Int) : Option (Int × (List (Int × Int))) := atF Γ (den Γ X) 38 [1, 0, 1, 0] [(0, ⟨0, 0, 0, .val .reg (.sl (.cons (.int .i64) (.int .i64))) (.own (.pr (.sh false) (.sh false))) x0⟩), (1, ⟨0, 0, 0, .val .reg (.int .i64) (.sh false) x1⟩), (5, ⟨0, 0, 0, .val .reg (.int .i64) (.sh false) x5⟩)]
noncomputable def laws_markGraph (a0 : (Int × (List (Int × Int)))) (a1 : Int) : Option (Int × (Int × (List (Int × Int)))) := den Γ X 39 (a0, a1)
noncomputable def laws_heldEdgeS (a0 : (List (Int × Int))) (a1 : Int) : Option Int := den Γ X 40 (a0, a1)
noncomputable def laws_heldEdgeS_l0 (x0 : (List (Int × Int))) (x1 : Int) (x5 : Int) : Option Int := atF Γ (den Γ X) 40 [1, 0, 1, 0] [(0, ⟨0, 0, 0, .val .reg (.sl (.cons (.int .i64) (.int .i64))) (.sh true) x0⟩), (1, ⟨0, 0, 0, .val .reg (.int .i64) (.sh false) x1⟩), (5, ⟨0, 0, 0, .val .reg (.int .i64) (.sh false) x5⟩)]
noncomputable def laws_heldGraph (a0 : (Int × (List (Int × Int)))) (a1 : Int) : Option Int := den Γ X 41 (a0, a1)
noncomputable def laws_FnExactParseGraph (a0 : ByteArray) : Option Bool := den Γ X 42 a0
noncomputable def laws_FnExactParseGraph_c13 (x0 : ByteArray) (x3 : (Int × (List (Int × Int)))) (x4 : Bool) (x5 : (Int × (List (Int × Int)))) (x7 : Int) (x8 : Int) : Option Bool := atF Γ (den Γ X) 42 [1, 1, 1, 1, 1, 1, 1, 1, 1, 1, 0, 0] [(0, ⟨0, 0, 0, .val .reg .str (.sh false) x0⟩), (3, ⟨0, 0, 0, .val .box (.cons (.int .i64) (.sl (.cons (.int .i64) (.int .i64)))) (.pr (.sh false) (.own (.pr (.sh false) (.sh false)))) x3⟩), (4, ⟨0, 0, 0, .val .reg .bool (.sh false) x4⟩), (5, ⟨0, 0, 0, .val .box (.cons (.int .i64) (.sl (.cons (.int .i64) (.int .i64)))) (.pr (.sh false) (.own (.pr (.sh false) (.sh false)))) x5⟩), (7, ⟨0, 0, 0, .val .reg (.int .i64) (.sh false) x7⟩), (8, ⟨0, 0, 0, .val .reg (.int .i64) (.sh false) x8⟩)]
end Go.Proofs.YtkedbhndiokegaaDoor.D

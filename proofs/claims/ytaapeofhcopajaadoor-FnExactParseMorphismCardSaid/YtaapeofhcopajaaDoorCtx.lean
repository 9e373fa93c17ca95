/-
  What the evaluator is told of this program: its types, the functions that the laws reach; each function as a plain Lean function.
-/
import Derived.Test.YtaapeofhcopajaaDoorProg
import Derived.Test.YtaapeofhcopajaaDoorLb
import Derived.KernelRfl
namespace Go.Proofs.YtaapeofhcopajaaDoor.D
open Go Go.Den
set_option linter.unusedVariables false
set_option maxRecDepth 100000
def tys : List (Option TInfo) := [
  none,
  none,
  some ⟨(.int .i64), [], false⟩,
  some ⟨(.int .i64), [], false⟩,
  some ⟨.bool, [], false⟩,
  some ⟨(.int .u8), [], false⟩,
  some ⟨(.int .u8), [], false⟩,
  some ⟨(.cons (.int .i64) (.cons (.int .i64) (.cons .bool (.int .u8)))), [([.l], (.int .i64)), ([.r, .l], (.int .i64)), ([.r, .r, .l], .bool), ([.r, .r, .r], (.int .u8))], true⟩,
  some ⟨(.cons (.int .i64) (.cons (.int .i64) (.cons .bool (.int .u8)))), [([.l], (.int .i64)), ([.r, .l], (.int .i64)), ([.r, .r, .l], .bool), ([.r, .r, .r], (.int .u8))], true⟩,
  some ⟨.str, [], false⟩,
  some ⟨.str, [], false⟩,
  some ⟨.str, [], false⟩,
  some ⟨(.int .u64), [], false⟩,
  some ⟨(.cons .str (.int .u64)), [([.l], .str), ([.r], (.int .u64))], false⟩,
  some ⟨(.cons .str (.int .u64)), [([.l], .str), ([.r], (.int .u64))], false⟩,
  none,
  none,
  none,
  none,
  none,
  none,
  some ⟨(.int .i32), [], false⟩,
  some ⟨(.sl (.int .i64)), [], false⟩,
  none,
  none,
  none,
  none,
  some ⟨(.cons (.sl (.int .i64)) (.sl (.int .i64))), [([.l], (.sl (.int .i64))), ([.r], (.sl (.int .i64)))], false⟩,
  some ⟨(.cons (.sl (.int .i64)) (.sl (.int .i64))), [([.l], (.sl (.int .i64))), ([.r], (.sl (.int .i64)))], false⟩,
  none,
  none,
  some ⟨(.cons (.sl (.int .i64)) (.sl (.int .i64))), [([.l], (.sl (.int .i64))), ([.r], (.sl (.int .i64)))], false⟩,
  none,
  none,
  none,
  some ⟨(.sl (.sl (.int .i64))), [], false⟩,
  none,
  none,
  none,
  none,
  none,
  some ⟨(.sl .str), [], false⟩,
  none,
  none,
  none,
  none,
  none,
  none,
  none,
  none,
  none,
  none,
  none,
  none,
  none,
  none,
  none,
  none,
  none,
  none,
  none,
  some ⟨(.sl (.int .u8)), [], false⟩,
  none,
  none,
  none,
  none,
  none,
  none,
  none,
  none,
  none,
  none,
  none,
  none,
  none,
  none,
  some ⟨(.int .i64), [], false⟩,
  none,
  none,
  none,
  none,
  none,
  none,
  some ⟨(.int .u64), [], false⟩,
  none,
  some ⟨(.int .u64), [], false⟩,
  none,
  none,
  none,
  none,
  none,
  none,
  none,
  none,
  none,
  none,
  none,
  none,
  none,
  some ⟨(.int .u32), [], false⟩,
  none,
  none,
  none,
  none,
  none,
  none,
  none,
  none,
  none,
  some ⟨(.one .str), [([.l], .str)], false⟩,
  some ⟨(.one .str), [([.l], .str)], false⟩,
  none,
  none,
  none,
  none,
  none,
  none,
  none,
  none,
  none,
  some ⟨(.int .u8), [], false⟩,
  some ⟨(.int .u8), [], false⟩,
  none,
  some ⟨(.int .i32), [], false⟩,
  some ⟨(.int .i32), [], false⟩,
  none,
  none]
noncomputable def s0 : Sig := ⟨10, Go.Proofs.Tryd.f10, [.val (.sl (.int .i64))], [.val (.sl (.int .i64)) (.own (.sh false))], false, [(0, [(0, .val .reg (.sl (.int .i64)) (.sh true)), (3, .val .reg (.sl (.int .i64)) (.own (.sh false))), (4, .val .reg (.int .i64) (.sh false))])], []⟩
noncomputable def s1 : Sig := ⟨37, Go.Proofs.Tryd.f37, [.val (.int .i64)], [.val .str (.sh false)], false, [(0, [(0, .val .reg (.int .i64) (.sh false)), (3, .val .reg .str (.sh false))])], []⟩
noncomputable def s2 : Sig := ⟨38, Go.Proofs.Tryd.f38, [.val (.sl .str), .val .str], [.val .str (.sh false)], false, [(0, [(1, .val .reg .str (.sh false)), (5, .val .reg .str (.sh false)), (8, .val .reg (.sl .str) (.sh true)), (9, .val .reg (.int .i64) (.sh false)), (10, .val .reg (.int .i64) (.sh false))])], []⟩
noncomputable def s3 : Sig := ⟨9, Go.Proofs.Tryd.f9, [.val (.sl (.int .i64))], [.val .str (.sh false)], false, [(0, [(3, .val .reg (.sl .str) (.own (.sh false))), (7, .val .reg (.sl (.int .i64)) (.sh true)), (8, .val .reg (.int .i64) (.sh false)), (9, .val .reg (.int .i64) (.sh false))])], []⟩
noncomputable def s4 : Sig := ⟨50, Go.Proofs.Tryd.f50, [.val (.int .i64)], [.val .str (.sh false)], false, [], []⟩
noncomputable def s5 : Sig := ⟨39, Go.Proofs.Tryd.f39, [.val (.int .i64)], [.val .str (.sh false)], false, [], []⟩
noncomputable def s6 : Sig := ⟨51, Go.Proofs.Tryd.f51, [.val (.sl .str), .val .str], [.val .str (.sh false)], false, [], []⟩
noncomputable def s7 : Sig := ⟨40, Go.Proofs.Tryd.f40, [.val (.sl .str), .val .str], [.val .str (.sh false)], false, [], []⟩
noncomputable def s8 : Sig := ⟨11, Go.Proofs.Tryd.f11, [.val (.sl (.int .i64))], [.val .str (.sh false)], false, [(0, [(3, .val .reg (.sl .str) (.own (.sh false))), (9, .val .reg (.sl (.int .i64)) (.sh true)), (10, .val .reg (.int .i64) (.sh false)), (11, .val .reg (.int .i64) (.sh false))])], []⟩
noncomputable def s9 : Sig := ⟨12, Go.Proofs.Tryd.f12, [.val (.sl (.int .i64)), .val (.sl (.int .i64))], [.val .bool (.sh false)], false, [(0, [(0, .val .reg (.sl (.int .i64)) (.sh true)), (1, .val .reg (.sl (.int .i64)) (.sh true)), (5, .val .reg (.int .i64) (.sh false))])], []⟩
noncomputable def s10 : Sig := ⟨3, Go.Proofs.Tryd.f3, [.val (.sl (.int .i64))], [.val .bool (.sh false)], false, [], []⟩
noncomputable def s11 : Sig := ⟨41, Go.Proofs.Tryd.f41, [.val (.sl (.int .i64)), .val (.int .i64)], [.val (.int .i64) (.sh false)], false, [], []⟩
noncomputable def s12 : Sig := ⟨13, Go.Proofs.Tryd.f13, [.val (.cons (.sl (.int .i64)) (.sl (.int .i64))), .val (.int .i64)], [.val (.int .i64) (.sh false)], false, [], []⟩
noncomputable def s13 : Sig := ⟨15, Go.Proofs.Tryd.f15, [.val (.cons (.sl (.int .i64)) (.sl (.int .i64)))], [.val (.cons (.sl (.int .i64)) (.sl (.int .i64))) (.pr (.own (.sh false)) (.own (.sh false)))], false, [], []⟩
noncomputable def s14 : Sig := ⟨14, Go.Proofs.Tryd.f14, [.val (.cons (.sl (.int .i64)) (.sl (.int .i64)))], [.val .str (.sh false)], false, [], []⟩
noncomputable def s15 : Sig := ⟨16, Go.Proofs.Tryd.f16, [.val (.cons (.sl (.int .i64)) (.sl (.int .i64)))], [.val .str (.sh false)], false, [], []⟩
noncomputable def s16 : Sig := ⟨17, Go.Proofs.Tryd.f17, [.val (.cons (.sl (.int .i64)) (.sl (.int .i64))), .val (.cons (.sl (.int .i64)) (.sl (.int .i64)))], [.val .bool (.sh false)], false, [], []⟩
noncomputable def s17 : Sig := ⟨4, Go.Proofs.Tryd.f4, [.val (.cons (.sl (.int .i64)) (.sl (.int .i64)))], [.val .bool (.sh false)], false, [], []⟩
noncomputable def s18 : Sig := ⟨18, Go.Proofs.Tryd.f18, [.val (.sl (.sl (.int .i64))), .val (.int .i64)], [.val (.int .i64) (.sh false)], false, [(0, [(0, .val .reg (.sl (.sl (.int .i64))) (.sh true)), (1, .val .reg (.int .i64) (.sh false)), (5, .val .reg (.int .i64) (.sh false))])], []⟩
noncomputable def s19 : Sig := ⟨20, Go.Proofs.Tryd.f20, [.val (.sl (.sl (.int .i64)))], [.val (.sl (.sl (.int .i64))) (.own (.own (.sh false)))], false, [(0, [(0, .val .reg (.sl (.sl (.int .i64))) (.sh true)), (3, .val .reg (.sl (.sl (.int .i64))) (.own (.own (.sh false)))), (4, .val .reg (.int .i64) (.sh false))])], []⟩
noncomputable def s20 : Sig := ⟨42, Go.Proofs.Tryd.f42, [.val .str, .val (.int .i64)], [.val .str (.sh false)], false, [], []⟩
noncomputable def s21 : Sig := ⟨19, Go.Proofs.Tryd.f19, [.val (.sl (.sl (.int .i64)))], [.val .str (.sh false)], false, [(0, [(3, .val .reg (.sl .str) (.own (.sh false))), (10, .val .reg (.sl (.sl (.int .i64))) (.sh true)), (11, .val .reg (.int .i64) (.sh false)), (12, .val .reg (.int .i64) (.sh false))]), (2, [(3, .val .reg (.sl .str) (.own (.sh false))), (4, .val .reg (.int .i64) (.sh false)), (10, .val .reg (.sl (.sl (.int .i64))) (.sh true)), (11, .val .reg (.int .i64) (.sh false)), (12, .val .reg (.int .i64) (.sh false)), (17, .val .reg (.sl (.int .i64)) (.sh true)), (18, .val .reg (.int .i64) (.sh false)), (19, .val .reg (.int .i64) (.sh false))])], []⟩
noncomputable def s22 : Sig := ⟨43, Go.Proofs.Tryd.f43, [.val .str, .val (.int .i64)], [.val .str (.sh false)], false, [], []⟩
noncomputable def s23 : Sig := ⟨21, Go.Proofs.Tryd.f21, [.val (.sl (.sl (.int .i64)))], [.val .str (.sh false)], false, [(0, [(3, .val .reg (.sl .str) (.own (.sh false))), (9, .val .reg (.sl (.sl (.int .i64))) (.sh true)), (10, .val .reg (.int .i64) (.sh false)), (11, .val .reg (.int .i64) (.sh false))]), (2, [(3, .val .reg (.sl .str) (.own (.sh false))), (4, .val .reg (.int .i64) (.sh false)), (9, .val .reg (.sl (.sl (.int .i64))) (.sh true)), (10, .val .reg (.int .i64) (.sh false)), (11, .val .reg (.int .i64) (.sh false)), (16, .val .reg (.sl (.int .i64)) (.sh true)), (17, .val .reg (.int .i64) (.sh false)), (18, .val .reg (.int .i64) (.sh false))])], []⟩
noncomputable def s24 : Sig := ⟨22, Go.Proofs.Tryd.f22, [.val (.sl (.sl (.int .i64))), .val (.sl (.sl (.int .i64)))], [.val .bool (.sh false)], false, [(0, [(0, .val .reg (.sl (.sl (.int .i64))) (.sh true)), (1, .val .reg (.sl (.sl (.int .i64))) (.sh true)), (5, .val .reg (.int .i64) (.sh false))])], []⟩
noncomputable def s25 : Sig := ⟨5, Go.Proofs.Tryd.f5, [.val (.sl (.sl (.int .i64)))], [.val .bool (.sh false)], false, [], []⟩
noncomputable def s26 : Sig := ⟨23, Go.Proofs.Tryd.f23, [.val (.sl (.sl (.int .i64)))], [.val (.sl .str) (.own (.sh false))], false, [(0, [(3, .val .reg (.sl .str) (.own (.sh false))), (7, .val .reg (.sl (.sl (.int .i64))) (.sh true)), (8, .val .reg (.int .i64) (.sh false)), (9, .val .reg (.int .i64) (.sh false))])], []⟩
noncomputable def s27 : Sig := ⟨24, Go.Proofs.Tryd.f24, [.val (.sl (.sl (.int .i64)))], [.val (.sl .str) (.own (.sh false))], false, [(0, [(3, .val .reg (.sl .str) (.own (.sh false))), (6, .val .reg (.sl (.sl (.int .i64))) (.sh true)), (7, .val .reg (.int .i64) (.sh false)), (8, .val .reg (.int .i64) (.sh false))])], []⟩
noncomputable def s28 : Sig := ⟨25, Go.Proofs.Tryd.f25, [.val (.sl .str), .val (.sl .str)], [.val .bool (.sh false)], false, [(0, [(0, .val .reg (.sl .str) (.sh true)), (1, .val .reg (.sl .str) (.sh true)), (5, .val .reg (.int .i64) (.sh false))])], []⟩
noncomputable def s29 : Sig := ⟨31, Go.Proofs.Tryd.f31, [.io (.sl (.int .i64)) (.own (.sh false)), .val (.int .i64)], [.val (.int .i64) (.sh false)], false, [(0, [(0, .val .reg (.sl (.int .i64)) (.own (.sh false))), (1, .val .reg (.int .i64) (.sh false)), (5, .val .reg (.int .i64) (.sh false))])], []⟩
noncomputable def s30 : Sig := ⟨26, Go.Proofs.Tryd.f26, [.io (.sl (.sl (.int .i64))) (.own (.own (.sh false))), .val (.int .i64)], [.val (.int .i64) (.sh false)], false, [(0, [(0, .val .reg (.sl (.sl (.int .i64))) (.own (.own (.sh false)))), (1, .val .reg (.int .i64) (.sh false)), (5, .val .reg (.int .i64) (.sh false))])], []⟩
noncomputable def s31 : Sig := ⟨44, Go.Proofs.Tryd.f44, [.val (.int .i64)], [.val .str (.sh false)], false, [(0, [(0, .val .reg (.int .i64) (.sh false)), (3, .val .reg .str (.sh false))])], []⟩
noncomputable def s32 : Sig := ⟨27, Go.Proofs.Tryd.f27, [.io (.sl .str) (.own (.sh false)), .val (.int .i64)], [.val (.int .i64) (.sh false)], false, [(0, [(0, .val .reg (.sl .str) (.own (.sh false))), (1, .val .reg (.int .i64) (.sh false)), (5, .val .reg (.int .i64) (.sh false))])], []⟩
noncomputable def s33 : Sig := ⟨28, Go.Proofs.Tryd.f28, [.val (.sl .str), .val (.int .i64)], [.val (.int .i64) (.sh false)], false, [(0, [(0, .val .reg (.sl .str) (.sh true)), (1, .val .reg (.int .i64) (.sh false)), (5, .val .reg (.int .i64) (.sh false))])], []⟩
noncomputable def s34 : Sig := ⟨6, Go.Proofs.Tryd.f6, [.val (.sl (.sl (.int .i64)))], [.val .bool (.sh false)], false, [(100017, [(0, .val .reg (.sl (.sl (.int .i64))) (.sh true)), (4, .val .reg (.sl .str) (.own (.sh false))), (6, .val .reg (.sl .str) (.own (.sh false))), (8, .val .reg (.int .i64) (.sh false))])], []⟩
noncomputable def s35 : Sig := ⟨46, Go.Proofs.Tryd.f46, [.val .str, .val .str], [.val (.sl .str) (.own (.sh false))], false, [(0, [(0, .val .reg .str (.sh false)), (1, .val .reg .str (.sh false)), (5, .val .reg (.sl .str) (.own (.sh false))), (6, .val .reg (.int .i64) (.sh false)), (7, .val .reg (.int .i64) (.sh false))]), (2, [(0, .val .reg .str (.sh false)), (1, .val .reg .str (.sh false)), (5, .val .reg (.sl .str) (.own (.sh false))), (6, .val .reg (.int .i64) (.sh false)), (7, .val .reg (.int .i64) (.sh false)), (8, .val .reg (.int .i64) (.sh false))])], []⟩
noncomputable def s36 : Sig := ⟨60, Go.Proofs.Tryd.f60, [.val .str], [.val .bool (.sh false)], false, [(0, [(0, .val .reg .str (.sh false)), (3, .val .reg (.int .i64) (.sh false))])], []⟩
noncomputable def s37 : Sig := ⟨52, Go.Proofs.Tryd.f52, [.val .str], [.val (.int .i64) (.sh false), .val .bool (.sh false)], false, [(0, [(0, .val .reg .str (.sh false)), (4, .val .reg .bool (.sh false)), (5, .val .reg .str (.sh false)), (6, .val .reg (.int .i64) (.sh false)), (7, .val .reg (.int .i64) (.sh false))])], []⟩
noncomputable def s38 : Sig := ⟨45, Go.Proofs.Tryd.f45, [.val (.sl .str)], [.val (.sl (.int .i64)) (.own (.sh false)), .val .bool (.sh false)], false, [(0, [(4, .val .reg (.sl (.int .i64)) (.own (.sh false))), (10, .val .reg (.sl .str) (.sh true)), (11, .val .reg (.int .i64) (.sh false)), (12, .val .reg (.int .i64) (.sh false))])], []⟩
noncomputable def s39 : Sig := ⟨29, Go.Proofs.Tryd.f29, [.val .str], [.val (.sl (.int .i64)) (.own (.sh false)), .val .bool (.sh false)], false, [], []⟩
noncomputable def s40 : Sig := ⟨53, Go.Proofs.Tryd.f53, [.val .str, .val (.int .u8)], [.val (.int .i64) (.sh false)], false, [], []⟩
noncomputable def s41 : Sig := ⟨47, Go.Proofs.Tryd.f47, [.val .str, .val .str], [.val (.sl .str) (.own (.sh false))], false, [(0, [(0, .val .reg .str (.sh false)), (1, .val .reg .str (.sh false)), (5, .val .reg (.sl .str) (.own (.sh false))), (6, .val .reg (.int .i64) (.sh false)), (7, .val .reg (.int .i64) (.sh false))])], []⟩
noncomputable def s42 : Sig := ⟨48, Go.Proofs.Tryd.f48, [.val .str], [.val (.int .i64) (.sh false), .val .bool (.sh false)], false, [], []⟩
noncomputable def s43 : Sig := ⟨30, Go.Proofs.Tryd.f30, [.val .str], [.val (.sl (.int .i64)) (.own (.sh false)), .val .bool (.sh false)], false, [(0, [(4, .val .reg (.sl (.int .i64)) (.own (.sh false))), (12, .val .reg (.sl .str) (.own (.sh false))), (13, .val .reg (.int .i64) (.sh false)), (14, .val .reg (.int .i64) (.sh false))])], []⟩
noncomputable def s44 : Sig := ⟨32, Go.Proofs.Tryd.f32, [.val (.sl (.int .i64)), .val (.int .i64)], [.val (.int .i64) (.sh false)], false, [(0, [(0, .val .reg (.sl (.int .i64)) (.sh true)), (1, .val .reg (.int .i64) (.sh false)), (5, .val .reg (.int .i64) (.sh false))])], []⟩
noncomputable def s45 : Sig := ⟨7, Go.Proofs.Tryd.f7, [.val .str], [.val .bool (.sh false)], false, [(100015, [(0, .val .reg .str (.sh false)), (3, .val .reg (.sl (.int .i64)) (.own (.sh false))), (4, .val .reg .bool (.sh false)), (5, .val .reg (.sl (.int .i64)) (.own (.sh false))), (7, .val .reg (.int .i64) (.sh false))])], []⟩
noncomputable def s46 : Sig := ⟨33, Go.Proofs.Tryd.f33, [.val .str], [.val (.cons (.sl (.int .i64)) (.sl (.int .i64))) (.pr (.own (.sh false)) (.own (.sh false))), .val .bool (.sh false)], false, [(100006, [(0, .val .reg .str (.sh false)), (2, .val .box (.cons (.sl (.int .i64)) (.sl (.int .i64))) (.pr (.own (.sh false)) (.own (.sh false)))), (5, .ref .ali 40 [.l] (.sl (.int .i64))), (6, .val .reg .bool (.sh false)), (7, .val .reg (.sl (.int .i64)) (.own (.sh false))), (8, .val .reg .bool (.sh false)), (40, .val .tup (.cons (.sl (.int .i64)) (.one .bool)) (.pr (.own (.sh false)) (.sh false)))])], [(4, 13, 4)]⟩
noncomputable def s47 : Sig := ⟨49, Go.Proofs.Tryd.f49, [.val .str, .val .str], [.val .str (.sh false), .val .str (.sh false), .val .bool (.sh false)], false, [], []⟩
noncomputable def s48 : Sig := ⟨34, Go.Proofs.Tryd.f34, [.val .str], [.val (.cons (.sl (.int .i64)) (.sl (.int .i64))) (.pr (.own (.sh false)) (.own (.sh false))), .val .bool (.sh false)], false, [(100006, [(2, .val .box (.cons (.sl (.int .i64)) (.sl (.int .i64))) (.pr (.own (.sh false)) (.own (.sh false))))]), (100007, [(2, .val .box (.cons (.sl (.int .i64)) (.sl (.int .i64))) (.pr (.own (.sh false)) (.own (.sh false)))), (11, .val .box (.cons (.sl (.int .i64)) (.sl (.int .i64))) (.pr (.own (.sh false)) (.own (.sh false))))])], []⟩
noncomputable def s49 : Sig := ⟨35, Go.Proofs.Tryd.f35, [.io (.cons (.sl (.int .i64)) (.sl (.int .i64))) (.pr (.own (.sh false)) (.own (.sh false))), .val (.int .i64)], [.val (.int .i64) (.sh false)], false, [], []⟩
noncomputable def s50 : Sig := ⟨36, Go.Proofs.Tryd.f36, [.val (.cons (.sl (.int .i64)) (.sl (.int .i64))), .val (.int .i64)], [.val (.int .i64) (.sh false)], false, [], []⟩
noncomputable def s51 : Sig := ⟨8, Go.Proofs.Tryd.f8, [.val .str], [.val .bool (.sh false)], false, [(100013, [(0, .val .reg .str (.sh false)), (3, .val .box (.cons (.sl (.int .i64)) (.sl (.int .i64))) (.pr (.own (.sh false)) (.own (.sh false)))), (4, .val .reg .bool (.sh false)), (5, .val .box (.cons (.sl (.int .i64)) (.sl (.int .i64))) (.pr (.own (.sh false)) (.own (.sh false)))), (7, .val .reg (.int .i64) (.sh false)), (8, .val .reg (.int .i64) (.sh false))])], []⟩
noncomputable def sigs : List Sig := [s0, s1, s2, s3, s4, s5, s6, s7, s8, s9, s10, s11, s12, s13, s14, s15, s16, s17, s18, s19, s20, s21, s22, s23, s24, s25, s26, s27, s28, s29, s30, s31, s32, s33, s34, s35, s36, s37, s38, s39, s40, s41, s42, s43, s44, s45, s46, s47, s48, s49, s50, s51]
noncomputable def Γ : Ctx := ⟨tys, sigs⟩
noncomputable def Xf : Fun Γ := fun n => match n with
  | 4 => fun (a : Int) => (Lb.itoa a : Option ByteArray)
  | 6 => fun (a : ((List ByteArray) × ByteArray)) => (Lb.join a.1 a.2 : Option ByteArray)
  | 40 => fun (a : (ByteArray × Int)) => (Lb.indexByte a.1 a.2 : Option Int)
  | 42 => fun (a : ByteArray) => (Lb.pint a : Option (Int × Bool))
  | 47 => fun (a : (ByteArray × ByteArray)) => (Lb.cut a.1 a.2 : Option (ByteArray × (ByteArray × Bool)))
  | _ => fun _ => none
noncomputable def X : Ext Γ := ⟨fun n => n == 4 || n == 6 || n == 40 || n == 42 || n == 47, Xf⟩
noncomputable def laws_toIntS (a0 : (List Int)) : Option (List Int) := den Γ X 0 a0
noncomputable def laws_toIntS_l0 (x0 : (List Int)) (x3 : (List Int)) (x4 : Int) : Option (List Int) := atF Γ (den Γ X) 0 [1, 1, 0, 1, 0] [(0, ⟨0, 0, 0, .val .reg (.sl (.int .i64)) (.sh true) x0⟩), (3, ⟨0, 0, 0, .val .reg (.sl (.int .i64)) (.own (.sh false)) x3⟩), (4, ⟨0, 0, 0, .val .reg (.int .i64) (.sh false) x4⟩)]
noncomputable def spec_FormatInt (a0 : Int) : Option ByteArray := den Γ X 1 a0
noncomputable def spec_FormatInt_l0 (x0 : Int) (x3 : ByteArray) : Option ByteArray := atF Γ (den Γ X) 1 [1, 1, 1, 0, 0] [(0, ⟨0, 0, 0, .val .reg (.int .i64) (.sh false) x0⟩), (3, ⟨0, 0, 0, .val .reg .str (.sh false) x3⟩)]
noncomputable def spec_Join (a0 : (List ByteArray)) (a1 : ByteArray) : Option ByteArray := den Γ X 2 (a0, a1)
noncomputable def spec_Join_l0 (x1 : ByteArray) (x5 : ByteArray) (x8 : (List ByteArray)) (x9 : Int) (x10 : Int) : Option ByteArray := atF Γ (den Γ X) 2 [1, 1, 0, 1, 0] [(1, ⟨0, 0, 0, .val .reg .str (.sh false) x1⟩), (5, ⟨0, 0, 0, .val .reg .str (.sh false) x5⟩), (8, ⟨0, 0, 0, .val .reg (.sl .str) (.sh true) x8⟩), (9, ⟨0, 0, 0, .val .reg (.int .i64) (.sh false) x9⟩), (10, ⟨0, 0, 0, .val .reg (.int .i64) (.sh false) x10⟩)]
noncomputable def spec_FormatDivisor (a0 : (List Int)) : Option ByteArray := den Γ X 3 a0
noncomputable def spec_FormatDivisor_l0 (x3 : (List ByteArray)) (x7 : (List Int)) (x8 : Int) (x9 : Int) : Option ByteArray := atF Γ (den Γ X) 3 [1, 1, 0, 1, 0] [(3, ⟨0, 0, 0, .val .reg (.sl .str) (.own (.sh false)) x3⟩), (7, ⟨0, 0, 0, .val .reg (.sl (.int .i64)) (.sh true) x7⟩), (8, ⟨0, 0, 0, .val .reg (.int .i64) (.sh false) x8⟩), (9, ⟨0, 0, 0, .val .reg (.int .i64) (.sh false) x9⟩)]
noncomputable def strconv_Itoa (a0 : Int) : Option ByteArray := den Γ X 4 a0
noncomputable def impl_FormatInt (a0 : Int) : Option ByteArray := den Γ X 5 a0
noncomputable def strings_Join (a0 : (List ByteArray)) (a1 : ByteArray) : Option ByteArray := den Γ X 6 (a0, a1)
noncomputable def impl_Join (a0 : (List ByteArray)) (a1 : ByteArray) : Option ByteArray := den Γ X 7 (a0, a1)
noncomputable def impl_FormatDivisor (a0 : (List Int)) : Option ByteArray := den Γ X 8 a0
noncomputable def impl_FormatDivisor_l0 (x3 : (List ByteArray)) (x9 : (List Int)) (x10 : Int) (x11 : Int) : Option ByteArray := atF Γ (den Γ X) 8 [1, 1, 1, 0, 1, 0] [(3, ⟨0, 0, 0, .val .reg (.sl .str) (.own (.sh false)) x3⟩), (9, ⟨0, 0, 0, .val .reg (.sl (.int .i64)) (.sh true) x9⟩), (10, ⟨0, 0, 0, .val .reg (.int .i64) (.sh false) x10⟩), (11, ⟨0, 0, 0, .val .reg (.int .i64) (.sh false) x11⟩)]
noncomputable def laws_eqIntS (a0 : (List Int)) (a1 : (List Int)) : Option Bool := den Γ X 9 (a0, a1)
noncomputable def laws_eqIntS_l0 (x0 : (List Int)) (x1 : (List Int)) (x5 : Int) : Option Bool := atF Γ (den Γ X) 9 [1, 1, 0, 1, 0] [(0, ⟨0, 0, 0, .val .reg (.sl (.int .i64)) (.sh true) x0⟩), (1, ⟨0, 0, 0, .val .reg (.sl (.int .i64)) (.sh true) x1⟩), (5, ⟨0, 0, 0, .val .reg (.int .i64) (.sh false) x5⟩)]
noncomputable def laws_FnExactFormatDivisor (a0 : (List Int)) : Option Bool := den Γ X 10 a0
noncomputable def laws_szIntS (a0 : (List Int)) (a1 : Int) : Option Int := den Γ X 11 (a0, a1)
noncomputable def laws_szMorphism (a0 : ((List Int) × (List Int))) (a1 : Int) : Option Int := den Γ X 12 (a0, a1)
noncomputable def laws_toMorphism (a0 : ((List Int) × (List Int))) : Option ((List Int) × (List Int)) := den Γ X 13 a0
noncomputable def spec_FormatMorphism (a0 : ((List Int) × (List Int))) : Option ByteArray := den Γ X 14 a0
noncomputable def impl_FormatMorphism (a0 : ((List Int) × (List Int))) : Option ByteArray := den Γ X 15 a0
noncomputable def laws_eqMorphism (a0 : ((List Int) × (List Int))) (a1 : ((List Int) × (List Int))) : Option Bool := den Γ X 16 (a0, a1)
noncomputable def laws_FnExactFormatMorphism (a0 : ((List Int) × (List Int))) : Option Bool := den Γ X 17 a0
noncomputable def laws_szIntSS (a0 : (List (List Int))) (a1 : Int) : Option Int := den Γ X 18 (a0, a1)
noncomputable def laws_szIntSS_l0 (x0 : (List (List Int))) (x1 : Int) (x5 : Int) : Option Int := atF Γ (den Γ X) 18 [1, 1, 1, 0, 1, 0] [(0, ⟨0, 0, 0, .val .reg (.sl (.sl (.int .i64))) (.sh true) x0⟩), (1, ⟨0, 0, 0, .val .reg (.int .i64) (.sh false) x1⟩), (5, ⟨0, 0, 0, .val .reg (.int .i64) (.sh false) x5⟩)]
noncomputable def laws_toIntSS (a0 : (List (List Int))) : Option (List (List Int)) := den Γ X 19 a0
noncomputable def laws_toIntSS_l0 (x0 : (List (List Int))) (x3 : (List (List Int))) (x4 : Int) : Option (List (List Int)) := atF Γ (den Γ X) 19 [1, 1, 0, 1, 0] [(0, ⟨0, 0, 0, .val .reg (.sl (.sl (.int .i64))) (.sh true) x0⟩), (3, ⟨0, 0, 0, .val .reg (.sl (.sl (.int .i64))) (.own (.own (.sh false))) x3⟩), (4, ⟨0, 0, 0, .val .reg (.int .i64) (.sh false) x4⟩)]
noncomputable def spec_l18Power (a0 : ByteArray) (a1 : Int) : Option ByteArray := den Γ X 20 (a0, a1)
noncomputable def spec_FormatPolynomial (a0 : (List (List Int))) : Option ByteArray := den Γ X 21 a0
noncomputable def spec_FormatPolynomial_l0 (x3 : (List ByteArray)) (x10 : (List (List Int))) (x11 : Int) (x12 : Int) : Option ByteArray := atF Γ (den Γ X) 21 [1, 1, 0, 1, 0] [(3, ⟨0, 0, 0, .val .reg (.sl .str) (.own (.sh false)) x3⟩), (10, ⟨0, 0, 0, .val .reg (.sl (.sl (.int .i64))) (.sh true) x10⟩), (11, ⟨0, 0, 0, .val .reg (.int .i64) (.sh false) x11⟩), (12, ⟨0, 0, 0, .val .reg (.int .i64) (.sh false) x12⟩)]
noncomputable def spec_FormatPolynomial_l2 (x3 : (List ByteArray)) (x4 : Int) (x10 : (List (List Int))) (x11 : Int) (x12 : Int) (x17 : (List Int)) (x18 : Int) (x19 : Int) : Option ByteArray := atF Γ (den Γ X) 21 [1, 1, 0, 1, 0, 0, 1, 1, 0, 0, 1, 1, 0] [(3, ⟨0, 0, 0, .val .reg (.sl .str) (.own (.sh false)) x3⟩), (4, ⟨0, 0, 0, .val .reg (.int .i64) (.sh false) x4⟩), (10, ⟨0, 0, 0, .val .reg (.sl (.sl (.int .i64))) (.sh true) x10⟩), (11, ⟨0, 0, 0, .val .reg (.int .i64) (.sh false) x11⟩), (12, ⟨0, 0, 0, .val .reg (.int .i64) (.sh false) x12⟩), (17, ⟨0, 0, 0, .val .reg (.sl (.int .i64)) (.sh true) x17⟩), (18, ⟨0, 0, 0, .val .reg (.int .i64) (.sh false) x18⟩), (19, ⟨0, 0, 0, .val .reg (.int .i64) (.sh false) x19⟩)]
noncomputable def impl_powerText (a0 : ByteArray) (a1 : Int) : Option ByteArray := den Γ X 22 (a0, a1)
noncomputable def impl_FormatPolynomial (a0 : (List (List Int))) : Option ByteArray := den Γ X 23 a0
noncomputable def impl_FormatPolynomial_l0 (x3 : (List ByteArray)) (x9 : (List (List Int))) (x10 : Int) (x11 : Int) : Option ByteArray := atF Γ (den Γ X) 23 [1, 1, 0, 1, 0] [(3, ⟨0, 0, 0, .val .reg (.sl .str) (.own (.sh false)) x3⟩), (9, ⟨0, 0, 0, .val .reg (.sl (.sl (.int .i64))) (.sh true) x9⟩), (10, ⟨0, 0, 0, .val .reg (.int .i64) (.sh false) x10⟩), (11, ⟨0, 0, 0, .val .reg (.int .i64) (.sh false) x11⟩)]
noncomputable def impl_FormatPolynomial_l2 (x3 : (List ByteArray)) (x4 : Int) (x9 : (List (List Int))) (x10 : Int) (x11 : Int) (x16 : (List Int)) (x17 : Int) (x18 : Int) : Option ByteArray := atF Γ (den Γ X) 23 [1, 1, 0, 1, 0, 0, 1, 1, 0, 0, 1, 1, 0] [(3, ⟨0, 0, 0, .val .reg (.sl .str) (.own (.sh false)) x3⟩), (4, ⟨0, 0, 0, .val .reg (.int .i64) (.sh false) x4⟩), (9, ⟨0, 0, 0, .val .reg (.sl (.sl (.int .i64))) (.sh true) x9⟩), (10, ⟨0, 0, 0, .val .reg (.int .i64) (.sh false) x10⟩), (11, ⟨0, 0, 0, .val .reg (.int .i64) (.sh false) x11⟩), (16, ⟨0, 0, 0, .val .reg (.sl (.int .i64)) (.sh true) x16⟩), (17, ⟨0, 0, 0, .val .reg (.int .i64) (.sh false) x17⟩), (18, ⟨0, 0, 0, .val .reg (.int .i64) (.sh false) x18⟩)]
noncomputable def laws_eqIntSS (a0 : (List (List Int))) (a1 : (List (List Int))) : Option Bool := den Γ X 24 (a0, a1)
noncomputable def laws_eqIntSS_l0 (x0 : (List (List Int))) (x1 : (List (List Int))) (x5 : Int) : Option Bool := atF Γ (den Γ X) 24 [1, 1, 0, 1, 0] [(0, ⟨0, 0, 0, .val .reg (.sl (.sl (.int .i64))) (.sh true) x0⟩), (1, ⟨0, 0, 0, .val .reg (.sl (.sl (.int .i64))) (.sh true) x1⟩), (5, ⟨0, 0, 0, .val .reg (.int .i64) (.sh false) x5⟩)]
noncomputable def laws_FnExactFormatPolynomial (a0 : (List (List Int))) : Option Bool := den Γ X 25 a0
noncomputable def spec_ListLines (a0 : (List (List Int))) : Option (List ByteArray) := den Γ X 26 a0
noncomputable def spec_ListLines_l0 (x3 : (List ByteArray)) (x7 : (List (List Int))) (x8 : Int) (x9 : Int) : Option (List ByteArray) := atF Γ (den Γ X) 26 [1, 1, 0, 1, 0] [(3, ⟨0, 0, 0, .val .reg (.sl .str) (.own (.sh false)) x3⟩), (7, ⟨0, 0, 0, .val .reg (.sl (.sl (.int .i64))) (.sh true) x7⟩), (8, ⟨0, 0, 0, .val .reg (.int .i64) (.sh false) x8⟩), (9, ⟨0, 0, 0, .val .reg (.int .i64) (.sh false) x9⟩)]
noncomputable def impl_ListLines (a0 : (List (List Int))) : Option (List ByteArray) := den Γ X 27 a0
noncomputable def impl_ListLines_l0 (x3 : (List ByteArray)) (x6 : (List (List Int))) (x7 : Int) (x8 : Int) : Option (List ByteArray) := atF Γ (den Γ X) 27 [1, 1, 0, 1, 0] [(3, ⟨0, 0, 0, .val .reg (.sl .str) (.own (.sh false)) x3⟩), (6, ⟨0, 0, 0, .val .reg (.sl (.sl (.int .i64))) (.sh true) x6⟩), (7, ⟨0, 0, 0, .val .reg (.int .i64) (.sh false) x7⟩), (8, ⟨0, 0, 0, .val .reg (.int .i64) (.sh false) x8⟩)]
noncomputable def laws_eqStringS (a0 : (List ByteArray)) (a1 : (List ByteArray)) : Option Bool := den Γ X 28 (a0, a1)
noncomputable def laws_eqStringS_l0 (x0 : (List ByteArray)) (x1 : (List ByteArray)) (x5 : Int) : Option Bool := atF Γ (den Γ X) 28 [1, 1, 0, 1, 0] [(0, ⟨0, 0, 0, .val .reg (.sl .str) (.sh true) x0⟩), (1, ⟨0, 0, 0, .val .reg (.sl .str) (.sh true) x1⟩), (5, ⟨0, 0, 0, .val .reg (.int .i64) (.sh false) x5⟩)]
noncomputable def laws_markIntS (a0 : (List Int)) (a1 : Int) : Option (Int × (List Int)) := den Γ X 29 (a0, a1)
noncomputable def laws_markIntS_l0 (x0 : (List Int)) (x1 : Int) (x5 : Int) : Option (Int × (List Int)) := atF Γ (den Γ X) 29 [1, 0, 1, 0] [(0, ⟨0, 0, 0, .val .reg (.sl (.int .i64)) (.own (.sh false)) x0⟩), (1, ⟨0, 0, 0, .val .reg (.int .i64) (.sh false) x1⟩), (5, ⟨0, 0, 0, .val .reg (.int .i64) (.sh false) x5⟩)]
noncomputable def laws_markIntSS (a0 : (List (List Int))) (a1 : Int) : Option (Int × (List (List Int))) := den Γ X 30 (a0, a1)
noncomputable def laws_markIntSS_l0 (x0 : (List (List Int))) (x1 : Int) (x5 : Int) : Option (Int × (List (List Int))) := atF Γ (den Γ X) 30 [1, 0, 1, 0] [(0, ⟨0, 0, 0, .val .reg (.sl (.sl (.int .i64))) (.own (.own (.sh false))) x0⟩), (1, ⟨0, 0, 0, .val .reg (.int .i64) (.sh false) x1⟩), (5, ⟨0, 0, 0, .val .reg (.int .i64) (.sh false) x5⟩)]
noncomputable def laws_markText (a0 : Int) : Option ByteArray := den Γ X 31 a0
noncomputable def laws_markText_l0 (x0 : Int) (x3 : ByteArray) : Option ByteArray := atF Γ (den Γ X) 31 [1, 1, 1, 0, 0] [(0, ⟨0, 0, 0, .val .reg (.int .i64) (.sh false) x0⟩), (3, ⟨0, 0, 0, .val .reg .str (.sh false) x3⟩)]
noncomputable def laws_markStringS (a0 : (List ByteArray)) (a1 : Int) : Option (Int × (List ByteArray)) := den Γ X 32 (a0, a1)
noncomputable def laws_markStringS_l0 (x0 : (List ByteArray)) (x1 : Int) (x5 : Int) : Option (Int × (List ByteArray)) := atF Γ (den Γ X) 32 [1, 0, 1, 0] [(0, ⟨0, 0, 0, .val .reg (.sl .str) (.own (.sh false)) x0⟩), (1, ⟨0, 0, 0, .val .reg (.int .i64) (.sh false) x1⟩), (5, ⟨0, 0, 0, .val .reg (.int .i64) (.sh false) x5⟩)]
noncomputable def laws_heldStringS (a0 : (List ByteArray)) (a1 : Int) : Option Int := den Γ X 33 (a0, a1)
noncomputable def laws_heldStringS_l0 (x0 : (List ByteArray)) (x1 : Int) (x5 : Int) : Option Int := atF Γ (den Γ X) 33 [1, 0, 1, 0] [(0, ⟨0, 0, 0, .val .reg (.sl .str) (.sh true) x0⟩), (1, ⟨0, 0, 0, .val .reg (.int .i64) (.sh false) x1⟩), (5, ⟨0, 0, 0, .val .reg (.int .i64) (.sh false) x5⟩)]
noncomputable def laws_FnExactListLines (a0 : (List (List Int))) : Option Bool := den Γ X 34 a0
noncomputable def laws_FnExactListLines_c17 (x0 : (List (List Int))) (x4 : (List ByteArray)) (x6 : (List ByteArray)) (x8 : Int) : Option Bool := atF Γ (den Γ X) 34 [1, 1, 1, 1, 1, 1, 1, 1, 1, 1, 1, 1, 1, 0] [(0, ⟨0, 0, 0, .val .reg (.sl (.sl (.int .i64))) (.sh true) x0⟩), (4, ⟨0, 0, 0, .val .reg (.sl .str) (.own (.sh false)) x4⟩), (6, ⟨0, 0, 0, .val .reg (.sl .str) (.own (.sh false)) x6⟩), (8, ⟨0, 0, 0, .val .reg (.int .i64) (.sh false) x8⟩)]
noncomputable def spec_SplitAny (a0 : ByteArray) (a1 : ByteArray) : Option (List ByteArray) := den Γ X 35 (a0, a1)
noncomputable def spec_SplitAny_l0 (x0 : ByteArray) (x1 : ByteArray) (x5 : (List ByteArray)) (x6 : Int) (x7 : Int) : Option (List ByteArray) := atF Γ (den Γ X) 35 [1, 1, 1, 0, 1, 0] [(0, ⟨0, 0, 0, .val .reg .str (.sh false) x0⟩), (1, ⟨0, 0, 0, .val .reg .str (.sh false) x1⟩), (5, ⟨0, 0, 0, .val .reg (.sl .str) (.own (.sh false)) x5⟩), (6, ⟨0, 0, 0, .val .reg (.int .i64) (.sh false) x6⟩), (7, ⟨0, 0, 0, .val .reg (.int .i64) (.sh false) x7⟩)]
noncomputable def spec_SplitAny_l2 (x0 : ByteArray) (x1 : ByteArray) (x5 : (List ByteArray)) (x6 : Int) (x7 : Int) (x8 : Int) : Option (List ByteArray) := atF Γ (den Γ X) 35 [1, 1, 1, 0, 1, 0, 0, 1, 0, 0, 1, 0] [(0, ⟨0, 0, 0, .val .reg .str (.sh false) x0⟩), (1, ⟨0, 0, 0, .val .reg .str (.sh false) x1⟩), (5, ⟨0, 0, 0, .val .reg (.sl .str) (.own (.sh false)) x5⟩), (6, ⟨0, 0, 0, .val .reg (.int .i64) (.sh false) x6⟩), (7, ⟨0, 0, 0, .val .reg (.int .i64) (.sh false) x7⟩), (8, ⟨0, 0, 0, .val .reg (.int .i64) (.sh false) x8⟩)]
noncomputable def spec_IsDigits (a0 : ByteArray) : Option Bool := den Γ X 36 a0
noncomputable def spec_IsDigits_l0 (x0 : ByteArray) (x3 : Int) : Option Bool := atF Γ (den Γ X) 36 [1, 0, 1, 0] [(0, ⟨0, 0, 0, .val .reg .str (.sh false) x0⟩), (3, ⟨0, 0, 0, .val .reg (.int .i64) (.sh false) x3⟩)]
noncomputable def spec_ParseInt (a0 : ByteArray) : Option (Int × Bool) := den Γ X 37 a0
noncomputable def spec_ParseInt_l0 (x0 : ByteArray) (x4 : Bool) (x5 : ByteArray) (x6 : Int) (x7 : Int) : Option (Int × Bool) := atF Γ (den Γ X) 37 [1, 1, 1, 1, 1, 1, 0, 1, 0] [(0, ⟨0, 0, 0, .val .reg .str (.sh false) x0⟩), (4, ⟨0, 0, 0, .val .reg .bool (.sh false) x4⟩), (5, ⟨0, 0, 0, .val .reg .str (.sh false) x5⟩), (6, ⟨0, 0, 0, .val .reg (.int .i64) (.sh false) x6⟩), (7, ⟨0, 0, 0, .val .reg (.int .i64) (.sh false) x7⟩)]
noncomputable def spec_l18Numbers (a0 : (List ByteArray)) : Option ((List Int) × Bool) := den Γ X 38 a0
noncomputable def spec_l18Numbers_l0 (x4 : (List Int)) (x10 : (List ByteArray)) (x11 : Int) (x12 : Int) : Option ((List Int) × Bool) := atF Γ (den Γ X) 38 [1, 1, 0, 1, 0] [(4, ⟨0, 0, 0, .val .reg (.sl (.int .i64)) (.own (.sh false)) x4⟩), (10, ⟨0, 0, 0, .val .reg (.sl .str) (.sh true) x10⟩), (11, ⟨0, 0, 0, .val .reg (.int .i64) (.sh false) x11⟩), (12, ⟨0, 0, 0, .val .reg (.int .i64) (.sh false) x12⟩)]
noncomputable def spec_ParseDivisor (a0 : ByteArray) : Option ((List Int) × Bool) := den Γ X 39 a0
noncomputable def strings_IndexByte (a0 : ByteArray) (a1 : Int) : Option Int := den Γ X 40 (a0, a1)
noncomputable def impl_SplitAny (a0 : ByteArray) (a1 : ByteArray) : Option (List ByteArray) := den Γ X 41 (a0, a1)
noncomputable def impl_SplitAny_l0 (x0 : ByteArray) (x1 : ByteArray) (x5 : (List ByteArray)) (x6 : Int) (x7 : Int) : Option (List ByteArray) := atF Γ (den Γ X) 41 [1, 1, 1, 0, 1, 0] [(0, ⟨0, 0, 0, .val .reg .str (.sh false) x0⟩), (1, ⟨0, 0, 0, .val .reg .str (.sh false) x1⟩), (5, ⟨0, 0, 0, .val .reg (.sl .str) (.own (.sh false)) x5⟩), (6, ⟨0, 0, 0, .val .reg (.int .i64) (.sh false) x6⟩), (7, ⟨0, 0, 0, .val .reg (.int .i64) (.sh false) x7⟩)]
noncomputable def impl_ParseInt (a0 : ByteArray) : Option (Int × Bool) := den Γ X 42 a0
noncomputable def impl_ParseDivisor (a0 : ByteArray) : Option ((List Int) × Bool) := den Γ X 43 a0
noncomputable def impl_ParseDivisor_l0 (x4 : (List Int)) (x12 : (List ByteArray)) (x13 : Int) (x14 : Int) : Option ((List Int) × Bool) := atF Γ (den Γ X) 43 [1, 1, 1, 0, 1, 0] [(4, ⟨0, 0, 0, .val .reg (.sl (.int .i64)) (.own (.sh false)) x4⟩), (12, ⟨0, 0, 0, .val .reg (.sl .str) (.own (.sh false)) x12⟩), (13, ⟨0, 0, 0, .val .reg (.int .i64) (.sh false) x13⟩), (14, ⟨0, 0, 0, .val .reg (.int .i64) (.sh false) x14⟩)]
noncomputable def laws_heldIntS (a0 : (List Int)) (a1 : Int) : Option Int := den Γ X 44 (a0, a1)
noncomputable def laws_heldIntS_l0 (x0 : (List Int)) (x1 : Int) (x5 : Int) : Option Int := atF Γ (den Γ X) 44 [1, 0, 1, 0] [(0, ⟨0, 0, 0, .val .reg (.sl (.int .i64)) (.sh true) x0⟩), (1, ⟨0, 0, 0, .val .reg (.int .i64) (.sh false) x1⟩), (5, ⟨0, 0, 0, .val .reg (.int .i64) (.sh false) x5⟩)]
noncomputable def laws_FnExactParseDivisor (a0 : ByteArray) : Option Bool := den Γ X 45 a0
noncomputable def laws_FnExactParseDivisor_c15 (x0 : ByteArray) (x3 : (List Int)) (x4 : Bool) (x5 : (List Int)) (x7 : Int) : Option Bool := atF Γ (den Γ X) 45 [1, 1, 1, 1, 1, 1, 1, 1, 1, 1, 1, 0] [(0, ⟨0, 0, 0, .val .reg .str (.sh false) x0⟩), (3, ⟨0, 0, 0, .val .reg (.sl (.int .i64)) (.own (.sh false)) x3⟩), (4, ⟨0, 0, 0, .val .reg .bool (.sh false) x4⟩), (5, ⟨0, 0, 0, .val .reg (.sl (.int .i64)) (.own (.sh false)) x5⟩), (7, ⟨0, 0, 0, .val .reg (.int .i64) (.sh false) x7⟩)]
noncomputable def spec_ParseMorphism (a0 : ByteArray) : Option (((List Int) × (List Int)) × Bool) := den Γ X 46 a0
noncomputable def spec_ParseMorphism_c6 (x0 : ByteArray) (x2 : ((List Int) × (List Int))) (x6 : Bool) (x7 : (List Int)) (x8 : Bool) (x40 : ((List Int) × Bool)) : Option (((List Int) × (List Int)) × Bool) := atF Γ (den Γ X) 46 [1, 1, 1, 1, 1, 0] [(0, ⟨0, 0, 0, .val .reg .str (.sh false) x0⟩), (2, ⟨0, 0, 0, .val .box (.cons (.sl (.int .i64)) (.sl (.int .i64))) (.pr (.own (.sh false)) (.own (.sh false))) x2⟩), (5, ⟨0, 0, 0, .ref .ali 40 0 0 0 [.l] (.sl (.int .i64))⟩), (6, ⟨0, 0, 0, .val .reg .bool (.sh false) x6⟩), (7, ⟨0, 0, 0, .val .reg (.sl (.int .i64)) (.own (.sh false)) x7⟩), (8, ⟨0, 0, 0, .val .reg .bool (.sh false) x8⟩), (40, ⟨0, 0, 0, .val .tup (.cons (.sl (.int .i64)) (.one .bool)) (.pr (.own (.sh false)) (.sh false)) x40⟩)]
noncomputable def strings_Cut (a0 : ByteArray) (a1 : ByteArray) : Option (ByteArray × (ByteArray × Bool)) := den Γ X 47 (a0, a1)
noncomputable def impl_ParseMorphism (a0 : ByteArray) : Option (((List Int) × (List Int)) × Bool) := den Γ X 48 a0
noncomputable def impl_ParseMorphism_c6 (x2 : ((List Int) × (List Int))) : Option (((List Int) × (List Int)) × Bool) := atF Γ (den Γ X) 48 [1, 1, 1, 1, 1, 0, 1, 0, 0] [(2, ⟨0, 0, 0, .val .box (.cons (.sl (.int .i64)) (.sl (.int .i64))) (.pr (.own (.sh false)) (.own (.sh false))) x2⟩)]
noncomputable def impl_ParseMorphism_c7 (x2 : ((List Int) × (List Int))) (x11 : ((List Int) × (List Int))) : Option (((List Int) × (List Int)) × Bool) := atF Γ (den Γ X) 48 [1, 1, 1, 1, 1, 1, 0] [(2, ⟨0, 0, 0, .val .box (.cons (.sl (.int .i64)) (.sl (.int .i64))) (.pr (.own (.sh false)) (.own (.sh false))) x2⟩), (11, ⟨0, 0, 0, .val .box (.cons (.sl (.int .i64)) (.sl (.int .i64))) (.pr (.own (.sh false)) (.own (.sh false))) x11⟩)]
noncomputable def laws_markMorphism (a0 : ((List Int) × (List Int))) (a1 : Int) : Option (Int × ((List Int) × (List Int))) := den Γ X 49 (a0, a1)
noncomputable def laws_heldMorphism (a0 : ((List Int) × (List Int))) (a1 : Int) : Option Int := den Γ X 50 (a0, a1)
noncomputable def laws_FnExactParseMorphism (a0 : ByteArray) : Option Bool := den Γ X 51 a0
noncomputable def laws_FnExactParseMorphism_c13 (x0 : ByteArray) (x3 : ((List Int) × (List Int))) (x4 : Bool) (x5 : ((List Int) × (List Int))) (x7 : Int) (x8 : Int) : Option Bool := atF Γ (den Γ X) 51 [1, 1, 1, 1, 1, 1, 1, 1, 1, 1, 0, 0] [(0, ⟨0, 0, 0, .val .reg .str (.sh false) x0⟩), (3, ⟨0, 0, 0, .val .box (.cons (.sl (.int .i64)) (.sl (.int .i64))) (.pr (.own (.sh false)) (.own (.sh false))) x3⟩), (4, ⟨0, 0, 0, .val .reg .bool (.sh false) x4⟩), (5, ⟨0, 0, 0, .val .box (.cons (.sl (.int .i64)) (.sl (.int .i64))) (.pr (.own (.sh false)) (.own (.sh false))) x5⟩), (7, ⟨0, 0, 0, .val .reg (.int .i64) (.sh false) x7⟩), (8, ⟨0, 0, 0, .val .reg (.int .i64) (.sh false) x8⟩)]
end Go.Proofs.YtaapeofhcopajaaDoor.D

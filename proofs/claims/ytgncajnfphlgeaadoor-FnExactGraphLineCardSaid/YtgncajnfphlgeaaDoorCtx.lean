/-
  What the evaluator is told of this program: its types, the functions that the laws reach; each function as a plain Lean function.
-/
import Derived.Test.YtgncajnfphlgeaaDoorProg
import Derived.Test.YtgncajnfphlgeaaDoorLb
import Derived.KernelRfl
namespace Go.Proofs.YtgncajnfphlgeaaDoor.D
open Go Go.Den
set_option linter.unusedVariables false
set_option maxRecDepth 100000
def tys : List (Option TInfo) := [
  none,
  none,
  some ⟨(.int .i64), [], false⟩,
  some ⟨(.int .i64), [], false⟩,
  some ⟨.bool, [], false⟩,
  some ⟨(.int .u8), [], false⟩,
  some ⟨(.int .u8), [], false⟩,
  some ⟨(.cons (.int .i64) (.cons (.int .i64) (.cons .bool (.int .u8)))), [([.l], (.int .i64)), ([.r, .l], (.int .i64)), ([.r, .r, .l], .bool), ([.r, .r, .r], (.int .u8))], true⟩,
  some ⟨(.cons (.int .i64) (.cons (.int .i64) (.cons .bool (.int .u8)))), [([.l], (.int .i64)), ([.r, .l], (.int .i64)), ([.r, .r, .l], .bool), ([.r, .r, .r], (.int .u8))], true⟩,
  some ⟨.str, [], false⟩,
  some ⟨.str, [], false⟩,
  some ⟨.str, [], false⟩,
  some ⟨(.int .u64), [], false⟩,
  some ⟨(.cons .str (.int .u64)), [([.l], .str), ([.r], (.int .u64))], false⟩,
  some ⟨(.cons .str (.int .u64)), [([.l], .str), ([.r], (.int .u64))], false⟩,
  none,
  none,
  none,
  none,
  none,
  none,
  some ⟨(.int .i32), [], false⟩,
  some ⟨(.sl (.cons (.int .i64) (.int .i64))), [], false⟩,
  some ⟨(.cons (.int .i64) (.sl (.cons (.int .i64) (.int .i64)))), [([.l], (.int .i64)), ([.r], (.sl (.cons (.int .i64) (.int .i64))))], false⟩,
  some ⟨(.cons (.int .i64) (.sl (.cons (.int .i64) (.int .i64)))), [([.l], (.int .i64)), ([.r], (.sl (.cons (.int .i64) (.int .i64))))], false⟩,
  none,
  none,
  some ⟨(.sl (.cons (.int .i64) (.int .i64))), [], false⟩,
  some ⟨(.cons (.int .i64) (.sl (.cons (.int .i64) (.int .i64)))), [([.l], (.int .i64)), ([.r], (.sl (.cons (.int .i64) (.int .i64))))], false⟩,
  some ⟨(.cons (.int .i64) (.sl (.cons (.int .i64) (.int .i64)))), [([.l], (.int .i64)), ([.r], (.sl (.cons (.int .i64) (.int .i64))))], false⟩,
  none,
  none,
  none,
  none,
  none,
  none,
  none,
  some ⟨(.sl (.int .i64)), [], false⟩,
  none,
  none,
  none,
  none,
  some ⟨(.cons (.int .i64) (.int .i64)), [([.l], (.int .i64)), ([.r], (.int .i64))], true⟩,
  some ⟨(.cons (.int .i64) (.int .i64)), [([.l], (.int .i64)), ([.r], (.int .i64))], true⟩,
  some ⟨(.sl (.int .u8)), [], false⟩,
  none,
  some ⟨(.sl (.sl (.int .i64))), [], false⟩,
  none,
  none,
  some ⟨(.sl .str), [], false⟩,
  none,
  none,
  some ⟨(.cons (.int .i64) (.int .i64)), [([.l], (.int .i64)), ([.r], (.int .i64))], true⟩,
  none,
  none,
  none,
  none,
  none,
  none,
  none,
  none,
  none,
  none,
  none,
  none,
  none,
  none,
  none,
  none,
  none,
  none,
  none,
  none,
  none,
  none,
  none,
  none,
  none,
  none,
  none,
  none,
  none,
  none,
  none,
  none,
  some ⟨(.int .u64), [], false⟩,
  none,
  none,
  none,
  none,
  none,
  none,
  none,
  none,
  none,
  some ⟨(.int .u32), [], false⟩,
  none,
  some ⟨(.int .u64), [], false⟩,
  none,
  none,
  none,
  none,
  none,
  none,
  none,
  none,
  none,
  none,
  some ⟨(.int .u8), [], false⟩,
  some ⟨(.int .u8), [], false⟩,
  none,
  some ⟨(.int .i32), [], false⟩,
  some ⟨(.int .i32), [], false⟩,
  none,
  none]
noncomputable def s0 : Sig := ⟨9, Go.Proofs.Tryd.f9, [.val (.sl (.cons (.int .i64) (.int .i64))), .val (.int .i64)], [.val (.int .i64) (.sh false)], false, [], [], false⟩
noncomputable def s1 : Sig := ⟨4, Go.Proofs.Tryd.f4, [.val (.cons (.int .i64) (.sl (.cons (.int .i64) (.int .i64)))), .val (.int .i64)], [.val (.int .i64) (.sh false)], false, [], [], false⟩
noncomputable def s2 : Sig := ⟨30, Go.Proofs.Tryd.f30, [.val (.cons (.int .i64) (.int .i64))], [.val (.cons (.int .i64) (.int .i64)) (.pr (.sh false) (.sh false))], false, [], [], false⟩
noncomputable def s3 : Sig := ⟨16, Go.Proofs.Tryd.f16, [.val (.sl (.cons (.int .i64) (.int .i64)))], [.val (.sl (.cons (.int .i64) (.int .i64))) (.own (.pr (.sh false) (.sh false)))], false, [(0, [(0, .val .reg (.sl (.cons (.int .i64) (.int .i64))) (.sh true)), (3, .val .reg (.sl (.cons (.int .i64) (.int .i64))) (.own (.pr (.sh false) (.sh false)))), (4, .val .reg (.int .i64) (.sh false))])], [], false⟩
noncomputable def s4 : Sig := ⟨6, Go.Proofs.Tryd.f6, [.val (.cons (.int .i64) (.sl (.cons (.int .i64) (.int .i64))))], [.val (.cons (.int .i64) (.sl (.cons (.int .i64) (.int .i64)))) (.pr (.sh false) (.own (.pr (.sh false) (.sh false))))], false, [], [], false⟩
noncomputable def s5 : Sig := ⟨41, Go.Proofs.Tryd.f41, [.val (.int .i64), .val (.int .i64), .val (.int .i64)], [.val .bool (.sh false)], false, [], [], false⟩
noncomputable def s6 : Sig := ⟨24, Go.Proofs.Tryd.f24, [.val (.cons (.int .i64) (.sl (.cons (.int .i64) (.int .i64))))], [.val .bool (.sh false)], false, [(0, [(1, .val .box (.cons (.int .i64) (.sl (.cons (.int .i64) (.int .i64)))) (.sh true)), (16, .val .reg (.sl (.cons (.int .i64) (.int .i64))) (.sh true)), (17, .val .reg (.int .i64) (.sh false)), (18, .val .reg (.int .i64) (.sh false))])], [], false⟩
noncomputable def s7 : Sig := ⟨42, Go.Proofs.Tryd.f42, [.val (.sl (.int .i64)), .val (.int .i64)], [.val .bool (.sh false)], false, [(0, [(1, .val .reg (.int .i64) (.sh false)), (7, .val .reg (.sl (.int .i64)) (.sh true)), (8, .val .reg (.int .i64) (.sh false)), (9, .val .reg (.int .i64) (.sh false))])], [], false⟩
noncomputable def s8 : Sig := ⟨25, Go.Proofs.Tryd.f25, [.val (.cons (.int .i64) (.sl (.cons (.int .i64) (.int .i64))))], [.val (.sl (.int .i64)) (.own (.sh false))], false, [(0, [(1, .val .box (.cons (.int .i64) (.sl (.cons (.int .i64) (.int .i64)))) (.sh true)), (3, .val .reg (.sl (.int .i64)) (.own (.sh false))), (4, .val .reg (.int .i64) (.sh false))]), (2, [(1, .val .box (.cons (.int .i64) (.sl (.cons (.int .i64) (.int .i64)))) (.sh true)), (3, .val .reg (.sl (.int .i64)) (.own (.sh false))), (4, .val .reg (.int .i64) (.sh false)), (15, .val .reg (.sl (.cons (.int .i64) (.int .i64))) (.sh true)), (16, .val .reg (.int .i64) (.sh false)), (17, .val .reg (.int .i64) (.sh false))]), (100011, [(1, .val .box (.cons (.int .i64) (.sl (.cons (.int .i64) (.int .i64)))) (.sh true)), (3, .val .reg (.sl (.int .i64)) (.own (.sh false))), (4, .val .reg (.int .i64) (.sh false)), (6, .val .box (.cons (.int .i64) (.int .i64)) (.pr (.sh false) (.sh false))), (15, .val .reg (.sl (.cons (.int .i64) (.int .i64))) (.sh true)), (16, .val .reg (.int .i64) (.sh false)), (17, .val .reg (.int .i64) (.sh false))]), (100012, [(1, .val .box (.cons (.int .i64) (.sl (.cons (.int .i64) (.int .i64)))) (.sh true)), (3, .val .reg (.sl (.int .i64)) (.own (.sh false))), (4, .val .reg (.int .i64) (.sh false)), (15, .val .reg (.sl (.cons (.int .i64) (.int .i64))) (.sh true)), (16, .val .reg (.int .i64) (.sh false)), (17, .val .reg (.int .i64) (.sh false))])], [], false⟩
noncomputable def s9 : Sig := ⟨10, Go.Proofs.Tryd.f10, [.val (.cons (.int .i64) (.sl (.cons (.int .i64) (.int .i64))))], [.val .bool (.sh false)], false, [(0, [(1, .val .box (.cons (.int .i64) (.sl (.cons (.int .i64) (.int .i64)))) (.sh true)), (9, .val .reg (.sl (.cons (.int .i64) (.int .i64))) (.sh true)), (10, .val .reg (.int .i64) (.sh false)), (11, .val .reg (.int .i64) (.sh false))]), (100008, [(1, .val .box (.cons (.int .i64) (.sl (.cons (.int .i64) (.int .i64)))) (.sh true)), (9, .val .reg (.sl (.cons (.int .i64) (.int .i64))) (.sh true)), (10, .val .reg (.int .i64) (.sh false)), (11, .val .reg (.int .i64) (.sh false))])], [], false⟩
noncomputable def s10 : Sig := ⟨12, Go.Proofs.Tryd.f12, [.val (.cons (.int .i64) (.sl (.cons (.int .i64) (.int .i64))))], [.val (.int .i64) (.sh false)], false, [], [], false⟩
noncomputable def s11 : Sig := ⟨11, Go.Proofs.Tryd.f11, [.val (.int .i64)], [.val .str (.sh false)], false, [(0, [(0, .val .reg (.int .i64) (.sh false)), (3, .val .reg .str (.sh false))])], [], false⟩
noncomputable def s12 : Sig := ⟨71, Go.Proofs.Tryd.f71, [.val (.cons (.int .i64) (.sl (.cons (.int .i64) (.int .i64)))), .val (.int .i64)], [.val .bool (.sh false)], false, [], [], false⟩
noncomputable def s13 : Sig := ⟨60, Go.Proofs.Tryd.f60, [.val (.cons (.int .i64) (.sl (.cons (.int .i64) (.int .i64)))), .val (.int .i64)], [.val (.int .i64) (.sh false)], false, [(0, [(1, .val .reg (.int .i64) (.sh false)), (5, .val .reg (.int .i64) (.sh false)), (13, .val .reg (.sl (.cons (.int .i64) (.int .i64))) (.sh true)), (14, .val .reg (.int .i64) (.sh false)), (15, .val .reg (.int .i64) (.sh false))])], [], false⟩
noncomputable def s14 : Sig := ⟨61, Go.Proofs.Tryd.f61, [.val (.cons (.int .i64) (.sl (.cons (.int .i64) (.int .i64)))), .val (.int .i64), .val (.int .i64)], [.val (.int .i64) (.sh false)], false, [(0, [(1, .val .reg (.int .i64) (.sh false)), (2, .val .reg (.int .i64) (.sh false)), (7, .val .reg (.int .i64) (.sh false)), (26, .val .reg (.sl (.cons (.int .i64) (.int .i64))) (.sh true)), (27, .val .reg (.int .i64) (.sh false)), (28, .val .reg (.int .i64) (.sh false))])], [], false⟩
noncomputable def s15 : Sig := ⟨46, Go.Proofs.Tryd.f46, [.val (.cons (.int .i64) (.sl (.cons (.int .i64) (.int .i64))))], [.val (.sl (.sl (.int .i64))) (.own (.sh false))], false, [(0, [(1, .val .box (.cons (.int .i64) (.sl (.cons (.int .i64) (.int .i64)))) (.sh true)), (3, .val .reg (.sl (.sl (.int .i64))) (.own (.sh false))), (4, .val .reg (.int .i64) (.sh false))]), (2, [(1, .val .box (.cons (.int .i64) (.sl (.cons (.int .i64) (.int .i64)))) (.sh true)), (3, .val .reg (.sl (.sl (.int .i64))) (.own (.sh false))), (4, .val .reg (.int .i64) (.sh false)), (5, .val .reg (.sl (.int .i64)) (.own (.sh false))), (6, .val .reg (.int .i64) (.sh false))])], [], false⟩
noncomputable def s16 : Sig := ⟨27, Go.Proofs.Tryd.f27, [.val (.cons (.int .i64) (.sl (.cons (.int .i64) (.int .i64)))), .val (.int .i64)], [.val (.sl (.sl (.int .i64))) (.own (.sh false))], false, [(0, [(1, .val .reg (.int .i64) (.sh false)), (5, .val .reg (.sl (.sl (.int .i64))) (.own (.sh false))), (21, .val .reg (.sl (.sl (.int .i64))) (.own (.sh false))), (22, .val .reg (.int .i64) (.sh false)), (23, .val .reg (.int .i64) (.sh false))])], [], false⟩
noncomputable def s17 : Sig := ⟨43, Go.Proofs.Tryd.f43, [.val (.sl (.sl (.int .i64)))], [.val .bool (.sh false)], false, [(0, [(0, .val .reg (.sl (.sl (.int .i64))) (.sh true)), (10, .val .reg (.sl (.sl (.int .i64))) (.sh true)), (11, .val .reg (.int .i64) (.sh false)), (12, .val .reg (.int .i64) (.sh false))]), (2, [(0, .val .reg (.sl (.sl (.int .i64))) (.sh true)), (10, .val .reg (.sl (.sl (.int .i64))) (.sh true)), (11, .val .reg (.int .i64) (.sh false)), (12, .val .reg (.int .i64) (.sh false)), (21, .val .reg (.sl (.int .i64)) (.sh true)), (22, .val .reg (.int .i64) (.sh false)), (23, .val .reg (.int .i64) (.sh false))])], [], false⟩
noncomputable def s18 : Sig := ⟨45, Go.Proofs.Tryd.f45, [.val (.int .i64)], [.val (.sl (.int .i64)) (.own (.sh false))], false, [(0, [(0, .val .reg (.int .i64) (.sh false)), (3, .val .reg (.sl (.int .i64)) (.own (.sh false))), (4, .val .reg (.int .i64) (.sh false))])], [], false⟩
noncomputable def s19 : Sig := ⟨44, Go.Proofs.Tryd.f44, [.val (.sl (.sl (.int .i64))), .val (.sl (.int .i64)), .val (.sl (.int .i64))], [.val (.int .i64) (.sh false)], false, [(0, [(0, .val .reg (.sl (.sl (.int .i64))) (.sh true)), (1, .val .reg (.sl (.int .i64)) (.sh true)), (2, .val .reg (.sl (.int .i64)) (.sh true)), (7, .val .reg (.int .i64) (.sh false)), (8, .val .reg (.int .i64) (.sh false)), (16, .val .reg (.sl (.int .i64)) (.sh true)), (17, .val .reg (.int .i64) (.sh false)), (18, .val .reg (.int .i64) (.sh false))]), (100012, [(0, .val .reg (.sl (.sl (.int .i64))) (.sh true)), (1, .val .reg (.sl (.int .i64)) (.sh true)), (2, .val .reg (.sl (.int .i64)) (.sh true)), (7, .val .reg (.int .i64) (.sh false)), (8, .val .reg (.int .i64) (.sh false)), (16, .val .reg (.sl (.int .i64)) (.sh true)), (17, .val .reg (.int .i64) (.sh false)), (18, .val .reg (.int .i64) (.sh false))])], [], false⟩
noncomputable def s20 : Sig := ⟨26, Go.Proofs.Tryd.f26, [.val (.sl (.sl (.int .i64)))], [.val (.int .i64) (.sh false)], false, [], [], false⟩
noncomputable def s21 : Sig := ⟨13, Go.Proofs.Tryd.f13, [.val (.cons (.int .i64) (.sl (.cons (.int .i64) (.int .i64))))], [.val (.int .i64) (.sh false)], false, [], [], false⟩
noncomputable def s22 : Sig := ⟨47, Go.Proofs.Tryd.f47, [.val (.int .i64), .val (.int .i64)], [.val (.sl (.sl (.int .i64))) (.own (.sh false))], false, [(0, [(0, .val .reg (.int .i64) (.sh false)), (5, .val .reg (.sl (.sl (.int .i64))) (.own (.sh false))), (18, .val .reg (.sl (.sl (.int .i64))) (.own (.sh false))), (19, .val .reg (.int .i64) (.sh false)), (20, .val .reg (.int .i64) (.sh false))]), (2, [(0, .val .reg (.int .i64) (.sh false)), (5, .val .reg (.sl (.sl (.int .i64))) (.own (.sh false))), (7, .val .reg (.sl (.int .i64)) (.sh false)), (9, .val .reg (.int .i64) (.sh false)), (18, .val .reg (.sl (.sl (.int .i64))) (.own (.sh false))), (19, .val .reg (.int .i64) (.sh false)), (20, .val .reg (.int .i64) (.sh false))])], [], false⟩
noncomputable def s23 : Sig := ⟨48, Go.Proofs.Tryd.f48, [.val (.int .i64), .val (.int .i64)], [.val (.int .i64) (.sh false)], false, [(0, [(0, .val .reg (.int .i64) (.sh false)), (1, .val .reg (.int .i64) (.sh false))])], [], false⟩
noncomputable def s24 : Sig := ⟨28, Go.Proofs.Tryd.f28, [.val (.sl (.sl (.int .i64)))], [.val (.sl (.int .i64)) (.own (.sh false))], false, [(0, [(0, .val .reg (.sl (.sl (.int .i64))) (.sh true)), (3, .val .reg (.sl (.int .i64)) (.own (.sh false))), (4, .val .reg (.int .i64) (.sh false)), (5, .val .reg (.int .i64) (.sh false))]), (2, [(0, .val .reg (.sl (.sl (.int .i64))) (.sh true)), (3, .val .reg (.sl (.int .i64)) (.own (.sh false))), (4, .val .reg (.int .i64) (.sh false)), (5, .val .reg (.int .i64) (.sh false)), (6, .val .reg (.int .i64) (.sh false)), (7, .val .reg (.sl (.sl (.int .i64))) (.own (.sh false))), (26, .ref .ali 7 [] (.sl (.sl (.int .i64)))), (27, .val .reg (.int .i64) (.sh false)), (28, .val .reg (.int .i64) (.sh false))]), (4, [(0, .val .reg (.sl (.sl (.int .i64))) (.sh true)), (3, .val .reg (.sl (.int .i64)) (.own (.sh false))), (4, .val .reg (.int .i64) (.sh false)), (5, .val .reg (.int .i64) (.sh false)), (6, .val .reg (.int .i64) (.sh false)), (7, .val .reg (.sl (.sl (.int .i64))) (.own (.sh false))), (9, .val .reg (.sl (.int .i64)) (.sh false)), (26, .ref .ali 7 [] (.sl (.sl (.int .i64)))), (27, .val .reg (.int .i64) (.sh false)), (28, .val .reg (.int .i64) (.sh false)), (32, .ref .ali 7 [] (.sl (.sl (.int .i64)))), (33, .val .reg (.int .i64) (.sh false)), (34, .val .reg (.int .i64) (.sh false))])], [], false⟩
noncomputable def s25 : Sig := ⟨14, Go.Proofs.Tryd.f14, [.val (.cons (.int .i64) (.sl (.cons (.int .i64) (.int .i64))))], [.val (.sl (.int .i64)) (.own (.sh false))], false, [(0, [(3, .val .reg (.sl (.int .i64)) (.own (.sh false))), (12, .val .reg (.sl (.int .i64)) (.own (.sh false))), (13, .val .reg (.int .i64) (.sh false)), (14, .val .reg (.int .i64) (.sh false))])], [], false⟩
noncomputable def s26 : Sig := ⟨29, Go.Proofs.Tryd.f29, [.val (.sl .str), .val .str], [.val .str (.sh false)], false, [(0, [(1, .val .reg .str (.sh false)), (5, .val .reg .str (.sh false)), (8, .val .reg (.sl .str) (.sh true)), (9, .val .reg (.int .i64) (.sh false)), (10, .val .reg (.int .i64) (.sh false))])], [], false⟩
noncomputable def s27 : Sig := ⟨15, Go.Proofs.Tryd.f15, [.val (.sl (.int .i64))], [.val .str (.sh false)], false, [(0, [(3, .val .reg (.sl .str) (.own (.sh false))), (7, .val .reg (.sl (.int .i64)) (.sh true)), (8, .val .reg (.int .i64) (.sh false)), (9, .val .reg (.int .i64) (.sh false))])], [], false⟩
noncomputable def s28 : Sig := ⟨5, Go.Proofs.Tryd.f5, [.val (.cons (.int .i64) (.sl (.cons (.int .i64) (.int .i64))))], [.val .str (.sh false)], false, [], [], false⟩
noncomputable def s29 : Sig := ⟨49, Go.Proofs.Tryd.f49, [.val (.int .i64), .val (.int .i64), .val (.int .i64)], [.val .bool (.sh false)], false, [], [], false⟩
noncomputable def s30 : Sig := ⟨31, Go.Proofs.Tryd.f31, [.val (.cons (.int .i64) (.sl (.cons (.int .i64) (.int .i64))))], [.val .bool (.sh false)], false, [(0, [(1, .val .box (.cons (.int .i64) (.sl (.cons (.int .i64) (.int .i64)))) (.sh true)), (16, .val .reg (.sl (.cons (.int .i64) (.int .i64))) (.sh true)), (17, .val .reg (.int .i64) (.sh false)), (18, .val .reg (.int .i64) (.sh false))])], [], false⟩
noncomputable def s31 : Sig := ⟨62, Go.Proofs.Tryd.f62, [.val (.int .i64)], [.val .bool (.sh false)], false, [], [], false⟩
noncomputable def s32 : Sig := ⟨50, Go.Proofs.Tryd.f50, [.val (.int .i64), .val (.int .i64)], [.val (.int .i64) (.sh false)], false, [], [], false⟩
noncomputable def s33 : Sig := ⟨33, Go.Proofs.Tryd.f33, [.val (.cons (.int .i64) (.int .i64)), .val (.cons (.int .i64) (.int .i64))], [.val (.int .i64) (.sh false)], false, [], [], false⟩
noncomputable def s34 : Sig := ⟨32, Go.Proofs.Tryd.f32, [.val (.sl (.cons (.int .i64) (.int .i64))), .fn 33 []], [.val .bool (.sh false)], false, [(0, [(0, .val .reg (.sl (.cons (.int .i64) (.int .i64))) (.sh true)), (1, .fn 33 []), (5, .val .reg (.int .i64) (.sh false))])], [], false⟩
noncomputable def s35 : Sig := ⟨34, Go.Proofs.Tryd.f34, [.val (.int .i64), .val (.sl (.cons (.int .i64) (.int .i64)))], [.val .bool (.sh false)], false, [(0, [(0, .val .reg (.int .i64) (.sh false)), (1, .val .reg (.sl (.cons (.int .i64) (.int .i64))) (.sh true)), (5, .val .reg (.int .i64) (.sh false)), (8, .val .reg (.int .i64) (.sh false)), (9, .val .reg (.int .i64) (.sh false))]), (2, [(0, .val .reg (.int .i64) (.sh false)), (1, .val .reg (.sl (.cons (.int .i64) (.int .i64))) (.sh true)), (5, .val .reg (.int .i64) (.sh false)), (8, .val .reg (.int .i64) (.sh false)), (9, .val .reg (.int .i64) (.sh false)), (11, .val .reg (.sl (.cons (.int .i64) (.int .i64))) (.sh true)), (12, .val .reg (.int .i64) (.sh false)), (13, .val .reg (.int .i64) (.sh false))])], [], false⟩
noncomputable def s36 : Sig := ⟨17, Go.Proofs.Tryd.f17, [.val (.cons (.int .i64) (.sl (.cons (.int .i64) (.int .i64))))], [.val .bool (.sh false)], false, [], [], false⟩
noncomputable def s37 : Sig := ⟨55, Go.Proofs.Tryd.f55, [.val (.cons (.int .i64) (.sl (.cons (.int .i64) (.int .i64)))), .val (.int .i64)], [.val .bool (.sh false)], false, [], [], false⟩
noncomputable def s38 : Sig := ⟨65, Go.Proofs.Tryd.f65, [.val (.cons (.int .i64) (.sl (.cons (.int .i64) (.int .i64)))), .val (.int .i64), .val (.int .i64)], [.val (.int .i64) (.sh false)], false, [(0, [(1, .val .reg (.int .i64) (.sh false)), (2, .val .reg (.int .i64) (.sh false)), (7, .val .reg (.int .i64) (.sh false)), (28, .val .reg (.sl (.cons (.int .i64) (.int .i64))) (.sh true)), (29, .val .reg (.int .i64) (.sh false)), (30, .val .reg (.int .i64) (.sh false))])], [], false⟩
noncomputable def s39 : Sig := ⟨66, Go.Proofs.Tryd.f66, [.val (.cons (.int .i64) (.sl (.cons (.int .i64) (.int .i64)))), .val (.int .i64)], [.val (.int .i64) (.sh false)], false, [(0, [(1, .val .reg (.int .i64) (.sh false)), (5, .val .reg (.int .i64) (.sh false)), (17, .val .reg (.sl (.cons (.int .i64) (.int .i64))) (.sh true)), (18, .val .reg (.int .i64) (.sh false)), (19, .val .reg (.int .i64) (.sh false))])], [], false⟩
noncomputable def s40 : Sig := ⟨56, Go.Proofs.Tryd.f56, [.val (.cons (.int .i64) (.sl (.cons (.int .i64) (.int .i64))))], [.val (.sl (.sl (.int .i64))) (.own (.own (.sh false)))], false, [(0, [(1, .val .box (.cons (.int .i64) (.sl (.cons (.int .i64) (.int .i64)))) (.sh true)), (3, .val .reg (.sl (.sl (.int .i64))) (.own (.own (.sh false)))), (4, .val .reg (.int .i64) (.sh false))]), (2, [(1, .val .box (.cons (.int .i64) (.sl (.cons (.int .i64) (.int .i64)))) (.sh true)), (3, .val .reg (.sl (.sl (.int .i64))) (.own (.own (.sh false)))), (4, .val .reg (.int .i64) (.sh false)), (5, .val .reg (.sl (.int .i64)) (.own (.sh false))), (20, .val .reg (.int .i64) (.sh false)), (21, .val .reg (.int .i64) (.sh false))])], [(14, 2, 2)], false⟩
noncomputable def s41 : Sig := ⟨36, Go.Proofs.Tryd.f36, [.val (.cons (.int .i64) (.sl (.cons (.int .i64) (.int .i64)))), .val (.int .i64)], [.val (.sl (.sl (.int .i64))) (.own (.own (.sh false)))], false, [], [], false⟩
noncomputable def s42 : Sig := ⟨63, Go.Proofs.Tryd.f63, [.val (.sl (.int .i64)), .val (.int .i64), .val (.int .i64)], [.val .bool (.sh false)], false, [(0, [(1, .val .reg (.int .i64) (.sh false)), (2, .val .reg (.int .i64) (.sh false)), (9, .val .reg (.sl (.int .i64)) (.sh true)), (10, .val .reg (.int .i64) (.sh false)), (11, .val .reg (.int .i64) (.sh false))])], [], false⟩
noncomputable def s43 : Sig := ⟨51, Go.Proofs.Tryd.f51, [.val (.sl (.sl (.int .i64)))], [.val .bool (.sh false)], false, [(0, [(0, .val .reg (.sl (.sl (.int .i64))) (.sh true)), (8, .val .reg (.sl (.sl (.int .i64))) (.sh true)), (9, .val .reg (.int .i64) (.sh false)), (10, .val .reg (.int .i64) (.sh false))])], [], false⟩
noncomputable def s44 : Sig := ⟨52, Go.Proofs.Tryd.f52, [.val (.int .i64)], [.val (.sl (.int .i64)) (.own (.sh false))], false, [(0, [(0, .val .reg (.int .i64) (.sh false)), (3, .val .reg (.sl (.int .i64)) (.own (.sh false))), (4, .val .reg (.int .i64) (.sh false))])], [], false⟩
noncomputable def s45 : Sig := ⟨54, Go.Proofs.Tryd.f54, [.val (.sl (.sl (.int .i64))), .val (.sl (.int .i64)), .val (.int .i64)], [.val (.int .i64) (.sh false)], false, [(0, [(0, .val .reg (.sl (.sl (.int .i64))) (.sh true)), (1, .val .reg (.sl (.int .i64)) (.sh true)), (2, .val .reg (.int .i64) (.sh false)), (7, .val .reg (.int .i64) (.sh false)), (8, .val .reg (.int .i64) (.sh false)), (19, .val .reg (.sl (.int .i64)) (.sh true)), (20, .val .reg (.int .i64) (.sh false)), (21, .val .reg (.int .i64) (.sh false))])], [], false⟩
noncomputable def s46 : Sig := ⟨64, Go.Proofs.Tryd.f64, [.val (.int .i64)], [.val (.int .i64) (.sh false)], false, [], [], false⟩
noncomputable def s47 : Sig := ⟨53, Go.Proofs.Tryd.f53, [.val (.int .i64), .val (.int .i64)], [.val (.int .i64) (.sh false)], false, [(0, [(0, .val .reg (.int .i64) (.sh false)), (1, .val .reg (.int .i64) (.sh false))])], [], false⟩
noncomputable def s48 : Sig := ⟨35, Go.Proofs.Tryd.f35, [.val (.sl (.sl (.int .i64)))], [.val (.sl (.int .i64)) (.own (.sh false))], false, [(0, [(0, .val .reg (.sl (.sl (.int .i64))) (.sh true)), (3, .val .reg (.sl (.int .i64)) (.own (.sh false))), (4, .val .reg (.int .i64) (.sh false))]), (2, [(0, .val .reg (.sl (.sl (.int .i64))) (.sh true)), (3, .val .reg (.sl (.int .i64)) (.own (.sh false))), (4, .val .reg (.int .i64) (.sh false)), (5, .val .reg (.sl (.int .i64)) (.own (.sh false))), (6, .val .reg (.int .i64) (.sh false))]), (4, [(3, .val .reg (.sl (.int .i64)) (.own (.sh false))), (7, .val .reg (.sl (.int .i64)) (.own (.sh false))), (58, .val .reg (.int .i64) (.sh false)), (59, .val .reg (.int .i64) (.sh false))])], [], false⟩
noncomputable def s49 : Sig := ⟨18, Go.Proofs.Tryd.f18, [.val (.cons (.int .i64) (.sl (.cons (.int .i64) (.int .i64))))], [.val (.sl (.int .i64)) (.own (.sh false))], false, [(0, [(3, .val .reg (.sl (.int .i64)) (.own (.sh false))), (11, .val .reg (.sl (.int .i64)) (.own (.sh false))), (12, .val .reg (.int .i64) (.sh false)), (13, .val .reg (.int .i64) (.sh false))])], [], false⟩
noncomputable def s50 : Sig := ⟨38, Go.Proofs.Tryd.f38, [.val (.int .i64)], [.val .str (.sh false)], false, [], [], false⟩
noncomputable def s51 : Sig := ⟨20, Go.Proofs.Tryd.f20, [.val (.int .i64)], [.val .str (.sh false)], false, [], [], false⟩
noncomputable def s52 : Sig := ⟨58, Go.Proofs.Tryd.f58, [.val (.sl .str), .val .str], [.val .str (.sh false)], false, [], [], false⟩
noncomputable def s53 : Sig := ⟨37, Go.Proofs.Tryd.f37, [.val (.sl .str), .val .str], [.val .str (.sh false)], false, [], [], false⟩
noncomputable def s54 : Sig := ⟨19, Go.Proofs.Tryd.f19, [.val (.sl (.int .i64))], [.val .str (.sh false)], false, [(0, [(3, .val .reg (.sl .str) (.own (.sh false))), (9, .val .reg (.sl (.int .i64)) (.sh true)), (10, .val .reg (.int .i64) (.sh false)), (11, .val .reg (.int .i64) (.sh false))])], [], false⟩
noncomputable def s55 : Sig := ⟨21, Go.Proofs.Tryd.f21, [.val (.cons (.int .i64) (.sl (.cons (.int .i64) (.int .i64))))], [.val (.int .i64) (.sh false)], false, [], [], false⟩
noncomputable def s56 : Sig := ⟨39, Go.Proofs.Tryd.f39, [.val (.sl (.sl (.int .i64)))], [.val (.int .i64) (.sh false)], false, [], [], false⟩
noncomputable def s57 : Sig := ⟨22, Go.Proofs.Tryd.f22, [.val (.cons (.int .i64) (.sl (.cons (.int .i64) (.int .i64))))], [.val (.int .i64) (.sh false)], false, [], [], false⟩
noncomputable def s58 : Sig := ⟨7, Go.Proofs.Tryd.f7, [.val (.cons (.int .i64) (.sl (.cons (.int .i64) (.int .i64))))], [.val .str (.sh false)], false, [], [], false⟩
noncomputable def s59 : Sig := ⟨40, Go.Proofs.Tryd.f40, [.val (.cons (.int .i64) (.int .i64)), .val (.cons (.int .i64) (.int .i64))], [.val .bool (.sh false)], false, [], [], false⟩
noncomputable def s60 : Sig := ⟨23, Go.Proofs.Tryd.f23, [.val (.sl (.cons (.int .i64) (.int .i64))), .val (.sl (.cons (.int .i64) (.int .i64)))], [.val .bool (.sh false)], false, [(0, [(0, .val .reg (.sl (.cons (.int .i64) (.int .i64))) (.sh true)), (1, .val .reg (.sl (.cons (.int .i64) (.int .i64))) (.sh true)), (5, .val .reg (.int .i64) (.sh false))])], [], false⟩
noncomputable def s61 : Sig := ⟨8, Go.Proofs.Tryd.f8, [.val (.cons (.int .i64) (.sl (.cons (.int .i64) (.int .i64)))), .val (.cons (.int .i64) (.sl (.cons (.int .i64) (.int .i64))))], [.val .bool (.sh false)], false, [], [], false⟩
noncomputable def s62 : Sig := ⟨3, Go.Proofs.Tryd.f3, [.val (.cons (.int .i64) (.sl (.cons (.int .i64) (.int .i64))))], [.val .bool (.sh false)], false, [], [], false⟩
noncomputable def sigs : List Sig := [s0, s1, s2, s3, s4, s5, s6, s7, s8, s9, s10, s11, s12, s13, s14, s15, s16, s17, s18, s19, s20, s21, s22, s23, s24, s25, s26, s27, s28, s29, s30, s31, s32, s33, s34, s35, s36, s37, s38, s39, s40, s41, s42, s43, s44, s45, s46, s47, s48, s49, s50, s51, s52, s53, s54, s55, s56, s57, s58, s59, s60, s61, s62]
noncomputable def Γ : Ctx := ⟨tys, sigs, []⟩
noncomputable def Xf (O : Fun Γ) : Fun Γ := fun n => match n with
  | 41 => fun (a : ((Int × (List (Int × Int))) × Int)) => (Lb.redLap (fun (z0 : (Int × (List (Int × Int)))) (z1 : Int) => (O 37 ((z0, z1) : ((Int × (List (Int × Int))) × Int)) : Option Bool)) (fun (z0 : (Int × (List (Int × Int)))) => (O 40 ((z0) : (Int × (List (Int × Int)))) : Option (List (List Int)))) a.1 a.2 : Option (List (List Int)))
  | 50 => fun (a : Int) => (Lb.itoa a : Option ByteArray)
  | 52 => fun (a : ((List ByteArray) × ByteArray)) => (Lb.join a.1 a.2 : Option ByteArray)
  | _ => fun _ => none
theorem Xlim (O : Nat → Fun Γ) (P : Fun Γ) (hO : ∀ n a, Lim (fun j => O j n a) (P n a)) (n : Nat) (a : (prodTy (Γ.insL n)).den) (h : (n == 41 || n == 50 || n == 52) = true) : Lim (fun j => Xf (O j) n a) (Xf P n a) := by
  simp only [Bool.or_eq_true, beq_iff_eq] at h
  rcases h with (rfl | rfl) | rfl
  · exact Lb.redLap_lim (hO 37) (hO 40) a
  · exact Lim.const (Xf P 50 a)
  · exact Lim.const (Xf P 52 a)
noncomputable def X : Ext Γ := ⟨fun n => n == 41 || n == 50 || n == 52, Xf, Xlim⟩
noncomputable def laws_szEdgeS (a0 : (List (Int × Int))) (a1 : Int) : Option Int := den Γ X 0 (a0, a1)
noncomputable def laws_szGraph (a0 : (Int × (List (Int × Int)))) (a1 : Int) : Option Int := den Γ X 1 (a0, a1)
noncomputable def laws_toEdge (a0 : (Int × Int)) : Option (Int × Int) := den Γ X 2 a0
noncomputable def laws_toEdgeS (a0 : (List (Int × Int))) : Option (List (Int × Int)) := den Γ X 3 a0
noncomputable def laws_toEdgeS_l0 (x0 : (List (Int × Int))) (x3 : (List (Int × Int))) (x4 : Int) : Option (List (Int × Int)) := atF Γ (den Γ X) 3 [1, 1, 0, 1, 0] [(0, ⟨0, 0, 0, .val .reg (.sl (.cons (.int .i64) (.int .i64))) (.sh true) x0⟩), (3, ⟨0, 0, 0, .val .reg (.sl (.cons (.int .i64) (.int .i64))) (.own (.pr (.sh false) (.sh false))) x3⟩), (4, ⟨0, 0, 0, .val .reg (.int .i64) (.sh false) x4⟩)]
noncomputable def laws_toGraph (a0 : (Int × (List (Int × Int)))) : Option (Int × (List (Int × Int))) := den Γ X 4 a0
noncomputable def spec_l01In (a0 : Int) (a1 : Int) (a2 : Int) : Option Bool := den Γ X 5 (a0, a1, a2)
noncomputable def spec_EdgesOk (a0 : (Int × (List (Int × Int)))) : Option Bool := den Γ X 6 a0
noncomputable def spec_EdgesOk_l0 (x1 : (Int × (List (Int × Int)))) (x16 : (List (Int × Int))) (x17 : Int) (x18 : Int) : Option Bool := atF Γ (den Γ X) 6 [1, 1, 0, 1, 0] [(1, ⟨0, 0, 0, .val .box (.cons (.int .i64) (.sl (.cons (.int .i64) (.int .i64)))) (.sh true) x1⟩), (16, ⟨0, 0, 0, .val .reg (.sl (.cons (.int .i64) (.int .i64))) (.sh true) x16⟩), (17, ⟨0, 0, 0, .val .reg (.int .i64) (.sh false) x17⟩), (18, ⟨0, 0, 0, .val .reg (.int .i64) (.sh false) x18⟩)]
noncomputable def spec_l02Has (a0 : (List Int)) (a1 : Int) : Option Bool := den Γ X 7 (a0, a1)
noncomputable def spec_l02Has_l0 (x1 : Int) (x7 : (List Int)) (x8 : Int) (x9 : Int) : Option Bool := atF Γ (den Γ X) 7 [1, 0, 1, 0] [(1, ⟨0, 0, 0, .val .reg (.int .i64) (.sh false) x1⟩), (7, ⟨0, 0, 0, .val .reg (.sl (.int .i64)) (.sh true) x7⟩), (8, ⟨0, 0, 0, .val .reg (.int .i64) (.sh false) x8⟩), (9, ⟨0, 0, 0, .val .reg (.int .i64) (.sh false) x9⟩)]
noncomputable def spec_l02Reach (a0 : (Int × (List (Int × Int)))) : Option (List Int) := den Γ X 8 a0
noncomputable def spec_l02Reach_l0 (x1 : (Int × (List (Int × Int)))) (x3 : (List Int)) (x4 : Int) : Option (List Int) := atF Γ (den Γ X) 8 [1, 1, 0, 1, 0] [(1, ⟨0, 0, 0, .val .box (.cons (.int .i64) (.sl (.cons (.int .i64) (.int .i64)))) (.sh true) x1⟩), (3, ⟨0, 0, 0, .val .reg (.sl (.int .i64)) (.own (.sh false)) x3⟩), (4, ⟨0, 0, 0, .val .reg (.int .i64) (.sh false) x4⟩)]
noncomputable def spec_l02Reach_l2 (x1 : (Int × (List (Int × Int)))) (x3 : (List Int)) (x4 : Int) (x15 : (List (Int × Int))) (x16 : Int) (x17 : Int) : Option (List Int) := atF Γ (den Γ X) 8 [1, 1, 0, 1, 0, 0, 1, 0, 0, 1, 0] [(1, ⟨0, 0, 0, .val .box (.cons (.int .i64) (.sl (.cons (.int .i64) (.int .i64)))) (.sh true) x1⟩), (3, ⟨0, 0, 0, .val .reg (.sl (.int .i64)) (.own (.sh false)) x3⟩), (4, ⟨0, 0, 0, .val .reg (.int .i64) (.sh false) x4⟩), (15, ⟨0, 0, 0, .val .reg (.sl (.cons (.int .i64) (.int .i64))) (.sh true) x15⟩), (16, ⟨0, 0, 0, .val .reg (.int .i64) (.sh false) x16⟩), (17, ⟨0, 0, 0, .val .reg (.int .i64) (.sh false) x17⟩)]
noncomputable def spec_l02Reach_c11 (x1 : (Int × (List (Int × Int)))) (x3 : (List Int)) (x4 : Int) (x6 : (Int × Int)) (x15 : (List (Int × Int))) (x16 : Int) (x17 : Int) : Option (List Int) := atF Γ (den Γ X) 8 [1, 1, 0, 1, 0, 0, 1, 0, 0, 1, 0, 0, 1, 1, 0, 0, 1, 1, 1, 0] [(1, ⟨0, 0, 0, .val .box (.cons (.int .i64) (.sl (.cons (.int .i64) (.int .i64)))) (.sh true) x1⟩), (3, ⟨0, 0, 0, .val .reg (.sl (.int .i64)) (.own (.sh false)) x3⟩), (4, ⟨0, 0, 0, .val .reg (.int .i64) (.sh false) x4⟩), (6, ⟨0, 0, 0, .val .box (.cons (.int .i64) (.int .i64)) (.pr (.sh false) (.sh false)) x6⟩), (15, ⟨0, 0, 0, .val .reg (.sl (.cons (.int .i64) (.int .i64))) (.sh true) x15⟩), (16, ⟨0, 0, 0, .val .reg (.int .i64) (.sh false) x16⟩), (17, ⟨0, 0, 0, .val .reg (.int .i64) (.sh false) x17⟩)]
noncomputable def spec_l02Reach_c12 (x1 : (Int × (List (Int × Int)))) (x3 : (List Int)) (x4 : Int) (x15 : (List (Int × Int))) (x16 : Int) (x17 : Int) : Option (List Int) := atF Γ (den Γ X) 8 [1, 1, 0, 1, 0, 0, 1, 0, 0, 1, 0, 0, 1, 1, 1] [(1, ⟨0, 0, 0, .val .box (.cons (.int .i64) (.sl (.cons (.int .i64) (.int .i64)))) (.sh true) x1⟩), (3, ⟨0, 0, 0, .val .reg (.sl (.int .i64)) (.own (.sh false)) x3⟩), (4, ⟨0, 0, 0, .val .reg (.int .i64) (.sh false) x4⟩), (15, ⟨0, 0, 0, .val .reg (.sl (.cons (.int .i64) (.int .i64))) (.sh true) x15⟩), (16, ⟨0, 0, 0, .val .reg (.int .i64) (.sh false) x16⟩), (17, ⟨0, 0, 0, .val .reg (.int .i64) (.sh false) x17⟩)]
noncomputable def spec_GraphOk (a0 : (Int × (List (Int × Int)))) : Option Bool := den Γ X 9 a0
noncomputable def spec_GraphOk_l0 (x1 : (Int × (List (Int × Int)))) (x9 : (List (Int × Int))) (x10 : Int) (x11 : Int) : Option Bool := atF Γ (den Γ X) 9 [1, 1, 0, 1, 0] [(1, ⟨0, 0, 0, .val .box (.cons (.int .i64) (.sl (.cons (.int .i64) (.int .i64)))) (.sh true) x1⟩), (9, ⟨0, 0, 0, .val .reg (.sl (.cons (.int .i64) (.int .i64))) (.sh true) x9⟩), (10, ⟨0, 0, 0, .val .reg (.int .i64) (.sh false) x10⟩), (11, ⟨0, 0, 0, .val .reg (.int .i64) (.sh false) x11⟩)]
noncomputable def spec_GraphOk_c8 (x1 : (Int × (List (Int × Int)))) (x9 : (List (Int × Int))) (x10 : Int) (x11 : Int) : Option Bool := atF Γ (den Γ X) 9 [1, 1, 0, 1, 0, 0, 1, 1, 1] [(1, ⟨0, 0, 0, .val .box (.cons (.int .i64) (.sl (.cons (.int .i64) (.int .i64)))) (.sh true) x1⟩), (9, ⟨0, 0, 0, .val .reg (.sl (.cons (.int .i64) (.int .i64))) (.sh true) x9⟩), (10, ⟨0, 0, 0, .val .reg (.int .i64) (.sh false) x10⟩), (11, ⟨0, 0, 0, .val .reg (.int .i64) (.sh false) x11⟩)]
noncomputable def spec_GenusOf (a0 : (Int × (List (Int × Int)))) : Option Int := den Γ X 10 a0
noncomputable def spec_FormatInt (a0 : Int) : Option ByteArray := den Γ X 11 a0
noncomputable def spec_FormatInt_l0 (x0 : Int) (x3 : ByteArray) : Option ByteArray := atF Γ (den Γ X) 11 [1, 1, 1, 0, 0] [(0, ⟨0, 0, 0, .val .reg (.int .i64) (.sh false) x0⟩), (3, ⟨0, 0, 0, .val .reg .str (.sh false) x3⟩)]
noncomputable def spec_l02Vert (a0 : (Int × (List (Int × Int)))) (a1 : Int) : Option Bool := den Γ X 12 (a0, a1)
noncomputable def spec_Valence (a0 : (Int × (List (Int × Int)))) (a1 : Int) : Option Int := den Γ X 13 (a0, a1)
noncomputable def spec_Valence_l0 (x1 : Int) (x5 : Int) (x13 : (List (Int × Int))) (x14 : Int) (x15 : Int) : Option Int := atF Γ (den Γ X) 13 [1, 1, 1, 0, 1, 0] [(1, ⟨0, 0, 0, .val .reg (.int .i64) (.sh false) x1⟩), (5, ⟨0, 0, 0, .val .reg (.int .i64) (.sh false) x5⟩), (13, ⟨0, 0, 0, .val .reg (.sl (.cons (.int .i64) (.int .i64))) (.sh true) x13⟩), (14, ⟨0, 0, 0, .val .reg (.int .i64) (.sh false) x14⟩), (15, ⟨0, 0, 0, .val .reg (.int .i64) (.sh false) x15⟩)]
noncomputable def spec_Multiplicity (a0 : (Int × (List (Int × Int)))) (a1 : Int) (a2 : Int) : Option Int := den Γ X 14 (a0, a1, a2)
noncomputable def spec_Multiplicity_l0 (x1 : Int) (x2 : Int) (x7 : Int) (x26 : (List (Int × Int))) (x27 : Int) (x28 : Int) : Option Int := atF Γ (den Γ X) 14 [1, 1, 1, 0, 1, 0] [(1, ⟨0, 0, 0, .val .reg (.int .i64) (.sh false) x1⟩), (2, ⟨0, 0, 0, .val .reg (.int .i64) (.sh false) x2⟩), (7, ⟨0, 0, 0, .val .reg (.int .i64) (.sh false) x7⟩), (26, ⟨0, 0, 0, .val .reg (.sl (.cons (.int .i64) (.int .i64))) (.sh true) x26⟩), (27, ⟨0, 0, 0, .val .reg (.int .i64) (.sh false) x27⟩), (28, ⟨0, 0, 0, .val .reg (.int .i64) (.sh false) x28⟩)]
noncomputable def spec_LaplacianOf (a0 : (Int × (List (Int × Int)))) : Option (List (List Int)) := den Γ X 15 a0
noncomputable def spec_LaplacianOf_l0 (x1 : (Int × (List (Int × Int)))) (x3 : (List (List Int))) (x4 : Int) : Option (List (List Int)) := atF Γ (den Γ X) 15 [1, 1, 1, 0, 1, 0] [(1, ⟨0, 0, 0, .val .box (.cons (.int .i64) (.sl (.cons (.int .i64) (.int .i64)))) (.sh true) x1⟩), (3, ⟨0, 0, 0, .val .reg (.sl (.sl (.int .i64))) (.own (.sh false)) x3⟩), (4, ⟨0, 0, 0, .val .reg (.int .i64) (.sh false) x4⟩)]
noncomputable def spec_LaplacianOf_l2 (x1 : (Int × (List (Int × Int)))) (x3 : (List (List Int))) (x4 : Int) (x5 : (List Int)) (x6 : Int) : Option (List (List Int)) := atF Γ (den Γ X) 15 [1, 1, 1, 0, 1, 0, 0, 1, 0, 0, 1, 0, 1, 0] [(1, ⟨0, 0, 0, .val .box (.cons (.int .i64) (.sl (.cons (.int .i64) (.int .i64)))) (.sh true) x1⟩), (3, ⟨0, 0, 0, .val .reg (.sl (.sl (.int .i64))) (.own (.sh false)) x3⟩), (4, ⟨0, 0, 0, .val .reg (.int .i64) (.sh false) x4⟩), (5, ⟨0, 0, 0, .val .reg (.sl (.int .i64)) (.own (.sh false)) x5⟩), (6, ⟨0, 0, 0, .val .reg (.int .i64) (.sh false) x6⟩)]
noncomputable def spec_ReducedLaplacian (a0 : (Int × (List (Int × Int)))) (a1 : Int) : Option (List (List Int)) := den Γ X 16 (a0, a1)
noncomputable def spec_ReducedLaplacian_l0 (x1 : Int) (x5 : (List (List Int))) (x21 : (List (List Int))) (x22 : Int) (x23 : Int) : Option (List (List Int)) := atF Γ (den Γ X) 16 [1, 1, 1, 0, 1, 0] [(1, ⟨0, 0, 0, .val .reg (.int .i64) (.sh false) x1⟩), (5, ⟨0, 0, 0, .val .reg (.sl (.sl (.int .i64))) (.own (.sh false)) x5⟩), (21, ⟨0, 0, 0, .val .reg (.sl (.sl (.int .i64))) (.own (.sh false)) x21⟩), (22, ⟨0, 0, 0, .val .reg (.int .i64) (.sh false) x22⟩), (23, ⟨0, 0, 0, .val .reg (.int .i64) (.sh false) x23⟩)]
noncomputable def spec_MatrixOk (a0 : (List (List Int))) : Option Bool := den Γ X 17 a0
noncomputable def spec_MatrixOk_l0 (x0 : (List (List Int))) (x10 : (List (List Int))) (x11 : Int) (x12 : Int) : Option Bool := atF Γ (den Γ X) 17 [1, 1, 0, 1, 0] [(0, ⟨0, 0, 0, .val .reg (.sl (.sl (.int .i64))) (.sh true) x0⟩), (10, ⟨0, 0, 0, .val .reg (.sl (.sl (.int .i64))) (.sh true) x10⟩), (11, ⟨0, 0, 0, .val .reg (.int .i64) (.sh false) x11⟩), (12, ⟨0, 0, 0, .val .reg (.int .i64) (.sh false) x12⟩)]
noncomputable def spec_MatrixOk_l2 (x0 : (List (List Int))) (x10 : (List (List Int))) (x11 : Int) (x12 : Int) (x21 : (List Int)) (x22 : Int) (x23 : Int) : Option Bool := atF Γ (den Γ X) 17 [1, 1, 0, 1, 0, 0, 1, 1, 0, 0, 1, 1, 1, 0] [(0, ⟨0, 0, 0, .val .reg (.sl (.sl (.int .i64))) (.sh true) x0⟩), (10, ⟨0, 0, 0, .val .reg (.sl (.sl (.int .i64))) (.sh true) x10⟩), (11, ⟨0, 0, 0, .val .reg (.int .i64) (.sh false) x11⟩), (12, ⟨0, 0, 0, .val .reg (.int .i64) (.sh false) x12⟩), (21, ⟨0, 0, 0, .val .reg (.sl (.int .i64)) (.sh true) x21⟩), (22, ⟨0, 0, 0, .val .reg (.int .i64) (.sh false) x22⟩), (23, ⟨0, 0, 0, .val .reg (.int .i64) (.sh false) x23⟩)]
noncomputable def spec_l03All (a0 : Int) : Option (List Int) := den Γ X 18 a0
noncomputable def spec_l03All_l0 (x0 : Int) (x3 : (List Int)) (x4 : Int) : Option (List Int) := atF Γ (den Γ X) 18 [1, 1, 0, 1, 0] [(0, ⟨0, 0, 0, .val .reg (.int .i64) (.sh false) x0⟩), (3, ⟨0, 0, 0, .val .reg (.sl (.int .i64)) (.own (.sh false)) x3⟩), (4, ⟨0, 0, 0, .val .reg (.int .i64) (.sh false) x4⟩)]
noncomputable def spec_l03Det (a0 : (List (List Int))) (a1 : (List Int)) (a2 : (List Int)) : Option Int := den Γ X 19 (a0, a1, a2)
noncomputable def spec_l03Det_l0 (x0 : (List (List Int))) (x1 : (List Int)) (x2 : (List Int)) (x7 : Int) (x8 : Int) (x16 : (List Int)) (x17 : Int) (x18 : Int) : Option Int := atF Γ (den Γ X) 19 [1, 1, 1, 1, 0, 1, 0] [(0, ⟨0, 0, 0, .val .reg (.sl (.sl (.int .i64))) (.sh true) x0⟩), (1, ⟨0, 0, 0, .val .reg (.sl (.int .i64)) (.sh true) x1⟩), (2, ⟨0, 0, 0, .val .reg (.sl (.int .i64)) (.sh true) x2⟩), (7, ⟨0, 0, 0, .val .reg (.int .i64) (.sh false) x7⟩), (8, ⟨0, 0, 0, .val .reg (.int .i64) (.sh false) x8⟩), (16, ⟨0, 0, 0, .val .reg (.sl (.int .i64)) (.sh true) x16⟩), (17, ⟨0, 0, 0, .val .reg (.int .i64) (.sh false) x17⟩), (18, ⟨0, 0, 0, .val .reg (.int .i64) (.sh false) x18⟩)]
noncomputable def spec_l03Det_c12 (x0 : (List (List Int))) (x1 : (List Int)) (x2 : (List Int)) (x7 : Int) (x8 : Int) (x16 : (List Int)) (x17 : Int) (x18 : Int) : Option Int := atF Γ (den Γ X) 19 [1, 1, 1, 1, 0, 1, 0, 0, 1, 1, 0, 0, 1, 1, 1] [(0, ⟨0, 0, 0, .val .reg (.sl (.sl (.int .i64))) (.sh true) x0⟩), (1, ⟨0, 0, 0, .val .reg (.sl (.int .i64)) (.sh true) x1⟩), (2, ⟨0, 0, 0, .val .reg (.sl (.int .i64)) (.sh true) x2⟩), (7, ⟨0, 0, 0, .val .reg (.int .i64) (.sh false) x7⟩), (8, ⟨0, 0, 0, .val .reg (.int .i64) (.sh false) x8⟩), (16, ⟨0, 0, 0, .val .reg (.sl (.int .i64)) (.sh true) x16⟩), (17, ⟨0, 0, 0, .val .reg (.int .i64) (.sh false) x17⟩), (18, ⟨0, 0, 0, .val .reg (.int .i64) (.sh false) x18⟩)]
noncomputable def spec_Determinant (a0 : (List (List Int))) : Option Int := den Γ X 20 a0
noncomputable def spec_CountTrees (a0 : (Int × (List (Int × Int)))) : Option Int := den Γ X 21 a0
noncomputable def spec_l03Sets (a0 : Int) (a1 : Int) : Option (List (List Int)) := den Γ X 22 (a0, a1)
noncomputable def spec_l03Sets_l0 (x0 : Int) (x5 : (List (List Int))) (x18 : (List (List Int))) (x19 : Int) (x20 : Int) : Option (List (List Int)) := atF Γ (den Γ X) 22 [1, 1, 1, 0, 1, 0] [(0, ⟨0, 0, 0, .val .reg (.int .i64) (.sh false) x0⟩), (5, ⟨0, 0, 0, .val .reg (.sl (.sl (.int .i64))) (.own (.sh false)) x5⟩), (18, ⟨0, 0, 0, .val .reg (.sl (.sl (.int .i64))) (.own (.sh false)) x18⟩), (19, ⟨0, 0, 0, .val .reg (.int .i64) (.sh false) x19⟩), (20, ⟨0, 0, 0, .val .reg (.int .i64) (.sh false) x20⟩)]
noncomputable def spec_l03Sets_l2 (x0 : Int) (x5 : (List (List Int))) (x7 : (List Int)) (x9 : Int) (x18 : (List (List Int))) (x19 : Int) (x20 : Int) : Option (List (List Int)) := atF Γ (den Γ X) 22 [1, 1, 1, 0, 1, 0, 0, 1, 1, 0, 0, 1, 1, 1, 1, 0] [(0, ⟨0, 0, 0, .val .reg (.int .i64) (.sh false) x0⟩), (5, ⟨0, 0, 0, .val .reg (.sl (.sl (.int .i64))) (.own (.sh false)) x5⟩), (7, ⟨0, 0, 0, .val .reg (.sl (.int .i64)) (.sh false) x7⟩), (9, ⟨0, 0, 0, .val .reg (.int .i64) (.sh false) x9⟩), (18, ⟨0, 0, 0, .val .reg (.sl (.sl (.int .i64))) (.own (.sh false)) x18⟩), (19, ⟨0, 0, 0, .val .reg (.int .i64) (.sh false) x19⟩), (20, ⟨0, 0, 0, .val .reg (.int .i64) (.sh false) x20⟩)]
noncomputable def spec_l03Gcd (a0 : Int) (a1 : Int) : Option Int := den Γ X 23 (a0, a1)
noncomputable def spec_l03Gcd_l0 (x0 : Int) (x1 : Int) : Option Int := atF Γ (den Γ X) 23 [1, 1, 1, 0, 0] [(0, ⟨0, 0, 0, .val .reg (.int .i64) (.sh false) x0⟩), (1, ⟨0, 0, 0, .val .reg (.int .i64) (.sh false) x1⟩)]
noncomputable def spec_InvariantFactors (a0 : (List (List Int))) : Option (List Int) := den Γ X 24 a0
noncomputable def spec_InvariantFactors_l0 (x0 : (List (List Int))) (x3 : (List Int)) (x4 : Int) (x5 : Int) : Option (List Int) := atF Γ (den Γ X) 24 [1, 1, 1, 1, 0, 1, 0] [(0, ⟨0, 0, 0, .val .reg (.sl (.sl (.int .i64))) (.sh true) x0⟩), (3, ⟨0, 0, 0, .val .reg (.sl (.int .i64)) (.own (.sh false)) x3⟩), (4, ⟨0, 0, 0, .val .reg (.int .i64) (.sh false) x4⟩), (5, ⟨0, 0, 0, .val .reg (.int .i64) (.sh false) x5⟩)]
noncomputable def spec_InvariantFactors_l2 (x0 : (List (List Int))) (x3 : (List Int)) (x4 : Int) (x5 : Int) (x6 : Int) (x7 : (List (List Int))) (x27 : Int) (x28 : Int) : Option (List Int) := atF Γ (den Γ X) 24 [1, 1, 1, 1, 0, 1, 0, 0, 1, 0, 0, 1, 1, 0, 1, 0] [(0, ⟨0, 0, 0, .val .reg (.sl (.sl (.int .i64))) (.sh true) x0⟩), (3, ⟨0, 0, 0, .val .reg (.sl (.int .i64)) (.own (.sh false)) x3⟩), (4, ⟨0, 0, 0, .val .reg (.int .i64) (.sh false) x4⟩), (5, ⟨0, 0, 0, .val .reg (.int .i64) (.sh false) x5⟩), (6, ⟨0, 0, 0, .val .reg (.int .i64) (.sh false) x6⟩), (7, ⟨0, 0, 0, .val .reg (.sl (.sl (.int .i64))) (.own (.sh false)) x7⟩), (26, ⟨0, 0, 0, .ref .ali 7 0 0 0 [] (.sl (.sl (.int .i64)))⟩), (27, ⟨0, 0, 0, .val .reg (.int .i64) (.sh false) x27⟩), (28, ⟨0, 0, 0, .val .reg (.int .i64) (.sh false) x28⟩)]
noncomputable def spec_InvariantFactors_l4 (x0 : (List (List Int))) (x3 : (List Int)) (x4 : Int) (x5 : Int) (x6 : Int) (x7 : (List (List Int))) (x9 : (List Int)) (x27 : Int) (x28 : Int) (x33 : Int) (x34 : Int) : Option (List Int) := atF Γ (den Γ X) 24 [1, 1, 1, 1, 0, 1, 0, 0, 1, 0, 0, 1, 1, 0, 1, 0, 0, 1, 1, 0, 0, 1, 1, 0] [(0, ⟨0, 0, 0, .val .reg (.sl (.sl (.int .i64))) (.sh true) x0⟩), (3, ⟨0, 0, 0, .val .reg (.sl (.int .i64)) (.own (.sh false)) x3⟩), (4, ⟨0, 0, 0, .val .reg (.int .i64) (.sh false) x4⟩), (5, ⟨0, 0, 0, .val .reg (.int .i64) (.sh false) x5⟩), (6, ⟨0, 0, 0, .val .reg (.int .i64) (.sh false) x6⟩), (7, ⟨0, 0, 0, .val .reg (.sl (.sl (.int .i64))) (.own (.sh false)) x7⟩), (9, ⟨0, 0, 0, .val .reg (.sl (.int .i64)) (.sh false) x9⟩), (26, ⟨0, 0, 0, .ref .ali 7 0 0 0 [] (.sl (.sl (.int .i64)))⟩), (27, ⟨0, 0, 0, .val .reg (.int .i64) (.sh false) x27⟩), (28, ⟨0, 0, 0, .val .reg (.int .i64) (.sh false) x28⟩), (32, ⟨0, 0, 0, .ref .ali 7 0 0 0 [] (.sl (.sl (.int .i64)))⟩), (33, ⟨0, 0, 0, .val .reg (.int .i64) (.sh false) x33⟩), (34, ⟨0, 0, 0, .val .reg (.int .i64) (.sh false) x34⟩)]
noncomputable def spec_GroupFactors (a0 : (Int × (List (Int × Int)))) : Option (List Int) := den Γ X 25 a0
noncomputable def spec_GroupFactors_l0 (x3 : (List Int)) (x12 : (List Int)) (x13 : Int) (x14 : Int) : Option (List Int) := atF Γ (den Γ X) 25 [1, 1, 1, 0, 1, 0] [(3, ⟨0, 0, 0, .val .reg (.sl (.int .i64)) (.own (.sh false)) x3⟩), (12, ⟨0, 0, 0, .val .reg (.sl (.int .i64)) (.own (.sh false)) x12⟩), (13, ⟨0, 0, 0, .val .reg (.int .i64) (.sh false) x13⟩), (14, ⟨0, 0, 0, .val .reg (.int .i64) (.sh false) x14⟩)]
noncomputable def spec_Join (a0 : (List ByteArray)) (a1 : ByteArray) : Option ByteArray := den Γ X 26 (a0, a1)
noncomputable def spec_Join_l0 (x1 : ByteArray) (x5 : ByteArray) (x8 : (List ByteArray)) (x9 : Int) (x10 : Int) : Option ByteArray := atF Γ (den Γ X) 26 [1, 1, 0, 1, 0] [(1, ⟨0, 0, 0, .val .reg .str (.sh false) x1⟩), (5, ⟨0, 0, 0, .val .reg .str (.sh false) x5⟩), (8, ⟨0, 0, 0, .val .reg (.sl .str) (.sh true) x8⟩), (9, ⟨0, 0, 0, .val .reg (.int .i64) (.sh false) x9⟩), (10, ⟨0, 0, 0, .val .reg (.int .i64) (.sh false) x10⟩)]
noncomputable def spec_FormatDivisor (a0 : (List Int)) : Option ByteArray := den Γ X 27 a0
noncomputable def spec_FormatDivisor_l0 (x3 : (List ByteArray)) (x7 : (List Int)) (x8 : Int) (x9 : Int) : Option ByteArray := atF Γ (den Γ X) 27 [1, 1, 0, 1, 0] [(3, ⟨0, 0, 0, .val .reg (.sl .str) (.own (.sh false)) x3⟩), (7, ⟨0, 0, 0, .val .reg (.sl (.int .i64)) (.sh true) x7⟩), (8, ⟨0, 0, 0, .val .reg (.int .i64) (.sh false) x8⟩), (9, ⟨0, 0, 0, .val .reg (.int .i64) (.sh false) x9⟩)]
noncomputable def spec_GraphLine (a0 : (Int × (List (Int × Int)))) : Option ByteArray := den Γ X 28 a0
noncomputable def impl_within (a0 : Int) (a1 : Int) (a2 : Int) : Option Bool := den Γ X 29 (a0, a1, a2)
noncomputable def impl_EdgesOk (a0 : (Int × (List (Int × Int)))) : Option Bool := den Γ X 30 a0
noncomputable def impl_EdgesOk_l0 (x1 : (Int × (List (Int × Int)))) (x16 : (List (Int × Int))) (x17 : Int) (x18 : Int) : Option Bool := atF Γ (den Γ X) 30 [1, 1, 0, 1, 0] [(1, ⟨0, 0, 0, .val .box (.cons (.int .i64) (.sl (.cons (.int .i64) (.int .i64)))) (.sh true) x1⟩), (16, ⟨0, 0, 0, .val .reg (.sl (.cons (.int .i64) (.int .i64))) (.sh true) x16⟩), (17, ⟨0, 0, 0, .val .reg (.int .i64) (.sh false) x17⟩), (18, ⟨0, 0, 0, .val .reg (.int .i64) (.sh false) x18⟩)]
noncomputable def cmp_isNaN_int (a0 : Int) : Option Bool := den Γ X 31 a0
noncomputable def cmp_Compare_int (a0 : Int) (a1 : Int) : Option Int := den Γ X 32 (a0, a1)
noncomputable def impl_compareEdges (a0 : (Int × Int)) (a1 : (Int × Int)) : Option Int := den Γ X 33 (a0, a1)
noncomputable def impl_Edge__compareEdges (a0 : (List (Int × Int))) : Option Bool := den Γ X 34 a0
noncomputable def impl_Edge__compareEdges_l0 (x0 : (List (Int × Int))) (x5 : Int) : Option Bool := atF Γ (den Γ X) 34 [1, 0, 1, 0] [(0, ⟨0, 0, 0, .val .reg (.sl (.cons (.int .i64) (.int .i64))) (.sh true) x0⟩), (1, ⟨0, 0, 0, .fn 33 []⟩), (5, ⟨0, 0, 0, .val .reg (.int .i64) (.sh false) x5⟩)]
noncomputable def impl_connected (a0 : Int) (a1 : (List (Int × Int))) : Option Bool := den Γ X 35 (a0, a1)
noncomputable def impl_connected_l0 (x0 : Int) (x1 : (List (Int × Int))) (x5 : Int) (x8 : Int) (x9 : Int) : Option Bool := atF Γ (den Γ X) 35 [1, 1, 0, 1, 0] [(0, ⟨0, 0, 0, .val .reg (.int .i64) (.sh false) x0⟩), (1, ⟨0, 0, 0, .val .reg (.sl (.cons (.int .i64) (.int .i64))) (.sh true) x1⟩), (5, ⟨0, 0, 0, .val .reg (.int .i64) (.sh false) x5⟩), (8, ⟨0, 0, 0, .val .reg (.int .i64) (.sh false) x8⟩), (9, ⟨0, 0, 0, .val .reg (.int .i64) (.sh false) x9⟩)]
noncomputable def impl_connected_l2 (x0 : Int) (x1 : (List (Int × Int))) (x5 : Int) (x8 : Int) (x9 : Int) (x11 : (List (Int × Int))) (x12 : Int) (x13 : Int) : Option Bool := atF Γ (den Γ X) 35 [1, 1, 0, 1, 0, 0, 1, 1, 0, 0, 1, 0] [(0, ⟨0, 0, 0, .val .reg (.int .i64) (.sh false) x0⟩), (1, ⟨0, 0, 0, .val .reg (.sl (.cons (.int .i64) (.int .i64))) (.sh true) x1⟩), (5, ⟨0, 0, 0, .val .reg (.int .i64) (.sh false) x5⟩), (8, ⟨0, 0, 0, .val .reg (.int .i64) (.sh false) x8⟩), (9, ⟨0, 0, 0, .val .reg (.int .i64) (.sh false) x9⟩), (11, ⟨0, 0, 0, .val .reg (.sl (.cons (.int .i64) (.int .i64))) (.sh true) x11⟩), (12, ⟨0, 0, 0, .val .reg (.int .i64) (.sh false) x12⟩), (13, ⟨0, 0, 0, .val .reg (.int .i64) (.sh false) x13⟩)]
noncomputable def impl_GraphOk (a0 : (Int × (List (Int × Int)))) : Option Bool := den Γ X 36 a0
noncomputable def impl_isVertex (a0 : (Int × (List (Int × Int)))) (a1 : Int) : Option Bool := den Γ X 37 (a0, a1)
noncomputable def impl_Multiplicity (a0 : (Int × (List (Int × Int)))) (a1 : Int) (a2 : Int) : Option Int := den Γ X 38 (a0, a1, a2)
noncomputable def impl_Multiplicity_l0 (x1 : Int) (x2 : Int) (x7 : Int) (x28 : (List (Int × Int))) (x29 : Int) (x30 : Int) : Option Int := atF Γ (den Γ X) 38 [1, 1, 1, 0, 1, 0] [(1, ⟨0, 0, 0, .val .reg (.int .i64) (.sh false) x1⟩), (2, ⟨0, 0, 0, .val .reg (.int .i64) (.sh false) x2⟩), (7, ⟨0, 0, 0, .val .reg (.int .i64) (.sh false) x7⟩), (28, ⟨0, 0, 0, .val .reg (.sl (.cons (.int .i64) (.int .i64))) (.sh true) x28⟩), (29, ⟨0, 0, 0, .val .reg (.int .i64) (.sh false) x29⟩), (30, ⟨0, 0, 0, .val .reg (.int .i64) (.sh false) x30⟩)]
noncomputable def impl_Valence (a0 : (Int × (List (Int × Int)))) (a1 : Int) : Option Int := den Γ X 39 (a0, a1)
noncomputable def impl_Valence_l0 (x1 : Int) (x5 : Int) (x17 : (List (Int × Int))) (x18 : Int) (x19 : Int) : Option Int := atF Γ (den Γ X) 39 [1, 1, 1, 0, 1, 0] [(1, ⟨0, 0, 0, .val .reg (.int .i64) (.sh false) x1⟩), (5, ⟨0, 0, 0, .val .reg (.int .i64) (.sh false) x5⟩), (17, ⟨0, 0, 0, .val .reg (.sl (.cons (.int .i64) (.int .i64))) (.sh true) x17⟩), (18, ⟨0, 0, 0, .val .reg (.int .i64) (.sh false) x18⟩), (19, ⟨0, 0, 0, .val .reg (.int .i64) (.sh false) x19⟩)]
noncomputable def impl_LaplacianOf (a0 : (Int × (List (Int × Int)))) : Option (List (List Int)) := den Γ X 40 a0
noncomputable def impl_LaplacianOf_l0 (x1 : (Int × (List (Int × Int)))) (x3 : (List (List Int))) (x4 : Int) : Option (List (List Int)) := atF Γ (den Γ X) 40 [1, 1, 1, 0, 1, 0] [(1, ⟨0, 0, 0, .val .box (.cons (.int .i64) (.sl (.cons (.int .i64) (.int .i64)))) (.sh true) x1⟩), (3, ⟨0, 0, 0, .val .reg (.sl (.sl (.int .i64))) (.own (.own (.sh false))) x3⟩), (4, ⟨0, 0, 0, .val .reg (.int .i64) (.sh false) x4⟩)]
noncomputable def impl_LaplacianOf_l2 (x1 : (Int × (List (Int × Int)))) (x3 : (List (List Int))) (x4 : Int) (x5 : (List Int)) (x20 : Int) (x21 : Int) : Option (List (List Int)) := atF Γ (den Γ X) 40 [1, 1, 1, 0, 1, 0, 0, 1, 0, 0, 1, 0, 1, 0] [(1, ⟨0, 0, 0, .val .box (.cons (.int .i64) (.sl (.cons (.int .i64) (.int .i64)))) (.sh true) x1⟩), (3, ⟨0, 0, 0, .val .reg (.sl (.sl (.int .i64))) (.own (.own (.sh false))) x3⟩), (4, ⟨0, 0, 0, .val .reg (.int .i64) (.sh false) x4⟩), (5, ⟨0, 0, 0, .val .reg (.sl (.int .i64)) (.own (.sh false)) x5⟩), (20, ⟨0, 0, 0, .val .reg (.int .i64) (.sh false) x20⟩), (21, ⟨0, 0, 0, .val .reg (.int .i64) (.sh false) x21⟩)]
noncomputable def impl_ReducedLaplacian (a0 : (Int × (List (Int × Int)))) (a1 : Int) : Option (List (List Int)) := den Γ X 41 (a0, a1)
noncomputable def impl_allWithin (a0 : (List Int)) (a1 : Int) (a2 : Int) : Option Bool := den Γ X 42 (a0, a1, a2)
noncomputable def impl_allWithin_l0 (x1 : Int) (x2 : Int) (x9 : (List Int)) (x10 : Int) (x11 : Int) : Option Bool := atF Γ (den Γ X) 42 [1, 0, 1, 0] [(1, ⟨0, 0, 0, .val .reg (.int .i64) (.sh false) x1⟩), (2, ⟨0, 0, 0, .val .reg (.int .i64) (.sh false) x2⟩), (9, ⟨0, 0, 0, .val .reg (.sl (.int .i64)) (.sh true) x9⟩), (10, ⟨0, 0, 0, .val .reg (.int .i64) (.sh false) x10⟩), (11, ⟨0, 0, 0, .val .reg (.int .i64) (.sh false) x11⟩)]
noncomputable def impl_MatrixOk (a0 : (List (List Int))) : Option Bool := den Γ X 43 a0
noncomputable def impl_MatrixOk_l0 (x0 : (List (List Int))) (x8 : (List (List Int))) (x9 : Int) (x10 : Int) : Option Bool := atF Γ (den Γ X) 43 [1, 1, 0, 1, 0] [(0, ⟨0, 0, 0, .val .reg (.sl (.sl (.int .i64))) (.sh true) x0⟩), (8, ⟨0, 0, 0, .val .reg (.sl (.sl (.int .i64))) (.sh true) x8⟩), (9, ⟨0, 0, 0, .val .reg (.int .i64) (.sh false) x9⟩), (10, ⟨0, 0, 0, .val .reg (.int .i64) (.sh false) x10⟩)]
noncomputable def impl_bitsOf (a0 : Int) : Option (List Int) := den Γ X 44 a0
noncomputable def impl_bitsOf_l0 (x0 : Int) (x3 : (List Int)) (x4 : Int) : Option (List Int) := atF Γ (den Γ X) 44 [1, 1, 0, 1, 0] [(0, ⟨0, 0, 0, .val .reg (.int .i64) (.sh false) x0⟩), (3, ⟨0, 0, 0, .val .reg (.sl (.int .i64)) (.own (.sh false)) x3⟩), (4, ⟨0, 0, 0, .val .reg (.int .i64) (.sh false) x4⟩)]
noncomputable def impl_determinant (a0 : (List (List Int))) (a1 : (List Int)) (a2 : Int) : Option Int := den Γ X 45 (a0, a1, a2)
noncomputable def impl_determinant_l0 (x0 : (List (List Int))) (x1 : (List Int)) (x2 : Int) (x7 : Int) (x8 : Int) (x19 : (List Int)) (x20 : Int) (x21 : Int) : Option Int := atF Γ (den Γ X) 45 [1, 1, 1, 0, 1, 0] [(0, ⟨0, 0, 0, .val .reg (.sl (.sl (.int .i64))) (.sh true) x0⟩), (1, ⟨0, 0, 0, .val .reg (.sl (.int .i64)) (.sh true) x1⟩), (2, ⟨0, 0, 0, .val .reg (.int .i64) (.sh false) x2⟩), (7, ⟨0, 0, 0, .val .reg (.int .i64) (.sh false) x7⟩), (8, ⟨0, 0, 0, .val .reg (.int .i64) (.sh false) x8⟩), (19, ⟨0, 0, 0, .val .reg (.sl (.int .i64)) (.sh true) x19⟩), (20, ⟨0, 0, 0, .val .reg (.int .i64) (.sh false) x20⟩), (21, ⟨0, 0, 0, .val .reg (.int .i64) (.sh false) x21⟩)]
noncomputable def impl_magnitude (a0 : Int) : Option Int := den Γ X 46 a0
noncomputable def impl_divisor (a0 : Int) (a1 : Int) : Option Int := den Γ X 47 (a0, a1)
noncomputable def impl_divisor_l0 (x0 : Int) (x1 : Int) : Option Int := atF Γ (den Γ X) 47 [1, 0, 0] [(0, ⟨0, 0, 0, .val .reg (.int .i64) (.sh false) x0⟩), (1, ⟨0, 0, 0, .val .reg (.int .i64) (.sh false) x1⟩)]
noncomputable def impl_InvariantFactors (a0 : (List (List Int))) : Option (List Int) := den Γ X 48 a0
noncomputable def impl_InvariantFactors_l0 (x0 : (List (List Int))) (x3 : (List Int)) (x4 : Int) : Option (List Int) := atF Γ (den Γ X) 48 [1, 1, 1, 0, 1, 0] [(0, ⟨0, 0, 0, .val .reg (.sl (.sl (.int .i64))) (.sh true) x0⟩), (3, ⟨0, 0, 0, .val .reg (.sl (.int .i64)) (.own (.sh false)) x3⟩), (4, ⟨0, 0, 0, .val .reg (.int .i64) (.sh false) x4⟩)]
noncomputable def impl_InvariantFactors_l2 (x0 : (List (List Int))) (x3 : (List Int)) (x4 : Int) (x5 : (List Int)) (x6 : Int) : Option (List Int) := atF Γ (den Γ X) 48 [1, 1, 1, 0, 1, 0, 0, 1, 0, 0, 1, 1, 0] [(0, ⟨0, 0, 0, .val .reg (.sl (.sl (.int .i64))) (.sh true) x0⟩), (3, ⟨0, 0, 0, .val .reg (.sl (.int .i64)) (.own (.sh false)) x3⟩), (4, ⟨0, 0, 0, .val .reg (.int .i64) (.sh false) x4⟩), (5, ⟨0, 0, 0, .val .reg (.sl (.int .i64)) (.own (.sh false)) x5⟩), (6, ⟨0, 0, 0, .val .reg (.int .i64) (.sh false) x6⟩)]
noncomputable def impl_InvariantFactors_l4 (x3 : (List Int)) (x7 : (List Int)) (x58 : Int) (x59 : Int) : Option (List Int) := atF Γ (den Γ X) 48 [1, 1, 1, 1, 1, 0, 1, 0] [(3, ⟨0, 0, 0, .val .reg (.sl (.int .i64)) (.own (.sh false)) x3⟩), (7, ⟨0, 0, 0, .val .reg (.sl (.int .i64)) (.own (.sh false)) x7⟩), (58, ⟨0, 0, 0, .val .reg (.int .i64) (.sh false) x58⟩), (59, ⟨0, 0, 0, .val .reg (.int .i64) (.sh false) x59⟩)]
noncomputable def impl_GroupFactors (a0 : (Int × (List (Int × Int)))) : Option (List Int) := den Γ X 49 a0
noncomputable def impl_GroupFactors_l0 (x3 : (List Int)) (x11 : (List Int)) (x12 : Int) (x13 : Int) : Option (List Int) := atF Γ (den Γ X) 49 [1, 1, 1, 0, 1, 0] [(3, ⟨0, 0, 0, .val .reg (.sl (.int .i64)) (.own (.sh false)) x3⟩), (11, ⟨0, 0, 0, .val .reg (.sl (.int .i64)) (.own (.sh false)) x11⟩), (12, ⟨0, 0, 0, .val .reg (.int .i64) (.sh false) x12⟩), (13, ⟨0, 0, 0, .val .reg (.int .i64) (.sh false) x13⟩)]
noncomputable def strconv_Itoa (a0 : Int) : Option ByteArray := den Γ X 50 a0
noncomputable def impl_FormatInt (a0 : Int) : Option ByteArray := den Γ X 51 a0
noncomputable def strings_Join (a0 : (List ByteArray)) (a1 : ByteArray) : Option ByteArray := den Γ X 52 (a0, a1)
noncomputable def impl_Join (a0 : (List ByteArray)) (a1 : ByteArray) : Option ByteArray := den Γ X 53 (a0, a1)
noncomputable def impl_FormatDivisor (a0 : (List Int)) : Option ByteArray := den Γ X 54 a0
noncomputable def impl_FormatDivisor_l0 (x3 : (List ByteArray)) (x9 : (List Int)) (x10 : Int) (x11 : Int) : Option ByteArray := atF Γ (den Γ X) 54 [1, 1, 1, 0, 1, 0] [(3, ⟨0, 0, 0, .val .reg (.sl .str) (.own (.sh false)) x3⟩), (9, ⟨0, 0, 0, .val .reg (.sl (.int .i64)) (.sh true) x9⟩), (10, ⟨0, 0, 0, .val .reg (.int .i64) (.sh false) x10⟩), (11, ⟨0, 0, 0, .val .reg (.int .i64) (.sh false) x11⟩)]
noncomputable def impl_GenusOf (a0 : (Int × (List (Int × Int)))) : Option Int := den Γ X 55 a0
noncomputable def impl_Determinant (a0 : (List (List Int))) : Option Int := den Γ X 56 a0
noncomputable def impl_CountTrees (a0 : (Int × (List (Int × Int)))) : Option Int := den Γ X 57 a0
noncomputable def impl_GraphLine (a0 : (Int × (List (Int × Int)))) : Option ByteArray := den Γ X 58 a0
noncomputable def laws_eqEdge (a0 : (Int × Int)) (a1 : (Int × Int)) : Option Bool := den Γ X 59 (a0, a1)
noncomputable def laws_eqEdgeS (a0 : (List (Int × Int))) (a1 : (List (Int × Int))) : Option Bool := den Γ X 60 (a0, a1)
noncomputable def laws_eqEdgeS_l0 (x0 : (List (Int × Int))) (x1 : (List (Int × Int))) (x5 : Int) : Option Bool := atF Γ (den Γ X) 60 [1, 1, 0, 1, 0] [(0, ⟨0, 0, 0, .val .reg (.sl (.cons (.int .i64) (.int .i64))) (.sh true) x0⟩), (1, ⟨0, 0, 0, .val .reg (.sl (.cons (.int .i64) (.int .i64))) (.sh true) x1⟩), (5, ⟨0, 0, 0, .val .reg (.int .i64) (.sh false) x5⟩)]
noncomputable def laws_eqGraph (a0 : (Int × (List (Int × Int)))) (a1 : (Int × (List (Int × Int)))) : Option Bool := den Γ X 61 (a0, a1)
noncomputable def laws_FnExactGraphLine (a0 : (Int × (List (Int × Int)))) : Option Bool := den Γ X 62 a0
end Go.Proofs.YtgncajnfphlgeaaDoor.D

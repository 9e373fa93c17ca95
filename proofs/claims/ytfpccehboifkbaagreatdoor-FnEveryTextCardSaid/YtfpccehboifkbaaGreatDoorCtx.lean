/-
  What the evaluator is told of this program: its types, the functions that the laws reach; each function as a plain Lean function.
-/
import Derived.Test.YtfpccehboifkbaaGreatDoorProg
import Derived.Test.YtfpccehboifkbaaGreatDoorLb
import Derived.KernelRfl
namespace Go.Proofs.YtfpccehboifkbaaGreatDoor.D
open Go Go.Den
set_option linter.unusedVariables false
set_option maxRecDepth 100000
def tys : List (Option TInfo) := [
  none,
  none,
  some ⟨(.int .i64), [], false⟩,
  some ⟨(.int .i64), [], false⟩,
  some ⟨.bool, [], false⟩,
  some ⟨(.int .u8), [], false⟩,
  some ⟨(.int .u8), [], false⟩,
  some ⟨(.cons (.int .i64) (.cons (.int .i64) (.cons .bool (.int .u8)))), [([.l], (.int .i64)), ([.r, .l], (.int .i64)), ([.r, .r, .l], .bool), ([.r, .r, .r], (.int .u8))], true⟩,
  some ⟨(.cons (.int .i64) (.cons (.int .i64) (.cons .bool (.int .u8)))), [([.l], (.int .i64)), ([.r, .l], (.int .i64)), ([.r, .r, .l], .bool), ([.r, .r, .r], (.int .u8))], true⟩,
  some ⟨.str, [], false⟩,
  some ⟨.str, [], false⟩,
  some ⟨.str, [], false⟩,
  some ⟨(.int .u64), [], false⟩,
  some ⟨(.cons .str (.int .u64)), [([.l], .str), ([.r], (.int .u64))], false⟩,
  some ⟨(.cons .str (.int .u64)), [([.l], .str), ([.r], (.int .u64))], false⟩,
  none,
  none,
  none,
  none,
  none,
  none,
  some ⟨(.int .i32), [], false⟩,
  some ⟨(.sl (.cons (.int .i64) (.int .i64))), [], false⟩,
  some ⟨(.cons (.int .i64) (.sl (.cons (.int .i64) (.int .i64)))), [([.l], (.int .i64)), ([.r], (.sl (.cons (.int .i64) (.int .i64))))], false⟩,
  some ⟨(.cons (.int .i64) (.sl (.cons (.int .i64) (.int .i64)))), [([.l], (.int .i64)), ([.r], (.sl (.cons (.int .i64) (.int .i64))))], false⟩,
  none,
  some ⟨(.sl (.int .i64)), [], false⟩,
  none,
  none,
  some ⟨(.sl (.cons (.int .i64) (.int .i64))), [], false⟩,
  some ⟨(.cons (.int .i64) (.sl (.cons (.int .i64) (.int .i64)))), [([.l], (.int .i64)), ([.r], (.sl (.cons (.int .i64) (.int .i64))))], false⟩,
  some ⟨(.cons (.int .i64) (.sl (.cons (.int .i64) (.int .i64)))), [([.l], (.int .i64)), ([.r], (.sl (.cons (.int .i64) (.int .i64))))], false⟩,
  none,
  none,
  none,
  none,
  none,
  none,
  none,
  none,
  none,
  none,
  some ⟨(.sl (.int .u8)), [], false⟩,
  none,
  none,
  none,
  none,
  none,
  none,
  none,
  none,
  none,
  none,
  none,
  some ⟨(.sl (.sl (.int .i64))), [], false⟩,
  none,
  none,
  none,
  none,
  none,
  none,
  none,
  none,
  none,
  none,
  none,
  none,
  none,
  none,
  none,
  some ⟨(.sl .str), [], false⟩,
  none,
  none,
  none,
  none,
  none,
  none,
  none,
  none,
  none,
  none,
  none,
  none,
  none,
  none,
  none,
  none,
  none,
  none,
  none,
  none,
  none,
  none,
  none,
  none,
  none,
  none,
  none,
  none,
  none,
  none,
  none,
  none,
  none,
  none,
  none,
  some ⟨(.cons (.int .i64) (.int .i64)), [([.l], (.int .i64)), ([.r], (.int .i64))], true⟩,
  some ⟨(.cons (.int .i64) (.int .i64)), [([.l], (.int .i64)), ([.r], (.int .i64))], true⟩,
  none,
  none,
  some ⟨(.cons (.int .i64) (.int .i64)), [([.l], (.int .i64)), ([.r], (.int .i64))], true⟩,
  none,
  none,
  none,
  some ⟨(.cons (.sl (.int .u8)) (.cons (.int .i64) (.int .i64))), [([.l], (.sl (.int .u8))), ([.r, .l], (.int .i64)), ([.r, .r], (.int .i64))], false⟩,
  some ⟨(.cons (.sl (.int .u8)) (.cons (.int .i64) (.int .i64))), [([.l], (.sl (.int .u8))), ([.r, .l], (.int .i64)), ([.r, .r], (.int .i64))], false⟩,
  none,
  none,
  none,
  none,
  none,
  some ⟨(.int .u64), [], false⟩,
  none,
  none,
  none,
  none,
  none,
  none,
  none,
  none,
  none,
  none,
  none,
  none,
  none,
  none,
  none,
  none,
  none,
  none,
  none,
  none,
  none,
  none,
  none,
  none,
  none,
  none,
  none,
  none,
  none,
  none,
  none,
  none,
  none,
  none,
  none,
  none,
  none,
  some ⟨(.int .i64), [], false⟩,
  none,
  none,
  none,
  none,
  none,
  none,
  some ⟨(.int .u32), [], false⟩,
  none,
  some ⟨(.int .u64), [], false⟩,
  none,
  none,
  none,
  none,
  none,
  none,
  none,
  some ⟨(.int .i64), [], false⟩,
  none,
  none,
  none,
  none,
  none,
  none,
  some ⟨(.int .u64), [], false⟩,
  none,
  none,
  none,
  none,
  none,
  none,
  none,
  none,
  none,
  none,
  none,
  none,
  none,
  none,
  none,
  none,
  none,
  none,
  none,
  some ⟨(.sl .bool), [], false⟩,
  none,
  none,
  none,
  none,
  none,
  some ⟨(.one .str), [([.l], .str)], false⟩,
  some ⟨(.one .str), [([.l], .str)], false⟩,
  none,
  none,
  none,
  none,
  none,
  none,
  none,
  none,
  some ⟨(.int .u8), [], false⟩,
  some ⟨(.int .u8), [], false⟩,
  none,
  some ⟨(.int .i32), [], false⟩,
  some ⟨(.int .i32), [], false⟩,
  none,
  none]
noncomputable def s0 : Sig := ⟨154, Go.Proofs.Tryz.f154, [.val .str, .val (.int .u8)], [.val (.int .i64) (.sh false)], false, [], []⟩
noncomputable def s1 : Sig := ⟨110, Go.Proofs.Tryz.f110, [.val .str, .val .str], [.val (.sl .str) (.own (.sh false))], false, [(0, [(0, .val .reg .str (.sh false)), (1, .val .reg .str (.sh false)), (5, .val .reg (.sl .str) (.own (.sh false))), (6, .val .reg (.int .i64) (.sh false)), (7, .val .reg (.int .i64) (.sh false))])], []⟩
noncomputable def s2 : Sig := ⟨112, Go.Proofs.Tryz.f112, [.val .str, .val .str], [.val .str (.sh false)], false, [], []⟩
noncomputable def s3 : Sig := ⟨111, Go.Proofs.Tryz.f111, [.val .str], [.val (.int .i64) (.sh false), .val .bool (.sh false)], false, [], []⟩
noncomputable def s4 : Sig := ⟨113, Go.Proofs.Tryz.f113, [.val .str, .val .str], [.val .str (.sh false), .val .str (.sh false), .val .bool (.sh false)], false, [], []⟩
noncomputable def s5 : Sig := ⟨126, Go.Proofs.Tryz.f126, [.val (.int .i64), .val (.int .i64), .val (.int .i64)], [.val .bool (.sh false)], false, [], []⟩
noncomputable def s6 : Sig := ⟨142, Go.Proofs.Tryz.f142, [.val (.cons (.int .i64) (.sl (.cons (.int .i64) (.int .i64))))], [.val .bool (.sh false)], false, [(0, [(1, .val .box (.cons (.int .i64) (.sl (.cons (.int .i64) (.int .i64)))) (.sh true)), (16, .val .reg (.sl (.cons (.int .i64) (.int .i64))) (.sh true)), (17, .val .reg (.int .i64) (.sh false)), (18, .val .reg (.int .i64) (.sh false))])], []⟩
noncomputable def s7 : Sig := ⟨201, Go.Proofs.Tryz.f201, [.val (.int .i64)], [.val .bool (.sh false)], false, [], []⟩
noncomputable def s8 : Sig := ⟨170, Go.Proofs.Tryz.f170, [.val (.int .i64), .val (.int .i64)], [.val (.int .i64) (.sh false)], false, [], []⟩
noncomputable def s9 : Sig := ⟨144, Go.Proofs.Tryz.f144, [.val (.cons (.int .i64) (.int .i64)), .val (.cons (.int .i64) (.int .i64))], [.val (.int .i64) (.sh false)], false, [], []⟩
noncomputable def s10 : Sig := ⟨143, Go.Proofs.Tryz.f143, [.val (.sl (.cons (.int .i64) (.int .i64))), .fn 144 []], [.val .bool (.sh false)], false, [(0, [(0, .val .reg (.sl (.cons (.int .i64) (.int .i64))) (.sh true)), (1, .fn 144 []), (5, .val .reg (.int .i64) (.sh false))])], []⟩
noncomputable def s11 : Sig := ⟨145, Go.Proofs.Tryz.f145, [.val (.int .i64), .val (.sl (.cons (.int .i64) (.int .i64)))], [.val .bool (.sh false)], false, [(0, [(0, .val .reg (.int .i64) (.sh false)), (1, .val .reg (.sl (.cons (.int .i64) (.int .i64))) (.sh true)), (5, .val .reg (.int .i64) (.sh false)), (8, .val .reg (.int .i64) (.sh false)), (9, .val .reg (.int .i64) (.sh false))]), (2, [(0, .val .reg (.int .i64) (.sh false)), (1, .val .reg (.sl (.cons (.int .i64) (.int .i64))) (.sh true)), (5, .val .reg (.int .i64) (.sh false)), (8, .val .reg (.int .i64) (.sh false)), (9, .val .reg (.int .i64) (.sh false)), (11, .val .reg (.sl (.cons (.int .i64) (.int .i64))) (.sh true)), (12, .val .reg (.int .i64) (.sh false)), (13, .val .reg (.int .i64) (.sh false))])], []⟩
noncomputable def s12 : Sig := ⟨101, Go.Proofs.Tryz.f101, [.val (.cons (.int .i64) (.sl (.cons (.int .i64) (.int .i64))))], [.val .bool (.sh false)], false, [], []⟩
noncomputable def s13 : Sig := ⟨104, Go.Proofs.Tryz.f104, [.val (.int .i64)], [.val .str (.sh false)], false, [], []⟩
noncomputable def s14 : Sig := ⟨59, Go.Proofs.Tryz.f59, [.val (.int .i64)], [.val .str (.sh false)], false, [], []⟩
noncomputable def s15 : Sig := ⟨114, Go.Proofs.Tryz.f114, [.val (.cons (.int .i64) (.sl (.cons (.int .i64) (.int .i64))))], [.val .str (.sh false)], false, [(0, [(3, .val .reg .str (.sh false)), (14, .val .reg (.sl (.cons (.int .i64) (.int .i64))) (.sh true)), (15, .val .reg (.int .i64) (.sh false)), (16, .val .reg (.int .i64) (.sh false))])], []⟩
noncomputable def s16 : Sig := ⟨63, Go.Proofs.Tryz.f63, [.val .str], [.val (.cons (.int .i64) (.sl (.cons (.int .i64) (.int .i64)))) (.pr (.sh false) (.own (.pr (.sh false) (.sh false)))), .val .bool (.sh false)], false, [(0, [(0, .val .reg .str (.sh false)), (2, .val .box (.cons (.int .i64) (.sl (.cons (.int .i64) (.int .i64)))) (.pr (.sh false) (.own (.pr (.sh false) (.sh false))))), (7, .val .box (.cons (.int .i64) (.sl (.cons (.int .i64) (.int .i64)))) (.pr (.sh false) (.own (.pr (.sh false) (.sh false))))), (33, .val .reg (.sl .str) (.sh false)), (34, .val .reg (.int .i64) (.sh false)), (35, .val .reg (.int .i64) (.sh false))]), (100015, [(0, .val .reg .str (.sh false)), (2, .val .box (.cons (.int .i64) (.sl (.cons (.int .i64) (.int .i64)))) (.pr (.sh false) (.own (.pr (.sh false) (.sh false))))), (7, .val .box (.cons (.int .i64) (.sl (.cons (.int .i64) (.int .i64)))) (.pr (.sh false) (.own (.sh false)))), (33, .val .reg (.sl .str) (.sh false)), (34, .val .reg (.int .i64) (.sh false)), (35, .val .reg (.int .i64) (.sh false))])], []⟩
noncomputable def s17 : Sig := ⟨115, Go.Proofs.Tryz.f115, [.val .str, .val .str], [.val (.sl .str) (.own (.sh false))], false, [(0, [(0, .val .reg .str (.sh false)), (1, .val .reg .str (.sh false)), (5, .val .reg (.sl .str) (.own (.sh false))), (6, .val .reg (.int .i64) (.sh false)), (7, .val .reg (.int .i64) (.sh false))]), (2, [(0, .val .reg .str (.sh false)), (1, .val .reg .str (.sh false)), (5, .val .reg (.sl .str) (.own (.sh false))), (6, .val .reg (.int .i64) (.sh false)), (7, .val .reg (.int .i64) (.sh false)), (8, .val .reg (.int .i64) (.sh false))])], []⟩
noncomputable def s18 : Sig := ⟨158, Go.Proofs.Tryz.f158, [.val .str], [.val .bool (.sh false)], false, [(0, [(0, .val .reg .str (.sh false)), (3, .val .reg (.int .i64) (.sh false))])], []⟩
noncomputable def s19 : Sig := ⟨80, Go.Proofs.Tryz.f80, [.val (.int .i64)], [.val .str (.sh false)], false, [(0, [(0, .val .reg (.int .i64) (.sh false)), (3, .val .reg .str (.sh false))])], []⟩
noncomputable def s20 : Sig := ⟨116, Go.Proofs.Tryz.f116, [.val .str], [.val (.int .i64) (.sh false), .val .bool (.sh false)], false, [(0, [(0, .val .reg .str (.sh false)), (4, .val .reg .bool (.sh false)), (5, .val .reg .str (.sh false)), (6, .val .reg (.int .i64) (.sh false)), (7, .val .reg (.int .i64) (.sh false))])], []⟩
noncomputable def s21 : Sig := ⟨117, Go.Proofs.Tryz.f117, [.val (.sl .str)], [.val (.sl (.int .i64)) (.own (.sh false)), .val .bool (.sh false)], false, [(0, [(4, .val .reg (.sl (.int .i64)) (.own (.sh false))), (10, .val .reg (.sl .str) (.sh true)), (11, .val .reg (.int .i64) (.sh false)), (12, .val .reg (.int .i64) (.sh false))])], []⟩
noncomputable def s22 : Sig := ⟨94, Go.Proofs.Tryz.f94, [.val (.int .i64), .val (.int .i64), .val (.int .i64)], [.val .bool (.sh false)], false, [], []⟩
noncomputable def s23 : Sig := ⟨159, Go.Proofs.Tryz.f159, [.val (.cons (.int .i64) (.sl (.cons (.int .i64) (.int .i64))))], [.val .bool (.sh false)], false, [(0, [(1, .val .box (.cons (.int .i64) (.sl (.cons (.int .i64) (.int .i64)))) (.sh true)), (16, .val .reg (.sl (.cons (.int .i64) (.int .i64))) (.sh true)), (17, .val .reg (.int .i64) (.sh false)), (18, .val .reg (.int .i64) (.sh false))])], []⟩
noncomputable def s24 : Sig := ⟨187, Go.Proofs.Tryz.f187, [.val (.sl (.int .i64)), .val (.int .i64)], [.val .bool (.sh false)], false, [(0, [(1, .val .reg (.int .i64) (.sh false)), (7, .val .reg (.sl (.int .i64)) (.sh true)), (8, .val .reg (.int .i64) (.sh false)), (9, .val .reg (.int .i64) (.sh false))])], []⟩
noncomputable def s25 : Sig := ⟨160, Go.Proofs.Tryz.f160, [.val (.cons (.int .i64) (.sl (.cons (.int .i64) (.int .i64))))], [.val (.sl (.int .i64)) (.own (.sh false))], false, [(0, [(1, .val .box (.cons (.int .i64) (.sl (.cons (.int .i64) (.int .i64)))) (.sh true)), (3, .val .reg (.sl (.int .i64)) (.own (.sh false))), (4, .val .reg (.int .i64) (.sh false))]), (2, [(1, .val .box (.cons (.int .i64) (.sl (.cons (.int .i64) (.int .i64)))) (.sh true)), (3, .val .reg (.sl (.int .i64)) (.own (.sh false))), (4, .val .reg (.int .i64) (.sh false)), (15, .val .reg (.sl (.cons (.int .i64) (.int .i64))) (.sh true)), (16, .val .reg (.int .i64) (.sh false)), (17, .val .reg (.int .i64) (.sh false))]), (100011, [(1, .val .box (.cons (.int .i64) (.sl (.cons (.int .i64) (.int .i64)))) (.sh true)), (3, .val .reg (.sl (.int .i64)) (.own (.sh false))), (4, .val .reg (.int .i64) (.sh false)), (6, .val .box (.cons (.int .i64) (.int .i64)) (.pr (.sh false) (.sh false))), (15, .val .reg (.sl (.cons (.int .i64) (.int .i64))) (.sh true)), (16, .val .reg (.int .i64) (.sh false)), (17, .val .reg (.int .i64) (.sh false))]), (100012, [(1, .val .box (.cons (.int .i64) (.sl (.cons (.int .i64) (.int .i64)))) (.sh true)), (3, .val .reg (.sl (.int .i64)) (.own (.sh false))), (4, .val .reg (.int .i64) (.sh false)), (15, .val .reg (.sl (.cons (.int .i64) (.int .i64))) (.sh true)), (16, .val .reg (.int .i64) (.sh false)), (17, .val .reg (.int .i64) (.sh false))])], []⟩
noncomputable def s26 : Sig := ⟨118, Go.Proofs.Tryz.f118, [.val (.cons (.int .i64) (.sl (.cons (.int .i64) (.int .i64))))], [.val .bool (.sh false)], false, [(0, [(1, .val .box (.cons (.int .i64) (.sl (.cons (.int .i64) (.int .i64)))) (.sh true)), (9, .val .reg (.sl (.cons (.int .i64) (.int .i64))) (.sh true)), (10, .val .reg (.int .i64) (.sh false)), (11, .val .reg (.int .i64) (.sh false))]), (100008, [(1, .val .box (.cons (.int .i64) (.sl (.cons (.int .i64) (.int .i64)))) (.sh true)), (9, .val .reg (.sl (.cons (.int .i64) (.int .i64))) (.sh true)), (10, .val .reg (.int .i64) (.sh false)), (11, .val .reg (.int .i64) (.sh false))])], []⟩
noncomputable def s27 : Sig := ⟨119, Go.Proofs.Tryz.f119, [.val (.cons (.int .i64) (.sl (.cons (.int .i64) (.int .i64))))], [.val .str (.sh false)], false, [(0, [(3, .val .reg .str (.sh false)), (14, .val .reg (.sl (.cons (.int .i64) (.int .i64))) (.sh true)), (15, .val .reg (.int .i64) (.sh false)), (16, .val .reg (.int .i64) (.sh false))])], []⟩
noncomputable def s28 : Sig := ⟨64, Go.Proofs.Tryz.f64, [.val .str], [.val (.cons (.int .i64) (.sl (.cons (.int .i64) (.int .i64)))) (.pr (.sh false) (.own (.pr (.sh false) (.sh false)))), .val .bool (.sh false)], false, [(0, [(0, .val .reg .str (.sh false)), (2, .val .box (.cons (.int .i64) (.sl (.cons (.int .i64) (.int .i64)))) (.pr (.sh false) (.own (.pr (.sh false) (.sh false))))), (5, .val .box (.cons (.int .i64) (.sl (.cons (.int .i64) (.int .i64)))) (.pr (.sh false) (.own (.pr (.sh false) (.sh false))))), (37, .val .reg (.sl .str) (.sh false)), (38, .val .reg (.int .i64) (.sh false)), (39, .val .reg (.int .i64) (.sh false))])], []⟩
noncomputable def s29 : Sig := ⟨65, Go.Proofs.Tryz.f65, [.val .str], [.val (.sl (.int .i64)) (.own (.sh false)), .val .bool (.sh false)], false, [(0, [(4, .val .reg (.sl (.int .i64)) (.own (.sh false))), (12, .val .reg (.sl .str) (.own (.sh false))), (13, .val .reg (.int .i64) (.sh false)), (14, .val .reg (.int .i64) (.sh false))])], []⟩
noncomputable def s30 : Sig := ⟨128, Go.Proofs.Tryz.f128, [.val (.sl .str), .val .str], [.val .str (.sh false)], false, [(0, [(1, .val .reg .str (.sh false)), (5, .val .reg .str (.sh false)), (8, .val .reg (.sl .str) (.sh true)), (9, .val .reg (.int .i64) (.sh false)), (10, .val .reg (.int .i64) (.sh false))])], []⟩
noncomputable def s31 : Sig := ⟨81, Go.Proofs.Tryz.f81, [.val (.sl (.int .i64))], [.val .str (.sh false)], false, [(0, [(3, .val .reg (.sl .str) (.own (.sh false))), (7, .val .reg (.sl (.int .i64)) (.sh true)), (8, .val .reg (.int .i64) (.sh false)), (9, .val .reg (.int .i64) (.sh false))])], []⟩
noncomputable def s32 : Sig := ⟨66, Go.Proofs.Tryz.f66, [.val .str], [.val (.sl (.int .i64)) (.own (.sh false)), .val .bool (.sh false)], false, [], []⟩
noncomputable def s33 : Sig := ⟨102, Go.Proofs.Tryz.f102, [.val (.cons (.int .i64) (.sl (.cons (.int .i64) (.int .i64)))), .val (.int .i64)], [.val (.int .i64) (.sh false)], false, [(0, [(1, .val .reg (.int .i64) (.sh false)), (5, .val .reg (.int .i64) (.sh false)), (17, .val .reg (.sl (.cons (.int .i64) (.int .i64))) (.sh true)), (18, .val .reg (.int .i64) (.sh false)), (19, .val .reg (.int .i64) (.sh false))])], []⟩
noncomputable def s34 : Sig := ⟨52, Go.Proofs.Tryz.f52, [.val (.cons (.int .i64) (.sl (.cons (.int .i64) (.int .i64))))], [.val (.sl (.int .i64)) (.own (.sh false))], false, [(0, [(1, .val .box (.cons (.int .i64) (.sl (.cons (.int .i64) (.int .i64)))) (.sh true)), (3, .val .reg (.sl (.int .i64)) (.own (.sh false))), (4, .val .reg (.int .i64) (.sh false))])], []⟩
noncomputable def s35 : Sig := ⟨120, Go.Proofs.Tryz.f120, [.val (.cons (.int .i64) (.sl (.cons (.int .i64) (.int .i64)))), .val (.sl (.int .i64))], [.val .bool (.sh false)], false, [(0, [(17, .val .reg (.sl (.int .i64)) (.sh true)), (18, .val .reg (.int .i64) (.sh false)), (19, .val .reg (.int .i64) (.sh false))])], []⟩
noncomputable def s36 : Sig := ⟨163, Go.Proofs.Tryz.f163, [.val (.cons (.int .i64) (.sl (.cons (.int .i64) (.int .i64)))), .val (.int .i64)], [.val .bool (.sh false)], false, [], []⟩
noncomputable def s37 : Sig := ⟨161, Go.Proofs.Tryz.f161, [.val (.cons (.int .i64) (.sl (.cons (.int .i64) (.int .i64)))), .val (.int .i64)], [.val (.int .i64) (.sh false)], false, [(0, [(1, .val .reg (.int .i64) (.sh false)), (5, .val .reg (.int .i64) (.sh false)), (13, .val .reg (.sl (.cons (.int .i64) (.int .i64))) (.sh true)), (14, .val .reg (.int .i64) (.sh false)), (15, .val .reg (.int .i64) (.sh false))])], []⟩
noncomputable def s38 : Sig := ⟨122, Go.Proofs.Tryz.f122, [.val (.cons (.int .i64) (.sl (.cons (.int .i64) (.int .i64))))], [.val (.sl (.int .i64)) (.own (.sh false))], false, [(0, [(1, .val .box (.cons (.int .i64) (.sl (.cons (.int .i64) (.int .i64)))) (.sh true)), (3, .val .reg (.sl (.int .i64)) (.own (.sh false))), (4, .val .reg (.int .i64) (.sh false))])], []⟩
noncomputable def s39 : Sig := ⟨121, Go.Proofs.Tryz.f121, [.val (.sl (.int .i64)), .val (.sl (.int .i64))], [.val (.sl (.int .i64)) (.own (.sh false))], false, [(0, [(1, .val .reg (.sl (.int .i64)) (.sh true)), (5, .val .reg (.sl (.int .i64)) (.own (.sh false))), (9, .val .reg (.sl (.int .i64)) (.sh true)), (10, .val .reg (.int .i64) (.sh false)), (11, .val .reg (.int .i64) (.sh false))])], []⟩
noncomputable def s40 : Sig := ⟨67, Go.Proofs.Tryz.f67, [.val (.cons (.int .i64) (.sl (.cons (.int .i64) (.int .i64)))), .val (.sl (.int .i64))], [.val (.sl (.int .i64)) (.own (.sh false)), .val .bool (.sh false)], false, [], []⟩
noncomputable def s41 : Sig := ⟨132, Go.Proofs.Tryz.f132, [.val (.sl (.int .i64)), .val (.int .i64), .val (.int .i64)], [.val .bool (.sh false)], false, [(0, [(1, .val .reg (.int .i64) (.sh false)), (2, .val .reg (.int .i64) (.sh false)), (9, .val .reg (.sl (.int .i64)) (.sh true)), (10, .val .reg (.int .i64) (.sh false)), (11, .val .reg (.int .i64) (.sh false))])], []⟩
noncomputable def s42 : Sig := ⟨87, Go.Proofs.Tryz.f87, [.val (.cons (.int .i64) (.sl (.cons (.int .i64) (.int .i64)))), .val (.sl (.int .i64))], [.val .bool (.sh false)], false, [], []⟩
noncomputable def s43 : Sig := ⟨91, Go.Proofs.Tryz.f91, [.val (.sl (.int .i64))], [.val (.sl (.int .i64)) (.own (.sh false))], false, [], []⟩
noncomputable def s44 : Sig := ⟨36, Go.Proofs.Tryz.f36, [.val (.sl (.int .i64))], [.val (.sl (.int .i64)) (.own (.sh false))], false, [(0, [(3, .val .reg (.sl (.int .i64)) (.own (.sh false))), (8, .val .reg (.int .i64) (.sh false)), (9, .val .reg (.int .i64) (.sh false))])], []⟩
noncomputable def s45 : Sig := ⟨90, Go.Proofs.Tryz.f90, [.val (.sl (.int .i64)), .val (.sl (.int .i64))], [.val (.sl (.int .i64)) (.own (.sh false))], false, [(0, [(1, .val .reg (.sl (.int .i64)) (.sh true)), (5, .val .reg (.sl (.int .i64)) (.own (.sh false))), (10, .val .reg (.int .i64) (.sh false)), (11, .val .reg (.int .i64) (.sh false))])], []⟩
noncomputable def s46 : Sig := ⟨53, Go.Proofs.Tryz.f53, [.val (.cons (.int .i64) (.sl (.cons (.int .i64) (.int .i64)))), .val (.sl (.int .i64))], [.val (.sl (.int .i64)) (.own (.sh false)), .val .bool (.sh false)], false, [], []⟩
noncomputable def s47 : Sig := ⟨89, Go.Proofs.Tryz.f89, [.val (.sl (.int .i64))], [.val (.int .i64) (.sh false)], false, [(0, [(3, .val .reg (.int .i64) (.sh false)), (6, .val .reg (.sl (.int .i64)) (.sh true)), (7, .val .reg (.int .i64) (.sh false)), (8, .val .reg (.int .i64) (.sh false))])], []⟩
noncomputable def s48 : Sig := ⟨33, Go.Proofs.Tryz.f33, [.val (.sl (.int .i64))], [.val (.int .i64) (.sh false)], false, [], []⟩
noncomputable def s49 : Sig := ⟨54, Go.Proofs.Tryz.f54, [.val (.cons (.int .i64) (.sl (.cons (.int .i64) (.int .i64))))], [.val (.int .i64) (.sh false)], false, [], []⟩
noncomputable def s50 : Sig := ⟨68, Go.Proofs.Tryz.f68, [.val (.sl (.int .i64))], [.val (.int .i64) (.sh false)], false, [(0, [(3, .val .reg (.int .i64) (.sh false)), (6, .val .reg (.sl (.int .i64)) (.sh true)), (7, .val .reg (.int .i64) (.sh false)), (8, .val .reg (.int .i64) (.sh false))])], []⟩
noncomputable def s51 : Sig := ⟨123, Go.Proofs.Tryz.f123, [.val (.cons (.int .i64) (.sl (.cons (.int .i64) (.int .i64)))), .val (.sl (.int .i64))], [.val .bool (.sh false)], false, [], []⟩
noncomputable def s52 : Sig := ⟨95, Go.Proofs.Tryz.f95, [.val (.int .i64), .val (.int .i64)], [.val (.sl (.sl (.int .i64))) (.own (.sh false))], false, [(0, [(0, .val .reg (.int .i64) (.sh false)), (1, .val .reg (.int .i64) (.sh false)), (5, .val .reg (.sl (.sl (.int .i64))) (.own (.sh false))), (6, .val .reg (.int .i64) (.sh false))]), (2, [(0, .val .reg (.int .i64) (.sh false)), (1, .val .reg (.int .i64) (.sh false)), (5, .val .reg (.sl (.sl (.int .i64))) (.own (.sh false))), (6, .val .reg (.int .i64) (.sh false)), (31, .val .reg (.sl (.sl (.int .i64))) (.own (.sh false))), (32, .val .reg (.int .i64) (.sh false)), (33, .val .reg (.int .i64) (.sh false))])], []⟩
noncomputable def s53 : Sig := ⟨218, Go.Proofs.Tryz.f218, [.val (.sl (.int .i64)), .val (.int .i64)], [.val .bool (.sh false)], false, [(0, [(1, .val .reg (.int .i64) (.sh false)), (7, .val .reg (.sl (.int .i64)) (.sh true)), (8, .val .reg (.int .i64) (.sh false)), (9, .val .reg (.int .i64) (.sh false))])], []⟩
noncomputable def s54 : Sig := ⟨219, Go.Proofs.Tryz.f219, [.val (.cons (.int .i64) (.sl (.cons (.int .i64) (.int .i64)))), .val (.sl (.int .i64)), .val (.sl (.int .i64))], [.val (.sl (.int .i64)) (.own (.sh false))], false, [(0, [(2, .val .reg (.sl (.int .i64)) (.sh true)), (7, .val .reg (.sl (.int .i64)) (.own (.sh false))), (14, .val .reg (.sl (.cons (.int .i64) (.int .i64))) (.sh true)), (15, .val .reg (.int .i64) (.sh false)), (16, .val .reg (.int .i64) (.sh false))]), (100007, [(2, .val .reg (.sl (.int .i64)) (.sh true)), (7, .val .reg (.sl (.int .i64)) (.own (.sh false))), (14, .val .reg (.sl (.cons (.int .i64) (.int .i64))) (.sh true)), (15, .val .reg (.int .i64) (.sh false)), (16, .val .reg (.int .i64) (.sh false))])], []⟩
noncomputable def s55 : Sig := ⟨129, Go.Proofs.Tryz.f129, [.val (.cons (.int .i64) (.sl (.cons (.int .i64) (.int .i64)))), .val (.int .i64), .val (.int .i64)], [.val (.int .i64) (.sh false)], false, [(0, [(1, .val .reg (.int .i64) (.sh false)), (2, .val .reg (.int .i64) (.sh false)), (7, .val .reg (.int .i64) (.sh false)), (26, .val .reg (.sl (.cons (.int .i64) (.int .i64))) (.sh true)), (27, .val .reg (.int .i64) (.sh false)), (28, .val .reg (.int .i64) (.sh false))])], []⟩
noncomputable def s56 : Sig := ⟨220, Go.Proofs.Tryz.f220, [.val (.cons (.int .i64) (.sl (.cons (.int .i64) (.int .i64)))), .val (.sl (.int .i64)), .val (.int .i64)], [.val (.sl (.int .i64)) (.own (.sh false))], false, [(0, [(1, .val .reg (.sl (.int .i64)) (.sh true)), (3, .val .box (.cons (.int .i64) (.sl (.cons (.int .i64) (.int .i64)))) (.sh true)), (7, .val .reg (.sl (.int .i64)) (.own (.sh false))), (8, .val .reg (.sl .bool) (.own (.sh false)))]), (2, [(1, .val .reg (.sl (.int .i64)) (.sh true)), (3, .val .box (.cons (.int .i64) (.sl (.cons (.int .i64) (.int .i64)))) (.sh true)), (7, .val .reg (.sl (.int .i64)) (.own (.sh false))), (8, .val .reg (.sl .bool) (.own (.sh false))), (9, .val .reg (.int .i64) (.sh false)), (10, .val .reg (.int .i64) (.sh false))]), (4, [(1, .val .reg (.sl (.int .i64)) (.sh true)), (3, .val .box (.cons (.int .i64) (.sl (.cons (.int .i64) (.int .i64)))) (.sh true)), (7, .val .reg (.sl (.int .i64)) (.own (.sh false))), (8, .val .reg (.sl .bool) (.own (.sh false))), (9, .val .reg (.int .i64) (.sh false)), (10, .val .reg (.int .i64) (.sh false)), (11, .val .reg (.int .i64) (.sh false)), (12, .val .reg (.int .i64) (.sh false))])], []⟩
noncomputable def s57 : Sig := ⟨188, Go.Proofs.Tryz.f188, [.val (.cons (.int .i64) (.sl (.cons (.int .i64) (.int .i64)))), .val (.sl (.int .i64)), .val (.int .i64)], [.val (.sl (.int .i64)) (.own (.sh false)), .val (.sl (.int .i64)) (.own (.sh false))], false, [(0, [(1, .val .reg (.sl (.int .i64)) (.sh true)), (2, .val .reg (.int .i64) (.sh false)), (3, .val .box (.cons (.int .i64) (.sl (.cons (.int .i64) (.int .i64)))) (.sh true)), (8, .val .reg (.sl (.int .i64)) (.own (.sh false))), (9, .val .reg (.sl (.int .i64)) (.own (.sh false)))]), (2, [(1, .val .reg (.sl (.int .i64)) (.sh true)), (2, .val .reg (.int .i64) (.sh false)), (3, .val .box (.cons (.int .i64) (.sl (.cons (.int .i64) (.int .i64)))) (.sh true)), (8, .val .reg (.sl (.int .i64)) (.own (.sh false))), (9, .val .reg (.sl (.int .i64)) (.own (.sh false))), (23, .val .reg (.int .i64) (.sh false)), (24, .val .reg (.int .i64) (.sh false))]), (4, [(1, .val .reg (.sl (.int .i64)) (.sh true)), (2, .val .reg (.int .i64) (.sh false)), (3, .val .box (.cons (.int .i64) (.sl (.cons (.int .i64) (.int .i64)))) (.sh true)), (8, .val .reg (.sl (.int .i64)) (.own (.sh false))), (9, .val .reg (.sl (.int .i64)) (.own (.sh false)))]), (6, [(1, .val .reg (.sl (.int .i64)) (.sh true)), (2, .val .reg (.int .i64) (.sh false)), (3, .val .box (.cons (.int .i64) (.sl (.cons (.int .i64) (.int .i64)))) (.sh true)), (8, .val .reg (.sl (.int .i64)) (.own (.sh false))), (11, .val .reg (.sl (.int .i64)) (.own (.sh false))), (12, .val .reg (.int .i64) (.sh false))])], []⟩
noncomputable def s58 : Sig := ⟨162, Go.Proofs.Tryz.f162, [.val (.cons (.int .i64) (.sl (.cons (.int .i64) (.int .i64)))), .val (.sl (.int .i64))], [.val .bool (.sh false)], false, [], []⟩
noncomputable def s59 : Sig := ⟨124, Go.Proofs.Tryz.f124, [.val (.cons (.int .i64) (.sl (.cons (.int .i64) (.int .i64)))), .val (.sl (.int .i64))], [.val (.int .i64) (.sh false), .val (.sl (.int .i64)) (.sh false)], false, [(0, [(1, .val .reg (.sl (.int .i64)) (.sh true)), (2, .val .box (.cons (.int .i64) (.sl (.cons (.int .i64) (.int .i64)))) (.sh true)), (6, .val .reg (.int .i64) (.sh false))]), (2, [(1, .val .reg (.sl (.int .i64)) (.sh true)), (2, .val .box (.cons (.int .i64) (.sl (.cons (.int .i64) (.int .i64)))) (.sh true)), (6, .val .reg (.int .i64) (.sh false)), (14, .val .reg (.sl (.sl (.int .i64))) (.own (.sh false))), (15, .val .reg (.int .i64) (.sh false)), (16, .val .reg (.int .i64) (.sh false))])], []⟩
noncomputable def s60 : Sig := ⟨69, Go.Proofs.Tryz.f69, [.val (.cons (.int .i64) (.sl (.cons (.int .i64) (.int .i64)))), .val (.sl (.int .i64))], [.val (.int .i64) (.sh false), .val .bool (.sh false)], false, [], []⟩
noncomputable def s61 : Sig := ⟨165, Go.Proofs.Tryz.f165, [.val (.sl (.int .i64)), .val (.int .i64)], [.val (.int .i64) (.sh false)], false, [(0, [(1, .val .reg (.int .i64) (.sh false)), (7, .val .reg (.sl (.int .i64)) (.sh true)), (8, .val .reg (.int .i64) (.sh false)), (9, .val .reg (.int .i64) (.sh false))])], []⟩
noncomputable def s62 : Sig := ⟨137, Go.Proofs.Tryz.f137, [.val (.cons (.int .i64) (.sl (.cons (.int .i64) (.int .i64)))), .io (.sl (.int .i64)) (.own (.sh false)), .val (.int .i64), .val (.int .i64)], [], false, [(0, [(1, .val .reg (.sl (.int .i64)) (.own (.sh false))), (2, .val .reg (.int .i64) (.sh false)), (3, .val .reg (.int .i64) (.sh false)), (11, .val .reg (.sl (.cons (.int .i64) (.int .i64))) (.sh true)), (12, .val .reg (.int .i64) (.sh false)), (13, .val .reg (.int .i64) (.sh false))])], []⟩
noncomputable def s63 : Sig := ⟨189, Go.Proofs.Tryz.f189, [.val (.cons (.int .i64) (.sl (.cons (.int .i64) (.int .i64)))), .val (.int .i64), .val (.int .i64)], [.val (.int .i64) (.sh false)], false, [(0, [(1, .val .reg (.int .i64) (.sh false)), (2, .val .reg (.int .i64) (.sh false)), (7, .val .reg (.int .i64) (.sh false)), (28, .val .reg (.sl (.cons (.int .i64) (.int .i64))) (.sh true)), (29, .val .reg (.int .i64) (.sh false)), (30, .val .reg (.int .i64) (.sh false))])], []⟩
noncomputable def s64 : Sig := ⟨190, Go.Proofs.Tryz.f190, [.val (.sl (.int .i64)), .val (.int .i64)], [.val (.int .i64) (.sh false)], false, [(0, [(0, .val .reg (.sl (.int .i64)) (.sh true)), (1, .val .reg (.int .i64) (.sh false)), (7, .val .reg (.int .i64) (.sh false)), (8, .val .reg (.int .i64) (.sh false))])], []⟩
noncomputable def s65 : Sig := ⟨167, Go.Proofs.Tryz.f167, [.val (.sl (.int .i64)), .val (.int .i64)], [.val .bool (.sh false)], false, [], []⟩
noncomputable def s66 : Sig := ⟨166, Go.Proofs.Tryz.f166, [.val (.cons (.int .i64) (.sl (.cons (.int .i64) (.int .i64)))), .val (.sl (.int .i64)), .val (.int .i64)], [.val (.sl (.int .i64)) (.own (.sh false))], false, [(0, [(1, .val .reg (.sl (.int .i64)) (.sh true)), (3, .val .box (.cons (.int .i64) (.sl (.cons (.int .i64) (.int .i64)))) (.sh true)), (7, .val .reg (.sl (.int .i64)) (.own (.sh false)))]), (2, [(1, .val .reg (.sl (.int .i64)) (.sh true)), (3, .val .box (.cons (.int .i64) (.sl (.cons (.int .i64) (.int .i64)))) (.sh true)), (7, .val .reg (.sl (.int .i64)) (.own (.sh false))), (8, .val .reg (.int .i64) (.sh false)), (9, .val .reg (.int .i64) (.sh false))]), (4, [(1, .val .reg (.sl (.int .i64)) (.sh true)), (3, .val .box (.cons (.int .i64) (.sl (.cons (.int .i64) (.int .i64)))) (.sh true)), (7, .val .reg (.sl (.int .i64)) (.own (.sh false))), (8, .val .reg (.int .i64) (.sh false)), (9, .val .reg (.int .i64) (.sh false)), (10, .val .reg (.int .i64) (.sh false)), (25, .ref .ali 7 [] (.sl (.int .i64))), (26, .val .reg (.int .i64) (.sh false)), (27, .val .reg (.int .i64) (.sh false))])], []⟩
noncomputable def s67 : Sig := ⟨136, Go.Proofs.Tryz.f136, [.val (.cons (.int .i64) (.sl (.cons (.int .i64) (.int .i64)))), .val (.sl (.int .i64)), .val (.int .i64)], [.val (.sl (.int .i64)) (.own (.sh false)), .val (.sl (.int .i64)) (.own (.sh false))], false, [(0, [(2, .val .reg (.int .i64) (.sh false)), (3, .val .box (.cons (.int .i64) (.sl (.cons (.int .i64) (.int .i64)))) (.sh true)), (8, .val .reg (.sl (.int .i64)) (.own (.sh false))), (9, .val .reg (.sl (.int .i64)) (.own (.sh false))), (10, .val .reg (.int .i64) (.sh false))]), (2, [(2, .val .reg (.int .i64) (.sh false)), (3, .val .box (.cons (.int .i64) (.sl (.cons (.int .i64) (.int .i64)))) (.sh true)), (8, .val .reg (.sl (.int .i64)) (.own (.sh false))), (9, .val .reg (.sl (.int .i64)) (.own (.sh false)))]), (4, [(2, .val .reg (.int .i64) (.sh false)), (3, .val .box (.cons (.int .i64) (.sl (.cons (.int .i64) (.int .i64)))) (.sh true)), (8, .val .reg (.sl (.int .i64)) (.own (.sh false))), (9, .val .reg (.sl (.int .i64)) (.own (.sh false))), (13, .val .reg (.sl (.int .i64)) (.own (.sh false))), (65, .val .reg (.int .i64) (.sh false)), (66, .val .reg (.int .i64) (.sh false))])], []⟩
noncomputable def s68 : Sig := ⟨147, Go.Proofs.Tryz.f147, [.val (.sl .str), .val .str], [.val .str (.sh false)], false, [], []⟩
noncomputable def s69 : Sig := ⟨105, Go.Proofs.Tryz.f105, [.val (.sl .str), .val .str], [.val .str (.sh false)], false, [], []⟩
noncomputable def s70 : Sig := ⟨60, Go.Proofs.Tryz.f60, [.val (.sl (.int .i64))], [.val .str (.sh false)], false, [(0, [(3, .val .reg (.sl .str) (.own (.sh false))), (9, .val .reg (.sl (.int .i64)) (.sh true)), (10, .val .reg (.int .i64) (.sh false)), (11, .val .reg (.int .i64) (.sh false))])], []⟩
noncomputable def s71 : Sig := ⟨34, Go.Proofs.Tryz.f34, [.val (.sl (.int .i64))], [.val .bool (.sh false)], false, [(0, [(5, .val .reg (.sl (.int .i64)) (.sh true)), (6, .val .reg (.int .i64) (.sh false)), (7, .val .reg (.int .i64) (.sh false))])], []⟩
noncomputable def s72 : Sig := ⟨138, Go.Proofs.Tryz.f138, [.io (.sl (.sl (.int .i64))) (.own (.sh false)), .fn 139 []], [], false, [], []⟩
noncomputable def s73 : Sig := ⟨98, Go.Proofs.Tryz.f98, [.val (.cons (.int .i64) (.sl (.cons (.int .i64) (.int .i64)))), .val (.sl (.int .i64))], [.val (.sl (.sl (.int .i64))) (.own (.sh false))], false, [(0, [(2, .val .box (.cons (.int .i64) (.sl (.cons (.int .i64) (.int .i64)))) (.sh true)), (8, .val .reg (.sl (.sl (.int .i64))) (.own (.sh false))), (9, .ref .ali 32 [] (.sl (.cons .str (.int .i64)))), (10, .val .reg (.int .i64) (.sh false)), (32, .val .map (.sl (.cons .str (.int .i64))) .gone)]), (2, [(2, .val .box (.cons (.int .i64) (.sl (.cons (.int .i64) (.int .i64)))) (.sh true)), (8, .val .reg (.sl (.sl (.int .i64))) (.own (.sh false))), (9, .ref .ali 32 [] (.sl (.cons .str (.int .i64)))), (10, .val .reg (.int .i64) (.sh false)), (11, .val .reg (.int .i64) (.sh false)), (32, .val .map (.sl (.cons .str (.int .i64))) .gone)]), (4, [(2, .val .box (.cons (.int .i64) (.sl (.cons (.int .i64) (.int .i64)))) (.sh true)), (8, .val .reg (.sl (.sl (.int .i64))) (.own (.sh false))), (9, .ref .ali 32 [] (.sl (.cons .str (.int .i64)))), (10, .val .reg (.int .i64) (.sh false)), (11, .val .reg (.int .i64) (.sh false)), (12, .val .reg (.sl (.int .i64)) (.own (.sh false))), (32, .val .map (.sl (.cons .str (.int .i64))) .gone), (56, .val .reg (.int .i64) (.sh false)), (57, .val .reg (.int .i64) (.sh false))])], []⟩
noncomputable def s74 : Sig := ⟨133, Go.Proofs.Tryz.f133, [.val (.int .i64), .val (.int .i64)], [.val (.sl (.sl (.int .i64))) (.own (.sh false))], false, [(0, [(0, .val .reg (.int .i64) (.sh false)), (1, .val .reg (.int .i64) (.sh false)), (5, .val .reg (.sl (.sl (.int .i64))) (.own (.sh false))), (6, .val .reg (.int .i64) (.sh false))]), (2, [(0, .val .reg (.int .i64) (.sh false)), (1, .val .reg (.int .i64) (.sh false)), (5, .val .reg (.sl (.sl (.int .i64))) (.own (.sh false))), (6, .val .reg (.int .i64) (.sh false)), (24, .val .reg (.sl (.sl (.int .i64))) (.own (.sh false))), (25, .val .reg (.int .i64) (.sh false)), (26, .val .reg (.int .i64) (.sh false))])], []⟩
noncomputable def s75 : Sig := ⟨93, Go.Proofs.Tryz.f93, [.val (.sl (.int .i64)), .val (.sl (.int .i64))], [.val .bool (.sh false)], false, [(0, [(0, .val .reg (.sl (.int .i64)) (.sh true)), (7, .val .reg (.sl (.int .i64)) (.sh true)), (8, .val .reg (.int .i64) (.sh false)), (9, .val .reg (.int .i64) (.sh false))])], []⟩
noncomputable def s76 : Sig := ⟨135, Go.Proofs.Tryz.f135, [.val (.sl (.int .i64)), .pin none (.sl (.int .i64))], [.val .bool (.sh false)], false, [], []⟩
noncomputable def s77 : Sig := ⟨164, Go.Proofs.Tryz.f164, [.val (.sl (.sl (.int .i64))), .pin (some 135) (.sl (.int .i64))], [.val (.int .i64) (.sh false)], false, [(0, [(0, .val .reg (.sl (.sl (.int .i64))) (.sh true)), (1, .val (.pin (some 135)) (.sl (.int .i64)) (.sh true)), (7, .val .reg (.int .i64) (.sh false)), (8, .val .reg (.int .i64) (.sh false))])], []⟩
noncomputable def s78 : Sig := ⟨134, Go.Proofs.Tryz.f134, [.val (.sl (.sl (.int .i64))), .pin (some 135) (.sl (.int .i64))], [.val .bool (.sh false)], false, [], []⟩
noncomputable def s79 : Sig := ⟨88, Go.Proofs.Tryz.f88, [.val (.cons (.int .i64) (.sl (.cons (.int .i64) (.int .i64)))), .val (.sl (.int .i64))], [.val (.int .i64) (.sh false), .val (.sl (.int .i64)) (.sh false)], false, [(0, [(2, .val .box (.cons (.int .i64) (.sl (.cons (.int .i64) (.int .i64)))) (.sh true)), (6, .val .reg (.sl (.sl (.int .i64))) (.own (.sh false))), (7, .val .reg (.int .i64) (.sh false))]), (2, [(2, .val .box (.cons (.int .i64) (.sl (.cons (.int .i64) (.int .i64)))) (.sh true)), (6, .val .reg (.sl (.sl (.int .i64))) (.own (.sh false))), (7, .val .reg (.int .i64) (.sh false)), (18, .val .reg (.sl (.sl (.int .i64))) (.own (.sh false))), (19, .val .reg (.int .i64) (.sh false)), (20, .val .reg (.int .i64) (.sh false))])], []⟩
noncomputable def s80 : Sig := ⟨31, Go.Proofs.Tryz.f31, [.val (.cons (.int .i64) (.sl (.cons (.int .i64) (.int .i64)))), .val (.sl (.int .i64))], [.val (.int .i64) (.sh false), .val .bool (.sh false)], false, [], []⟩
noncomputable def s81 : Sig := ⟨70, Go.Proofs.Tryz.f70, [.val (.cons (.int .i64) (.sl (.cons (.int .i64) (.int .i64)))), .val (.sl (.int .i64))], [.val (.int .i64) (.sh false), .val (.int .i64) (.sh false), .val .bool (.sh false)], false, [], []⟩
noncomputable def s82 : Sig := ⟨55, Go.Proofs.Tryz.f55, [.val (.cons (.int .i64) (.sl (.cons (.int .i64) (.int .i64)))), .val (.sl (.int .i64))], [.val (.int .i64) (.sh false), .val (.int .i64) (.sh false), .val .bool (.sh false)], false, [], []⟩
noncomputable def s83 : Sig := ⟨56, Go.Proofs.Tryz.f56, [.val (.cons (.int .i64) (.sl (.cons (.int .i64) (.int .i64)))), .val (.sl (.int .i64))], [.val (.int .i64) (.sh false), .val .bool (.sh false)], false, [], []⟩
noncomputable def s84 : Sig := ⟨92, Go.Proofs.Tryz.f92, [.val (.cons (.int .i64) (.sl (.cons (.int .i64) (.int .i64)))), .val (.sl (.int .i64))], [.val .bool (.sh false)], false, [], []⟩
noncomputable def s85 : Sig := ⟨43, Go.Proofs.Tryz.f43, [.val (.cons (.int .i64) (.sl (.cons (.int .i64) (.int .i64)))), .val (.sl (.int .i64))], [.val .bool (.sh false)], false, [], []⟩
noncomputable def s86 : Sig := ⟨12, Go.Proofs.Tryz.f12, [.val .str, .val .str], [.val .bool (.sh false)], false, [(100009, [(7, .val .box (.cons (.int .i64) (.sl (.cons (.int .i64) (.int .i64)))) (.pr (.sh false) (.own (.pr (.sh false) (.sh false))))), (8, .val .reg .bool (.sh false)), (11, .val .reg (.sl (.int .i64)) (.own (.sh false))), (12, .val .reg .bool (.sh false))]), (100015, [(15, .val .reg .bool (.sh false)), (17, .val .reg .bool (.sh false))]), (100016, [(7, .val .box (.cons (.int .i64) (.sl (.cons (.int .i64) (.int .i64)))) (.pr (.sh false) (.own (.pr (.sh false) (.sh false))))), (11, .val .reg (.sl (.int .i64)) (.own (.sh false))), (13, .val .reg (.sl (.int .i64)) (.own (.sh false))), (16, .val .reg (.sl (.int .i64)) (.own (.sh false)))]), (100021, [(7, .val .box (.cons (.int .i64) (.sl (.cons (.int .i64) (.int .i64)))) (.pr (.sh false) (.own (.pr (.sh false) (.sh false))))), (11, .val .reg (.sl (.int .i64)) (.own (.sh false))), (19, .val .reg .bool (.sh false))]), (100025, [(19, .val .reg .bool (.sh false)), (21, .val .reg .bool (.sh false)), (24, .val .reg .bool (.sh false)), (27, .val .reg .bool (.sh false))]), (100026, [(7, .val .box (.cons (.int .i64) (.sl (.cons (.int .i64) (.int .i64)))) (.pr (.sh false) (.own (.pr (.sh false) (.sh false))))), (11, .val .reg (.sl (.int .i64)) (.own (.sh false))), (20, .val .reg (.int .i64) (.sh false)), (25, .val .reg (.int .i64) (.sh false)), (26, .val .reg (.int .i64) (.sh false))])], []⟩
noncomputable def sigs : List Sig := [s0, s1, s2, s3, s4, s5, s6, s7, s8, s9, s10, s11, s12, s13, s14, s15, s16, s17, s18, s19, s20, s21, s22, s23, s24, s25, s26, s27, s28, s29, s30, s31, s32, s33, s34, s35, s36, s37, s38, s39, s40, s41, s42, s43, s44, s45, s46, s47, s48, s49, s50, s51, s52, s53, s54, s55, s56, s57, s58, s59, s60, s61, s62, s63, s64, s65, s66, s67, s68, s69, s70, s71, s72, s73, s74, s75, s76, s77, s78, s79, s80, s81, s82, s83, s84, s85, s86]
noncomputable def Γ : Ctx := ⟨tys, sigs, [122]⟩
noncomputable def Xf : Fun Γ := fun n => match n with
  | 0 => fun (a : (ByteArray × Int)) => (Lb.indexByte a.1 a.2 : Option Int)
  | 2 => fun (a : (ByteArray × ByteArray)) => (Lb.trimSuffix a.1 a.2 : Option ByteArray)
  | 3 => fun (a : ByteArray) => (Lb.pint a : Option (Int × Bool))
  | 4 => fun (a : (ByteArray × ByteArray)) => (Lb.cut a.1 a.2 : Option (ByteArray × (ByteArray × Bool)))
  | 13 => fun (a : Int) => (Lb.itoa a : Option ByteArray)
  | 68 => fun (a : ((List ByteArray) × ByteArray)) => (Lb.join a.1 a.2 : Option ByteArray)
  | 72 => fun (a : (List (List Int))) => (Lb.sortRows a : Option (List (List Int)))
  | _ => fun _ => none
noncomputable def X : Ext Γ := ⟨fun n => n == 0 || n == 2 || n == 3 || n == 4 || n == 13 || n == 68 || n == 72, Xf⟩
noncomputable def strings_IndexByte (a0 : ByteArray) (a1 : Int) : Option Int := den Γ X 0 (a0, a1)
noncomputable def impl_SplitAny (a0 : ByteArray) (a1 : ByteArray) : Option (List ByteArray) := den Γ X 1 (a0, a1)
noncomputable def impl_SplitAny_l0 (x0 : ByteArray) (x1 : ByteArray) (x5 : (List ByteArray)) (x6 : Int) (x7 : Int) : Option (List ByteArray) := atF Γ (den Γ X) 1 [1, 1, 1, 0, 1, 0] [(0, ⟨0, 0, 0, .val .reg .str (.sh false) x0⟩), (1, ⟨0, 0, 0, .val .reg .str (.sh false) x1⟩), (5, ⟨0, 0, 0, .val .reg (.sl .str) (.own (.sh false)) x5⟩), (6, ⟨0, 0, 0, .val .reg (.int .i64) (.sh false) x6⟩), (7, ⟨0, 0, 0, .val .reg (.int .i64) (.sh false) x7⟩)]
noncomputable def strings_TrimSuffix (a0 : ByteArray) (a1 : ByteArray) : Option ByteArray := den Γ X 2 (a0, a1)
noncomputable def impl_ParseInt (a0 : ByteArray) : Option (Int × Bool) := den Γ X 3 a0
noncomputable def strings_Cut (a0 : ByteArray) (a1 : ByteArray) : Option (ByteArray × (ByteArray × Bool)) := den Γ X 4 (a0, a1)
noncomputable def impl_within (a0 : Int) (a1 : Int) (a2 : Int) : Option Bool := den Γ X 5 (a0, a1, a2)
noncomputable def impl_EdgesOk (a0 : (Int × (List (Int × Int)))) : Option Bool := den Γ X 6 a0
noncomputable def impl_EdgesOk_l0 (x1 : (Int × (List (Int × Int)))) (x16 : (List (Int × Int))) (x17 : Int) (x18 : Int) : Option Bool := atF Γ (den Γ X) 6 [1, 1, 0, 1, 0] [(1, ⟨0, 0, 0, .val .box (.cons (.int .i64) (.sl (.cons (.int .i64) (.int .i64)))) (.sh true) x1⟩), (16, ⟨0, 0, 0, .val .reg (.sl (.cons (.int .i64) (.int .i64))) (.sh true) x16⟩), (17, ⟨0, 0, 0, .val .reg (.int .i64) (.sh false) x17⟩), (18, ⟨0, 0, 0, .val .reg (.int .i64) (.sh false) x18⟩)]
noncomputable def cmp_isNaN_int (a0 : Int) : Option Bool := den Γ X 7 a0
noncomputable def cmp_Compare_int (a0 : Int) (a1 : Int) : Option Int := den Γ X 8 (a0, a1)
noncomputable def impl_compareEdges (a0 : (Int × Int)) (a1 : (Int × Int)) : Option Int := den Γ X 9 (a0, a1)
noncomputable def impl_Edge__compareEdges (a0 : (List (Int × Int))) : Option Bool := den Γ X 10 a0
noncomputable def impl_Edge__compareEdges_l0 (x0 : (List (Int × Int))) (x5 : Int) : Option Bool := atF Γ (den Γ X) 10 [1, 0, 1, 0] [(0, ⟨0, 0, 0, .val .reg (.sl (.cons (.int .i64) (.int .i64))) (.sh true) x0⟩), (1, ⟨0, 0, 0, .fn 144 []⟩), (5, ⟨0, 0, 0, .val .reg (.int .i64) (.sh false) x5⟩)]
noncomputable def impl_connected (a0 : Int) (a1 : (List (Int × Int))) : Option Bool := den Γ X 11 (a0, a1)
noncomputable def impl_connected_l0 (x0 : Int) (x1 : (List (Int × Int))) (x5 : Int) (x8 : Int) (x9 : Int) : Option Bool := atF Γ (den Γ X) 11 [1, 1, 0, 1, 0] [(0, ⟨0, 0, 0, .val .reg (.int .i64) (.sh false) x0⟩), (1, ⟨0, 0, 0, .val .reg (.sl (.cons (.int .i64) (.int .i64))) (.sh true) x1⟩), (5, ⟨0, 0, 0, .val .reg (.int .i64) (.sh false) x5⟩), (8, ⟨0, 0, 0, .val .reg (.int .i64) (.sh false) x8⟩), (9, ⟨0, 0, 0, .val .reg (.int .i64) (.sh false) x9⟩)]
noncomputable def impl_connected_l2 (x0 : Int) (x1 : (List (Int × Int))) (x5 : Int) (x8 : Int) (x9 : Int) (x11 : (List (Int × Int))) (x12 : Int) (x13 : Int) : Option Bool := atF Γ (den Γ X) 11 [1, 1, 0, 1, 0, 0, 1, 1, 0, 0, 1, 0] [(0, ⟨0, 0, 0, .val .reg (.int .i64) (.sh false) x0⟩), (1, ⟨0, 0, 0, .val .reg (.sl (.cons (.int .i64) (.int .i64))) (.sh true) x1⟩), (5, ⟨0, 0, 0, .val .reg (.int .i64) (.sh false) x5⟩), (8, ⟨0, 0, 0, .val .reg (.int .i64) (.sh false) x8⟩), (9, ⟨0, 0, 0, .val .reg (.int .i64) (.sh false) x9⟩), (11, ⟨0, 0, 0, .val .reg (.sl (.cons (.int .i64) (.int .i64))) (.sh true) x11⟩), (12, ⟨0, 0, 0, .val .reg (.int .i64) (.sh false) x12⟩), (13, ⟨0, 0, 0, .val .reg (.int .i64) (.sh false) x13⟩)]
noncomputable def impl_GraphOk (a0 : (Int × (List (Int × Int)))) : Option Bool := den Γ X 12 a0
noncomputable def strconv_Itoa (a0 : Int) : Option ByteArray := den Γ X 13 a0
noncomputable def impl_FormatInt (a0 : Int) : Option ByteArray := den Γ X 14 a0
noncomputable def impl_FormatGraph (a0 : (Int × (List (Int × Int)))) : Option ByteArray := den Γ X 15 a0
noncomputable def impl_FormatGraph_l0 (x3 : ByteArray) (x14 : (List (Int × Int))) (x15 : Int) (x16 : Int) : Option ByteArray := atF Γ (den Γ X) 15 [1, 1, 1, 0, 1, 0] [(3, ⟨0, 0, 0, .val .reg .str (.sh false) x3⟩), (14, ⟨0, 0, 0, .val .reg (.sl (.cons (.int .i64) (.int .i64))) (.sh true) x14⟩), (15, ⟨0, 0, 0, .val .reg (.int .i64) (.sh false) x15⟩), (16, ⟨0, 0, 0, .val .reg (.int .i64) (.sh false) x16⟩)]
noncomputable def impl_ParseGraph (a0 : ByteArray) : Option ((Int × (List (Int × Int))) × Bool) := den Γ X 16 a0
noncomputable def impl_ParseGraph_l0 (x0 : ByteArray) (x2 : (Int × (List (Int × Int)))) (x7 : (Int × (List (Int × Int)))) (x33 : (List ByteArray)) (x34 : Int) (x35 : Int) : Option ((Int × (List (Int × Int))) × Bool) := atF Γ (den Γ X) 16 [1, 1, 1, 1, 1, 0, 1, 0] [(0, ⟨0, 0, 0, .val .reg .str (.sh false) x0⟩), (2, ⟨0, 0, 0, .val .box (.cons (.int .i64) (.sl (.cons (.int .i64) (.int .i64)))) (.pr (.sh false) (.own (.pr (.sh false) (.sh false)))) x2⟩), (7, ⟨0, 0, 0, .val .box (.cons (.int .i64) (.sl (.cons (.int .i64) (.int .i64)))) (.pr (.sh false) (.own (.pr (.sh false) (.sh false)))) x7⟩), (33, ⟨0, 0, 0, .val .reg (.sl .str) (.sh false) x33⟩), (34, ⟨0, 0, 0, .val .reg (.int .i64) (.sh false) x34⟩), (35, ⟨0, 0, 0, .val .reg (.int .i64) (.sh false) x35⟩)]
noncomputable def impl_ParseGraph_c15 (x0 : ByteArray) (x2 : (Int × (List (Int × Int)))) (x7 : (Int × (List (Int × Int)))) (x33 : (List ByteArray)) (x34 : Int) (x35 : Int) : Option ((Int × (List (Int × Int))) × Bool) := atF Γ (den Γ X) 16 [1, 1, 1, 1, 1, 0, 1, 0, 0, 1, 1, 1] [(0, ⟨0, 0, 0, .val .reg .str (.sh false) x0⟩), (2, ⟨0, 0, 0, .val .box (.cons (.int .i64) (.sl (.cons (.int .i64) (.int .i64)))) (.pr (.sh false) (.own (.pr (.sh false) (.sh false)))) x2⟩), (7, ⟨0, 0, 0, .val .box (.cons (.int .i64) (.sl (.cons (.int .i64) (.int .i64)))) (.pr (.sh false) (.own (.sh false))) x7⟩), (33, ⟨0, 0, 0, .val .reg (.sl .str) (.sh false) x33⟩), (34, ⟨0, 0, 0, .val .reg (.int .i64) (.sh false) x34⟩), (35, ⟨0, 0, 0, .val .reg (.int .i64) (.sh false) x35⟩)]
noncomputable def spec_SplitAny (a0 : ByteArray) (a1 : ByteArray) : Option (List ByteArray) := den Γ X 17 (a0, a1)
noncomputable def spec_SplitAny_l0 (x0 : ByteArray) (x1 : ByteArray) (x5 : (List ByteArray)) (x6 : Int) (x7 : Int) : Option (List ByteArray) := atF Γ (den Γ X) 17 [1, 1, 1, 0, 1, 0] [(0, ⟨0, 0, 0, .val .reg .str (.sh false) x0⟩), (1, ⟨0, 0, 0, .val .reg .str (.sh false) x1⟩), (5, ⟨0, 0, 0, .val .reg (.sl .str) (.own (.sh false)) x5⟩), (6, ⟨0, 0, 0, .val .reg (.int .i64) (.sh false) x6⟩), (7, ⟨0, 0, 0, .val .reg (.int .i64) (.sh false) x7⟩)]
noncomputable def spec_SplitAny_l2 (x0 : ByteArray) (x1 : ByteArray) (x5 : (List ByteArray)) (x6 : Int) (x7 : Int) (x8 : Int) : Option (List ByteArray) := atF Γ (den Γ X) 17 [1, 1, 1, 0, 1, 0, 0, 1, 0, 0, 1, 0] [(0, ⟨0, 0, 0, .val .reg .str (.sh false) x0⟩), (1, ⟨0, 0, 0, .val .reg .str (.sh false) x1⟩), (5, ⟨0, 0, 0, .val .reg (.sl .str) (.own (.sh false)) x5⟩), (6, ⟨0, 0, 0, .val .reg (.int .i64) (.sh false) x6⟩), (7, ⟨0, 0, 0, .val .reg (.int .i64) (.sh false) x7⟩), (8, ⟨0, 0, 0, .val .reg (.int .i64) (.sh false) x8⟩)]
noncomputable def spec_IsDigits (a0 : ByteArray) : Option Bool := den Γ X 18 a0
noncomputable def spec_IsDigits_l0 (x0 : ByteArray) (x3 : Int) : Option Bool := atF Γ (den Γ X) 18 [1, 0, 1, 0] [(0, ⟨0, 0, 0, .val .reg .str (.sh false) x0⟩), (3, ⟨0, 0, 0, .val .reg (.int .i64) (.sh false) x3⟩)]
noncomputable def spec_FormatInt (a0 : Int) : Option ByteArray := den Γ X 19 a0
noncomputable def spec_FormatInt_l0 (x0 : Int) (x3 : ByteArray) : Option ByteArray := atF Γ (den Γ X) 19 [1, 1, 1, 0, 0] [(0, ⟨0, 0, 0, .val .reg (.int .i64) (.sh false) x0⟩), (3, ⟨0, 0, 0, .val .reg .str (.sh false) x3⟩)]
noncomputable def spec_ParseInt (a0 : ByteArray) : Option (Int × Bool) := den Γ X 20 a0
noncomputable def spec_ParseInt_l0 (x0 : ByteArray) (x4 : Bool) (x5 : ByteArray) (x6 : Int) (x7 : Int) : Option (Int × Bool) := atF Γ (den Γ X) 20 [1, 1, 1, 1, 1, 1, 0, 1, 0] [(0, ⟨0, 0, 0, .val .reg .str (.sh false) x0⟩), (4, ⟨0, 0, 0, .val .reg .bool (.sh false) x4⟩), (5, ⟨0, 0, 0, .val .reg .str (.sh false) x5⟩), (6, ⟨0, 0, 0, .val .reg (.int .i64) (.sh false) x6⟩), (7, ⟨0, 0, 0, .val .reg (.int .i64) (.sh false) x7⟩)]
noncomputable def spec_l18Numbers (a0 : (List ByteArray)) : Option ((List Int) × Bool) := den Γ X 21 a0
noncomputable def spec_l18Numbers_l0 (x4 : (List Int)) (x10 : (List ByteArray)) (x11 : Int) (x12 : Int) : Option ((List Int) × Bool) := atF Γ (den Γ X) 21 [1, 1, 0, 1, 0] [(4, ⟨0, 0, 0, .val .reg (.sl (.int .i64)) (.own (.sh false)) x4⟩), (10, ⟨0, 0, 0, .val .reg (.sl .str) (.sh true) x10⟩), (11, ⟨0, 0, 0, .val .reg (.int .i64) (.sh false) x11⟩), (12, ⟨0, 0, 0, .val .reg (.int .i64) (.sh false) x12⟩)]
noncomputable def spec_l01In (a0 : Int) (a1 : Int) (a2 : Int) : Option Bool := den Γ X 22 (a0, a1, a2)
noncomputable def spec_EdgesOk (a0 : (Int × (List (Int × Int)))) : Option Bool := den Γ X 23 a0
noncomputable def spec_EdgesOk_l0 (x1 : (Int × (List (Int × Int)))) (x16 : (List (Int × Int))) (x17 : Int) (x18 : Int) : Option Bool := atF Γ (den Γ X) 23 [1, 1, 0, 1, 0] [(1, ⟨0, 0, 0, .val .box (.cons (.int .i64) (.sl (.cons (.int .i64) (.int .i64)))) (.sh true) x1⟩), (16, ⟨0, 0, 0, .val .reg (.sl (.cons (.int .i64) (.int .i64))) (.sh true) x16⟩), (17, ⟨0, 0, 0, .val .reg (.int .i64) (.sh false) x17⟩), (18, ⟨0, 0, 0, .val .reg (.int .i64) (.sh false) x18⟩)]
noncomputable def spec_l02Has (a0 : (List Int)) (a1 : Int) : Option Bool := den Γ X 24 (a0, a1)
noncomputable def spec_l02Has_l0 (x1 : Int) (x7 : (List Int)) (x8 : Int) (x9 : Int) : Option Bool := atF Γ (den Γ X) 24 [1, 0, 1, 0] [(1, ⟨0, 0, 0, .val .reg (.int .i64) (.sh false) x1⟩), (7, ⟨0, 0, 0, .val .reg (.sl (.int .i64)) (.sh true) x7⟩), (8, ⟨0, 0, 0, .val .reg (.int .i64) (.sh false) x8⟩), (9, ⟨0, 0, 0, .val .reg (.int .i64) (.sh false) x9⟩)]
noncomputable def spec_l02Reach (a0 : (Int × (List (Int × Int)))) : Option (List Int) := den Γ X 25 a0
noncomputable def spec_l02Reach_l0 (x1 : (Int × (List (Int × Int)))) (x3 : (List Int)) (x4 : Int) : Option (List Int) := atF Γ (den Γ X) 25 [1, 1, 0, 1, 0] [(1, ⟨0, 0, 0, .val .box (.cons (.int .i64) (.sl (.cons (.int .i64) (.int .i64)))) (.sh true) x1⟩), (3, ⟨0, 0, 0, .val .reg (.sl (.int .i64)) (.own (.sh false)) x3⟩), (4, ⟨0, 0, 0, .val .reg (.int .i64) (.sh false) x4⟩)]
noncomputable def spec_l02Reach_l2 (x1 : (Int × (List (Int × Int)))) (x3 : (List Int)) (x4 : Int) (x15 : (List (Int × Int))) (x16 : Int) (x17 : Int) : Option (List Int) := atF Γ (den Γ X) 25 [1, 1, 0, 1, 0, 0, 1, 0, 0, 1, 0] [(1, ⟨0, 0, 0, .val .box (.cons (.int .i64) (.sl (.cons (.int .i64) (.int .i64)))) (.sh true) x1⟩), (3, ⟨0, 0, 0, .val .reg (.sl (.int .i64)) (.own (.sh false)) x3⟩), (4, ⟨0, 0, 0, .val .reg (.int .i64) (.sh false) x4⟩), (15, ⟨0, 0, 0, .val .reg (.sl (.cons (.int .i64) (.int .i64))) (.sh true) x15⟩), (16, ⟨0, 0, 0, .val .reg (.int .i64) (.sh false) x16⟩), (17, ⟨0, 0, 0, .val .reg (.int .i64) (.sh false) x17⟩)]
noncomputable def spec_l02Reach_c11 (x1 : (Int × (List (Int × Int)))) (x3 : (List Int)) (x4 : Int) (x6 : (Int × Int)) (x15 : (List (Int × Int))) (x16 : Int) (x17 : Int) : Option (List Int) := atF Γ (den Γ X) 25 [1, 1, 0, 1, 0, 0, 1, 0, 0, 1, 0, 0, 1, 1, 0, 0, 1, 1, 1, 0] [(1, ⟨0, 0, 0, .val .box (.cons (.int .i64) (.sl (.cons (.int .i64) (.int .i64)))) (.sh true) x1⟩), (3, ⟨0, 0, 0, .val .reg (.sl (.int .i64)) (.own (.sh false)) x3⟩), (4, ⟨0, 0, 0, .val .reg (.int .i64) (.sh false) x4⟩), (6, ⟨0, 0, 0, .val .box (.cons (.int .i64) (.int .i64)) (.pr (.sh false) (.sh false)) x6⟩), (15, ⟨0, 0, 0, .val .reg (.sl (.cons (.int .i64) (.int .i64))) (.sh true) x15⟩), (16, ⟨0, 0, 0, .val .reg (.int .i64) (.sh false) x16⟩), (17, ⟨0, 0, 0, .val .reg (.int .i64) (.sh false) x17⟩)]
noncomputable def spec_l02Reach_c12 (x1 : (Int × (List (Int × Int)))) (x3 : (List Int)) (x4 : Int) (x15 : (List (Int × Int))) (x16 : Int) (x17 : Int) : Option (List Int) := atF Γ (den Γ X) 25 [1, 1, 0, 1, 0, 0, 1, 0, 0, 1, 0, 0, 1, 1, 1] [(1, ⟨0, 0, 0, .val .box (.cons (.int .i64) (.sl (.cons (.int .i64) (.int .i64)))) (.sh true) x1⟩), (3, ⟨0, 0, 0, .val .reg (.sl (.int .i64)) (.own (.sh false)) x3⟩), (4, ⟨0, 0, 0, .val .reg (.int .i64) (.sh false) x4⟩), (15, ⟨0, 0, 0, .val .reg (.sl (.cons (.int .i64) (.int .i64))) (.sh true) x15⟩), (16, ⟨0, 0, 0, .val .reg (.int .i64) (.sh false) x16⟩), (17, ⟨0, 0, 0, .val .reg (.int .i64) (.sh false) x17⟩)]
noncomputable def spec_GraphOk (a0 : (Int × (List (Int × Int)))) : Option Bool := den Γ X 26 a0
noncomputable def spec_GraphOk_l0 (x1 : (Int × (List (Int × Int)))) (x9 : (List (Int × Int))) (x10 : Int) (x11 : Int) : Option Bool := atF Γ (den Γ X) 26 [1, 1, 0, 1, 0] [(1, ⟨0, 0, 0, .val .box (.cons (.int .i64) (.sl (.cons (.int .i64) (.int .i64)))) (.sh true) x1⟩), (9, ⟨0, 0, 0, .val .reg (.sl (.cons (.int .i64) (.int .i64))) (.sh true) x9⟩), (10, ⟨0, 0, 0, .val .reg (.int .i64) (.sh false) x10⟩), (11, ⟨0, 0, 0, .val .reg (.int .i64) (.sh false) x11⟩)]
noncomputable def spec_GraphOk_c8 (x1 : (Int × (List (Int × Int)))) (x9 : (List (Int × Int))) (x10 : Int) (x11 : Int) : Option Bool := atF Γ (den Γ X) 26 [1, 1, 0, 1, 0, 0, 1, 1, 1] [(1, ⟨0, 0, 0, .val .box (.cons (.int .i64) (.sl (.cons (.int .i64) (.int .i64)))) (.sh true) x1⟩), (9, ⟨0, 0, 0, .val .reg (.sl (.cons (.int .i64) (.int .i64))) (.sh true) x9⟩), (10, ⟨0, 0, 0, .val .reg (.int .i64) (.sh false) x10⟩), (11, ⟨0, 0, 0, .val .reg (.int .i64) (.sh false) x11⟩)]
noncomputable def spec_FormatGraph (a0 : (Int × (List (Int × Int)))) : Option ByteArray := den Γ X 27 a0
noncomputable def spec_FormatGraph_l0 (x3 : ByteArray) (x14 : (List (Int × Int))) (x15 : Int) (x16 : Int) : Option ByteArray := atF Γ (den Γ X) 27 [1, 1, 1, 0, 1, 0] [(3, ⟨0, 0, 0, .val .reg .str (.sh false) x3⟩), (14, ⟨0, 0, 0, .val .reg (.sl (.cons (.int .i64) (.int .i64))) (.sh true) x14⟩), (15, ⟨0, 0, 0, .val .reg (.int .i64) (.sh false) x15⟩), (16, ⟨0, 0, 0, .val .reg (.int .i64) (.sh false) x16⟩)]
noncomputable def spec_ParseGraph (a0 : ByteArray) : Option ((Int × (List (Int × Int))) × Bool) := den Γ X 28 a0
noncomputable def spec_ParseGraph_l0 (x0 : ByteArray) (x2 : (Int × (List (Int × Int)))) (x5 : (Int × (List (Int × Int)))) (x37 : (List ByteArray)) (x38 : Int) (x39 : Int) : Option ((Int × (List (Int × Int))) × Bool) := atF Γ (den Γ X) 28 [1, 1, 1, 1, 1, 1, 1, 1, 0, 1, 0] [(0, ⟨0, 0, 0, .val .reg .str (.sh false) x0⟩), (2, ⟨0, 0, 0, .val .box (.cons (.int .i64) (.sl (.cons (.int .i64) (.int .i64)))) (.pr (.sh false) (.own (.pr (.sh false) (.sh false)))) x2⟩), (5, ⟨0, 0, 0, .val .box (.cons (.int .i64) (.sl (.cons (.int .i64) (.int .i64)))) (.pr (.sh false) (.own (.pr (.sh false) (.sh false)))) x5⟩), (37, ⟨0, 0, 0, .val .reg (.sl .str) (.sh false) x37⟩), (38, ⟨0, 0, 0, .val .reg (.int .i64) (.sh false) x38⟩), (39, ⟨0, 0, 0, .val .reg (.int .i64) (.sh false) x39⟩)]
noncomputable def impl_ParseDivisor (a0 : ByteArray) : Option ((List Int) × Bool) := den Γ X 29 a0
noncomputable def impl_ParseDivisor_l0 (x4 : (List Int)) (x12 : (List ByteArray)) (x13 : Int) (x14 : Int) : Option ((List Int) × Bool) := atF Γ (den Γ X) 29 [1, 1, 1, 0, 1, 0] [(4, ⟨0, 0, 0, .val .reg (.sl (.int .i64)) (.own (.sh false)) x4⟩), (12, ⟨0, 0, 0, .val .reg (.sl .str) (.own (.sh false)) x12⟩), (13, ⟨0, 0, 0, .val .reg (.int .i64) (.sh false) x13⟩), (14, ⟨0, 0, 0, .val .reg (.int .i64) (.sh false) x14⟩)]
noncomputable def spec_Join (a0 : (List ByteArray)) (a1 : ByteArray) : Option ByteArray := den Γ X 30 (a0, a1)
noncomputable def spec_Join_l0 (x1 : ByteArray) (x5 : ByteArray) (x8 : (List ByteArray)) (x9 : Int) (x10 : Int) : Option ByteArray := atF Γ (den Γ X) 30 [1, 1, 0, 1, 0] [(1, ⟨0, 0, 0, .val .reg .str (.sh false) x1⟩), (5, ⟨0, 0, 0, .val .reg .str (.sh false) x5⟩), (8, ⟨0, 0, 0, .val .reg (.sl .str) (.sh true) x8⟩), (9, ⟨0, 0, 0, .val .reg (.int .i64) (.sh false) x9⟩), (10, ⟨0, 0, 0, .val .reg (.int .i64) (.sh false) x10⟩)]
noncomputable def spec_FormatDivisor (a0 : (List Int)) : Option ByteArray := den Γ X 31 a0
noncomputable def spec_FormatDivisor_l0 (x3 : (List ByteArray)) (x7 : (List Int)) (x8 : Int) (x9 : Int) : Option ByteArray := atF Γ (den Γ X) 31 [1, 1, 0, 1, 0] [(3, ⟨0, 0, 0, .val .reg (.sl .str) (.own (.sh false)) x3⟩), (7, ⟨0, 0, 0, .val .reg (.sl (.int .i64)) (.sh true) x7⟩), (8, ⟨0, 0, 0, .val .reg (.int .i64) (.sh false) x8⟩), (9, ⟨0, 0, 0, .val .reg (.int .i64) (.sh false) x9⟩)]
noncomputable def spec_ParseDivisor (a0 : ByteArray) : Option ((List Int) × Bool) := den Γ X 32 a0
noncomputable def impl_Valence (a0 : (Int × (List (Int × Int)))) (a1 : Int) : Option Int := den Γ X 33 (a0, a1)
noncomputable def impl_Valence_l0 (x1 : Int) (x5 : Int) (x17 : (List (Int × Int))) (x18 : Int) (x19 : Int) : Option Int := atF Γ (den Γ X) 33 [1, 1, 1, 0, 1, 0] [(1, ⟨0, 0, 0, .val .reg (.int .i64) (.sh false) x1⟩), (5, ⟨0, 0, 0, .val .reg (.int .i64) (.sh false) x5⟩), (17, ⟨0, 0, 0, .val .reg (.sl (.cons (.int .i64) (.int .i64))) (.sh true) x17⟩), (18, ⟨0, 0, 0, .val .reg (.int .i64) (.sh false) x18⟩), (19, ⟨0, 0, 0, .val .reg (.int .i64) (.sh false) x19⟩)]
noncomputable def impl_CanonicalOf (a0 : (Int × (List (Int × Int)))) : Option (List Int) := den Γ X 34 a0
noncomputable def impl_CanonicalOf_l0 (x1 : (Int × (List (Int × Int)))) (x3 : (List Int)) (x4 : Int) : Option (List Int) := atF Γ (den Γ X) 34 [1, 1, 1, 0, 1, 0] [(1, ⟨0, 0, 0, .val .box (.cons (.int .i64) (.sl (.cons (.int .i64) (.int .i64)))) (.sh true) x1⟩), (3, ⟨0, 0, 0, .val .reg (.sl (.int .i64)) (.own (.sh false)) x3⟩), (4, ⟨0, 0, 0, .val .reg (.int .i64) (.sh false) x4⟩)]
noncomputable def spec_DivisorOk (a0 : (Int × (List (Int × Int)))) (a1 : (List Int)) : Option Bool := den Γ X 35 (a0, a1)
noncomputable def spec_DivisorOk_l0 (x17 : (List Int)) (x18 : Int) (x19 : Int) : Option Bool := atF Γ (den Γ X) 35 [1, 1, 0, 1, 0] [(17, ⟨0, 0, 0, .val .reg (.sl (.int .i64)) (.sh true) x17⟩), (18, ⟨0, 0, 0, .val .reg (.int .i64) (.sh false) x18⟩), (19, ⟨0, 0, 0, .val .reg (.int .i64) (.sh false) x19⟩)]
noncomputable def spec_l02Vert (a0 : (Int × (List (Int × Int)))) (a1 : Int) : Option Bool := den Γ X 36 (a0, a1)
noncomputable def spec_Valence (a0 : (Int × (List (Int × Int)))) (a1 : Int) : Option Int := den Γ X 37 (a0, a1)
noncomputable def spec_Valence_l0 (x1 : Int) (x5 : Int) (x13 : (List (Int × Int))) (x14 : Int) (x15 : Int) : Option Int := atF Γ (den Γ X) 37 [1, 1, 1, 0, 1, 0] [(1, ⟨0, 0, 0, .val .reg (.int .i64) (.sh false) x1⟩), (5, ⟨0, 0, 0, .val .reg (.int .i64) (.sh false) x5⟩), (13, ⟨0, 0, 0, .val .reg (.sl (.cons (.int .i64) (.int .i64))) (.sh true) x13⟩), (14, ⟨0, 0, 0, .val .reg (.int .i64) (.sh false) x14⟩), (15, ⟨0, 0, 0, .val .reg (.int .i64) (.sh false) x15⟩)]
noncomputable def spec_CanonicalOf (a0 : (Int × (List (Int × Int)))) : Option (List Int) := den Γ X 38 a0
noncomputable def spec_CanonicalOf_l0 (x1 : (Int × (List (Int × Int)))) (x3 : (List Int)) (x4 : Int) : Option (List Int) := atF Γ (den Γ X) 38 [1, 1, 1, 0, 1, 0] [(1, ⟨0, 0, 0, .val .box (.cons (.int .i64) (.sl (.cons (.int .i64) (.int .i64)))) (.sh true) x1⟩), (3, ⟨0, 0, 0, .val .reg (.sl (.int .i64)) (.own (.sh false)) x3⟩), (4, ⟨0, 0, 0, .val .reg (.int .i64) (.sh false) x4⟩)]
noncomputable def spec_l07Minus (a0 : (List Int)) (a1 : (List Int)) : Option (List Int) := den Γ X 39 (a0, a1)
noncomputable def spec_l07Minus_l0 (x1 : (List Int)) (x5 : (List Int)) (x9 : (List Int)) (x10 : Int) (x11 : Int) : Option (List Int) := atF Γ (den Γ X) 39 [1, 1, 0, 1, 0] [(1, ⟨0, 0, 0, .val .reg (.sl (.int .i64)) (.sh true) x1⟩), (5, ⟨0, 0, 0, .val .reg (.sl (.int .i64)) (.own (.sh false)) x5⟩), (9, ⟨0, 0, 0, .val .reg (.sl (.int .i64)) (.sh true) x9⟩), (10, ⟨0, 0, 0, .val .reg (.int .i64) (.sh false) x10⟩), (11, ⟨0, 0, 0, .val .reg (.int .i64) (.sh false) x11⟩)]
noncomputable def spec_ResidualOf (a0 : (Int × (List (Int × Int)))) (a1 : (List Int)) : Option ((List Int) × Bool) := den Γ X 40 (a0, a1)
noncomputable def impl_allWithin (a0 : (List Int)) (a1 : Int) (a2 : Int) : Option Bool := den Γ X 41 (a0, a1, a2)
noncomputable def impl_allWithin_l0 (x1 : Int) (x2 : Int) (x9 : (List Int)) (x10 : Int) (x11 : Int) : Option Bool := atF Γ (den Γ X) 41 [1, 0, 1, 0] [(1, ⟨0, 0, 0, .val .reg (.int .i64) (.sh false) x1⟩), (2, ⟨0, 0, 0, .val .reg (.int .i64) (.sh false) x2⟩), (9, ⟨0, 0, 0, .val .reg (.sl (.int .i64)) (.sh true) x9⟩), (10, ⟨0, 0, 0, .val .reg (.int .i64) (.sh false) x10⟩), (11, ⟨0, 0, 0, .val .reg (.int .i64) (.sh false) x11⟩)]
noncomputable def impl_DivisorOk (a0 : (Int × (List (Int × Int)))) (a1 : (List Int)) : Option Bool := den Γ X 42 (a0, a1)
noncomputable def impl_copyInts (a0 : (List Int)) : Option (List Int) := den Γ X 43 a0
noncomputable def impl_NegateDivisor (a0 : (List Int)) : Option (List Int) := den Γ X 44 a0
noncomputable def impl_NegateDivisor_l0 (x3 : (List Int)) (x8 : Int) (x9 : Int) : Option (List Int) := atF Γ (den Γ X) 44 [1, 1, 0, 1, 0] [(3, ⟨0, 0, 0, .val .reg (.sl (.int .i64)) (.own (.sh false)) x3⟩), (8, ⟨0, 0, 0, .val .reg (.int .i64) (.sh false) x8⟩), (9, ⟨0, 0, 0, .val .reg (.int .i64) (.sh false) x9⟩)]
noncomputable def impl_plus (a0 : (List Int)) (a1 : (List Int)) : Option (List Int) := den Γ X 45 (a0, a1)
noncomputable def impl_plus_l0 (x1 : (List Int)) (x5 : (List Int)) (x10 : Int) (x11 : Int) : Option (List Int) := atF Γ (den Γ X) 45 [1, 1, 0, 1, 0] [(1, ⟨0, 0, 0, .val .reg (.sl (.int .i64)) (.sh true) x1⟩), (5, ⟨0, 0, 0, .val .reg (.sl (.int .i64)) (.own (.sh false)) x5⟩), (10, ⟨0, 0, 0, .val .reg (.int .i64) (.sh false) x10⟩), (11, ⟨0, 0, 0, .val .reg (.int .i64) (.sh false) x11⟩)]
noncomputable def impl_ResidualOf (a0 : (Int × (List (Int × Int)))) (a1 : (List Int)) : Option ((List Int) × Bool) := den Γ X 46 (a0, a1)
noncomputable def impl_sumOf (a0 : (List Int)) : Option Int := den Γ X 47 a0
noncomputable def impl_sumOf_l0 (x3 : Int) (x6 : (List Int)) (x7 : Int) (x8 : Int) : Option Int := atF Γ (den Γ X) 47 [1, 1, 0, 1, 0] [(3, ⟨0, 0, 0, .val .reg (.int .i64) (.sh false) x3⟩), (6, ⟨0, 0, 0, .val .reg (.sl (.int .i64)) (.sh true) x6⟩), (7, ⟨0, 0, 0, .val .reg (.int .i64) (.sh false) x7⟩), (8, ⟨0, 0, 0, .val .reg (.int .i64) (.sh false) x8⟩)]
noncomputable def impl_DegreeOf (a0 : (List Int)) : Option Int := den Γ X 48 a0
noncomputable def impl_GenusOf (a0 : (Int × (List (Int × Int)))) : Option Int := den Γ X 49 a0
noncomputable def spec_DegreeOf (a0 : (List Int)) : Option Int := den Γ X 50 a0
noncomputable def spec_DegreeOf_l0 (x3 : Int) (x6 : (List Int)) (x7 : Int) (x8 : Int) : Option Int := atF Γ (den Γ X) 50 [1, 1, 0, 1, 0] [(3, ⟨0, 0, 0, .val .reg (.int .i64) (.sh false) x3⟩), (6, ⟨0, 0, 0, .val .reg (.sl (.int .i64)) (.sh true) x6⟩), (7, ⟨0, 0, 0, .val .reg (.int .i64) (.sh false) x7⟩), (8, ⟨0, 0, 0, .val .reg (.int .i64) (.sh false) x8⟩)]
noncomputable def spec_l07Ok (a0 : (Int × (List (Int × Int)))) (a1 : (List Int)) : Option Bool := den Γ X 51 (a0, a1)
noncomputable def spec_l06Effective (a0 : Int) (a1 : Int) : Option (List (List Int)) := den Γ X 52 (a0, a1)
noncomputable def spec_l06Effective_l0 (x0 : Int) (x1 : Int) (x5 : (List (List Int))) (x6 : Int) : Option (List (List Int)) := atF Γ (den Γ X) 52 [1, 1, 1, 1, 0, 1, 0] [(0, ⟨0, 0, 0, .val .reg (.int .i64) (.sh false) x0⟩), (1, ⟨0, 0, 0, .val .reg (.int .i64) (.sh false) x1⟩), (5, ⟨0, 0, 0, .val .reg (.sl (.sl (.int .i64))) (.own (.sh false)) x5⟩), (6, ⟨0, 0, 0, .val .reg (.int .i64) (.sh false) x6⟩)]
noncomputable def spec_l06Effective_l2 (x0 : Int) (x1 : Int) (x5 : (List (List Int))) (x6 : Int) (x31 : (List (List Int))) (x32 : Int) (x33 : Int) : Option (List (List Int)) := atF Γ (den Γ X) 52 [1, 1, 1, 1, 0, 1, 0, 0, 1, 0, 0, 1, 0] [(0, ⟨0, 0, 0, .val .reg (.int .i64) (.sh false) x0⟩), (1, ⟨0, 0, 0, .val .reg (.int .i64) (.sh false) x1⟩), (5, ⟨0, 0, 0, .val .reg (.sl (.sl (.int .i64))) (.own (.sh false)) x5⟩), (6, ⟨0, 0, 0, .val .reg (.int .i64) (.sh false) x6⟩), (31, ⟨0, 0, 0, .val .reg (.sl (.sl (.int .i64))) (.own (.sh false)) x31⟩), (32, ⟨0, 0, 0, .val .reg (.int .i64) (.sh false) x32⟩), (33, ⟨0, 0, 0, .val .reg (.int .i64) (.sh false) x33⟩)]
noncomputable def spec_l05Debt (a0 : (List Int)) (a1 : Int) : Option Bool := den Γ X 53 (a0, a1)
noncomputable def spec_l05Debt_l0 (x1 : Int) (x7 : (List Int)) (x8 : Int) (x9 : Int) : Option Bool := atF Γ (den Γ X) 53 [1, 0, 1, 0] [(1, ⟨0, 0, 0, .val .reg (.int .i64) (.sh false) x1⟩), (7, ⟨0, 0, 0, .val .reg (.sl (.int .i64)) (.sh true) x7⟩), (8, ⟨0, 0, 0, .val .reg (.int .i64) (.sh false) x8⟩), (9, ⟨0, 0, 0, .val .reg (.int .i64) (.sh false) x9⟩)]
noncomputable def spec_l04Fire (a0 : (Int × (List (Int × Int)))) (a1 : (List Int)) (a2 : (List Int)) : Option (List Int) := den Γ X 54 (a0, a1, a2)
noncomputable def spec_l04Fire_l0 (x2 : (List Int)) (x7 : (List Int)) (x14 : (List (Int × Int))) (x15 : Int) (x16 : Int) : Option (List Int) := atF Γ (den Γ X) 54 [1, 1, 0, 1, 0] [(2, ⟨0, 0, 0, .val .reg (.sl (.int .i64)) (.sh true) x2⟩), (7, ⟨0, 0, 0, .val .reg (.sl (.int .i64)) (.own (.sh false)) x7⟩), (14, ⟨0, 0, 0, .val .reg (.sl (.cons (.int .i64) (.int .i64))) (.sh true) x14⟩), (15, ⟨0, 0, 0, .val .reg (.int .i64) (.sh false) x15⟩), (16, ⟨0, 0, 0, .val .reg (.int .i64) (.sh false) x16⟩)]
noncomputable def spec_l04Fire_c7 (x2 : (List Int)) (x7 : (List Int)) (x14 : (List (Int × Int))) (x15 : Int) (x16 : Int) : Option (List Int) := atF Γ (den Γ X) 54 [1, 1, 0, 1, 0, 0, 1, 1, 1] [(2, ⟨0, 0, 0, .val .reg (.sl (.int .i64)) (.sh true) x2⟩), (7, ⟨0, 0, 0, .val .reg (.sl (.int .i64)) (.own (.sh false)) x7⟩), (14, ⟨0, 0, 0, .val .reg (.sl (.cons (.int .i64) (.int .i64))) (.sh true) x14⟩), (15, ⟨0, 0, 0, .val .reg (.int .i64) (.sh false) x15⟩), (16, ⟨0, 0, 0, .val .reg (.int .i64) (.sh false) x16⟩)]
noncomputable def spec_Multiplicity (a0 : (Int × (List (Int × Int)))) (a1 : Int) (a2 : Int) : Option Int := den Γ X 55 (a0, a1, a2)
noncomputable def spec_Multiplicity_l0 (x1 : Int) (x2 : Int) (x7 : Int) (x26 : (List (Int × Int))) (x27 : Int) (x28 : Int) : Option Int := atF Γ (den Γ X) 55 [1, 1, 1, 0, 1, 0] [(1, ⟨0, 0, 0, .val .reg (.int .i64) (.sh false) x1⟩), (2, ⟨0, 0, 0, .val .reg (.int .i64) (.sh false) x2⟩), (7, ⟨0, 0, 0, .val .reg (.int .i64) (.sh false) x7⟩), (26, ⟨0, 0, 0, .val .reg (.sl (.cons (.int .i64) (.int .i64))) (.sh true) x26⟩), (27, ⟨0, 0, 0, .val .reg (.int .i64) (.sh false) x27⟩), (28, ⟨0, 0, 0, .val .reg (.int .i64) (.sh false) x28⟩)]
noncomputable def spec_l05Burn (a0 : (Int × (List (Int × Int)))) (a1 : (List Int)) (a2 : Int) : Option (List Int) := den Γ X 56 (a0, a1, a2)
noncomputable def spec_l05Burn_l0 (x1 : (List Int)) (x3 : (Int × (List (Int × Int)))) (x7 : (List Int)) (x8 : (List Bool)) : Option (List Int) := atF Γ (den Γ X) 56 [1, 1, 1, 1, 0] [(1, ⟨0, 0, 0, .val .reg (.sl (.int .i64)) (.sh true) x1⟩), (3, ⟨0, 0, 0, .val .box (.cons (.int .i64) (.sl (.cons (.int .i64) (.int .i64)))) (.sh true) x3⟩), (7, ⟨0, 0, 0, .val .reg (.sl (.int .i64)) (.own (.sh false)) x7⟩), (8, ⟨0, 0, 0, .val .reg (.sl .bool) (.own (.sh false)) x8⟩)]
noncomputable def spec_l05Burn_l2 (x1 : (List Int)) (x3 : (Int × (List (Int × Int)))) (x7 : (List Int)) (x8 : (List Bool)) (x9 : Int) (x10 : Int) : Option (List Int) := atF Γ (den Γ X) 56 [1, 1, 1, 1, 0, 0, 0, 1, 0, 1, 0] [(1, ⟨0, 0, 0, .val .reg (.sl (.int .i64)) (.sh true) x1⟩), (3, ⟨0, 0, 0, .val .box (.cons (.int .i64) (.sl (.cons (.int .i64) (.int .i64)))) (.sh true) x3⟩), (7, ⟨0, 0, 0, .val .reg (.sl (.int .i64)) (.own (.sh false)) x7⟩), (8, ⟨0, 0, 0, .val .reg (.sl .bool) (.own (.sh false)) x8⟩), (9, ⟨0, 0, 0, .val .reg (.int .i64) (.sh false) x9⟩), (10, ⟨0, 0, 0, .val .reg (.int .i64) (.sh false) x10⟩)]
noncomputable def spec_l05Burn_l4 (x1 : (List Int)) (x3 : (Int × (List (Int × Int)))) (x7 : (List Int)) (x8 : (List Bool)) (x9 : Int) (x10 : Int) (x11 : Int) (x12 : Int) : Option (List Int) := atF Γ (den Γ X) 56 [1, 1, 1, 1, 0, 0, 0, 1, 0, 1, 0, 0, 1, 0, 0, 1, 0, 1, 0] [(1, ⟨0, 0, 0, .val .reg (.sl (.int .i64)) (.sh true) x1⟩), (3, ⟨0, 0, 0, .val .box (.cons (.int .i64) (.sl (.cons (.int .i64) (.int .i64)))) (.sh true) x3⟩), (7, ⟨0, 0, 0, .val .reg (.sl (.int .i64)) (.own (.sh false)) x7⟩), (8, ⟨0, 0, 0, .val .reg (.sl .bool) (.own (.sh false)) x8⟩), (9, ⟨0, 0, 0, .val .reg (.int .i64) (.sh false) x9⟩), (10, ⟨0, 0, 0, .val .reg (.int .i64) (.sh false) x10⟩), (11, ⟨0, 0, 0, .val .reg (.int .i64) (.sh false) x11⟩), (12, ⟨0, 0, 0, .val .reg (.int .i64) (.sh false) x12⟩)]
noncomputable def spec_l05Reduce (a0 : (Int × (List (Int × Int)))) (a1 : (List Int)) (a2 : Int) : Option ((List Int) × (List Int)) := den Γ X 57 (a0, a1, a2)
noncomputable def spec_l05Reduce_l0 (x1 : (List Int)) (x2 : Int) (x3 : (Int × (List (Int × Int)))) (x8 : (List Int)) (x9 : (List Int)) : Option ((List Int) × (List Int)) := atF Γ (den Γ X) 57 [1, 1, 1, 0, 0] [(1, ⟨0, 0, 0, .val .reg (.sl (.int .i64)) (.sh true) x1⟩), (2, ⟨0, 0, 0, .val .reg (.int .i64) (.sh false) x2⟩), (3, ⟨0, 0, 0, .val .box (.cons (.int .i64) (.sl (.cons (.int .i64) (.int .i64)))) (.sh true) x3⟩), (8, ⟨0, 0, 0, .val .reg (.sl (.int .i64)) (.own (.sh false)) x8⟩), (9, ⟨0, 0, 0, .val .reg (.sl (.int .i64)) (.own (.sh false)) x9⟩)]
noncomputable def spec_l05Reduce_l2 (x1 : (List Int)) (x2 : Int) (x3 : (Int × (List (Int × Int)))) (x8 : (List Int)) (x9 : (List Int)) (x23 : Int) (x24 : Int) : Option ((List Int) × (List Int)) := atF Γ (den Γ X) 57 [1, 1, 1, 0, 0, 0, 1, 0, 1, 0] [(1, ⟨0, 0, 0, .val .reg (.sl (.int .i64)) (.sh true) x1⟩), (2, ⟨0, 0, 0, .val .reg (.int .i64) (.sh false) x2⟩), (3, ⟨0, 0, 0, .val .box (.cons (.int .i64) (.sl (.cons (.int .i64) (.int .i64)))) (.sh true) x3⟩), (8, ⟨0, 0, 0, .val .reg (.sl (.int .i64)) (.own (.sh false)) x8⟩), (9, ⟨0, 0, 0, .val .reg (.sl (.int .i64)) (.own (.sh false)) x9⟩), (23, ⟨0, 0, 0, .val .reg (.int .i64) (.sh false) x23⟩), (24, ⟨0, 0, 0, .val .reg (.int .i64) (.sh false) x24⟩)]
noncomputable def spec_l05Reduce_l4 (x1 : (List Int)) (x2 : Int) (x3 : (Int × (List (Int × Int)))) (x8 : (List Int)) (x9 : (List Int)) : Option ((List Int) × (List Int)) := atF Γ (den Γ X) 57 [1, 1, 1, 1, 0] [(1, ⟨0, 0, 0, .val .reg (.sl (.int .i64)) (.sh true) x1⟩), (2, ⟨0, 0, 0, .val .reg (.int .i64) (.sh false) x2⟩), (3, ⟨0, 0, 0, .val .box (.cons (.int .i64) (.sl (.cons (.int .i64) (.int .i64)))) (.sh true) x3⟩), (8, ⟨0, 0, 0, .val .reg (.sl (.int .i64)) (.own (.sh false)) x8⟩), (9, ⟨0, 0, 0, .val .reg (.sl (.int .i64)) (.own (.sh false)) x9⟩)]
noncomputable def spec_l05Reduce_l6 (x1 : (List Int)) (x2 : Int) (x3 : (Int × (List (Int × Int)))) (x8 : (List Int)) (x11 : (List Int)) (x12 : Int) : Option ((List Int) × (List Int)) := atF Γ (den Γ X) 57 [1, 1, 1, 1, 0, 0, 0, 1, 1, 0, 1, 0] [(1, ⟨0, 0, 0, .val .reg (.sl (.int .i64)) (.sh true) x1⟩), (2, ⟨0, 0, 0, .val .reg (.int .i64) (.sh false) x2⟩), (3, ⟨0, 0, 0, .val .box (.cons (.int .i64) (.sl (.cons (.int .i64) (.int .i64)))) (.sh true) x3⟩), (8, ⟨0, 0, 0, .val .reg (.sl (.int .i64)) (.own (.sh false)) x8⟩), (11, ⟨0, 0, 0, .val .reg (.sl (.int .i64)) (.own (.sh false)) x11⟩), (12, ⟨0, 0, 0, .val .reg (.int .i64) (.sh false) x12⟩)]
noncomputable def spec_l07Win (a0 : (Int × (List (Int × Int)))) (a1 : (List Int)) : Option Bool := den Γ X 58 (a0, a1)
noncomputable def spec_l07Search (a0 : (Int × (List (Int × Int)))) (a1 : (List Int)) : Option (Int × (List Int)) := den Γ X 59 (a0, a1)
noncomputable def spec_l07Search_l0 (x1 : (List Int)) (x2 : (Int × (List (Int × Int)))) (x6 : Int) : Option (Int × (List Int)) := atF Γ (den Γ X) 59 [1, 1, 0] [(1, ⟨0, 0, 0, .val .reg (.sl (.int .i64)) (.sh true) x1⟩), (2, ⟨0, 0, 0, .val .box (.cons (.int .i64) (.sl (.cons (.int .i64) (.int .i64)))) (.sh true) x2⟩), (6, ⟨0, 0, 0, .val .reg (.int .i64) (.sh false) x6⟩)]
noncomputable def spec_l07Search_l2 (x1 : (List Int)) (x2 : (Int × (List (Int × Int)))) (x6 : Int) (x14 : (List (List Int))) (x15 : Int) (x16 : Int) : Option (Int × (List Int)) := atF Γ (den Γ X) 59 [1, 1, 0, 0, 0, 0, 1, 0] [(1, ⟨0, 0, 0, .val .reg (.sl (.int .i64)) (.sh true) x1⟩), (2, ⟨0, 0, 0, .val .box (.cons (.int .i64) (.sl (.cons (.int .i64) (.int .i64)))) (.sh true) x2⟩), (6, ⟨0, 0, 0, .val .reg (.int .i64) (.sh false) x6⟩), (14, ⟨0, 0, 0, .val .reg (.sl (.sl (.int .i64))) (.own (.sh false)) x14⟩), (15, ⟨0, 0, 0, .val .reg (.int .i64) (.sh false) x15⟩), (16, ⟨0, 0, 0, .val .reg (.int .i64) (.sh false) x16⟩)]
noncomputable def spec_RankOf (a0 : (Int × (List (Int × Int)))) (a1 : (List Int)) : Option (Int × Bool) := den Γ X 60 (a0, a1)
noncomputable def impl_inDebt (a0 : (List Int)) (a1 : Int) : Option Int := den Γ X 61 (a0, a1)
noncomputable def impl_inDebt_l0 (x1 : Int) (x7 : (List Int)) (x8 : Int) (x9 : Int) : Option Int := atF Γ (den Γ X) 61 [1, 0, 1, 0] [(1, ⟨0, 0, 0, .val .reg (.int .i64) (.sh false) x1⟩), (7, ⟨0, 0, 0, .val .reg (.sl (.int .i64)) (.sh true) x7⟩), (8, ⟨0, 0, 0, .val .reg (.int .i64) (.sh false) x8⟩), (9, ⟨0, 0, 0, .val .reg (.int .i64) (.sh false) x9⟩)]
noncomputable def impl_fire (a0 : (Int × (List (Int × Int)))) (a1 : (List Int)) (a2 : Int) (a3 : Int) : Option (List Int) := den Γ X 62 (a0, a1, a2, a3)
noncomputable def impl_fire_l0 (x1 : (List Int)) (x2 : Int) (x3 : Int) (x11 : (List (Int × Int))) (x12 : Int) (x13 : Int) : Option (List Int) := atF Γ (den Γ X) 62 [1, 1, 0] [(1, ⟨0, 0, 0, .val .reg (.sl (.int .i64)) (.own (.sh false)) x1⟩), (2, ⟨0, 0, 0, .val .reg (.int .i64) (.sh false) x2⟩), (3, ⟨0, 0, 0, .val .reg (.int .i64) (.sh false) x3⟩), (11, ⟨0, 0, 0, .val .reg (.sl (.cons (.int .i64) (.int .i64))) (.sh true) x11⟩), (12, ⟨0, 0, 0, .val .reg (.int .i64) (.sh false) x12⟩), (13, ⟨0, 0, 0, .val .reg (.int .i64) (.sh false) x13⟩)]
noncomputable def impl_Multiplicity (a0 : (Int × (List (Int × Int)))) (a1 : Int) (a2 : Int) : Option Int := den Γ X 63 (a0, a1, a2)
noncomputable def impl_Multiplicity_l0 (x1 : Int) (x2 : Int) (x7 : Int) (x28 : (List (Int × Int))) (x29 : Int) (x30 : Int) : Option Int := atF Γ (den Γ X) 63 [1, 1, 1, 0, 1, 0] [(1, ⟨0, 0, 0, .val .reg (.int .i64) (.sh false) x1⟩), (2, ⟨0, 0, 0, .val .reg (.int .i64) (.sh false) x2⟩), (7, ⟨0, 0, 0, .val .reg (.int .i64) (.sh false) x7⟩), (28, ⟨0, 0, 0, .val .reg (.sl (.cons (.int .i64) (.int .i64))) (.sh true) x28⟩), (29, ⟨0, 0, 0, .val .reg (.int .i64) (.sh false) x29⟩), (30, ⟨0, 0, 0, .val .reg (.int .i64) (.sh false) x30⟩)]
noncomputable def slices_Index_int_int (a0 : (List Int)) (a1 : Int) : Option Int := den Γ X 64 (a0, a1)
noncomputable def slices_Index_int_int_l0 (x0 : (List Int)) (x1 : Int) (x7 : Int) (x8 : Int) : Option Int := atF Γ (den Γ X) 64 [1, 0, 1, 0] [(0, ⟨0, 0, 0, .val .reg (.sl (.int .i64)) (.sh true) x0⟩), (1, ⟨0, 0, 0, .val .reg (.int .i64) (.sh false) x1⟩), (7, ⟨0, 0, 0, .val .reg (.int .i64) (.sh false) x7⟩), (8, ⟨0, 0, 0, .val .reg (.int .i64) (.sh false) x8⟩)]
noncomputable def slices_Contains_int_int (a0 : (List Int)) (a1 : Int) : Option Bool := den Γ X 65 (a0, a1)
noncomputable def impl_burn (a0 : (Int × (List (Int × Int)))) (a1 : (List Int)) (a2 : Int) : Option (List Int) := den Γ X 66 (a0, a1, a2)
noncomputable def impl_burn_l0 (x1 : (List Int)) (x3 : (Int × (List (Int × Int)))) (x7 : (List Int)) : Option (List Int) := atF Γ (den Γ X) 66 [1, 1, 0] [(1, ⟨0, 0, 0, .val .reg (.sl (.int .i64)) (.sh true) x1⟩), (3, ⟨0, 0, 0, .val .box (.cons (.int .i64) (.sl (.cons (.int .i64) (.int .i64)))) (.sh true) x3⟩), (7, ⟨0, 0, 0, .val .reg (.sl (.int .i64)) (.own (.sh false)) x7⟩)]
noncomputable def impl_burn_l2 (x1 : (List Int)) (x3 : (Int × (List (Int × Int)))) (x7 : (List Int)) (x8 : Int) (x9 : Int) : Option (List Int) := atF Γ (den Γ X) 66 [1, 1, 0, 0, 0, 1, 0, 1, 0] [(1, ⟨0, 0, 0, .val .reg (.sl (.int .i64)) (.sh true) x1⟩), (3, ⟨0, 0, 0, .val .box (.cons (.int .i64) (.sl (.cons (.int .i64) (.int .i64)))) (.sh true) x3⟩), (7, ⟨0, 0, 0, .val .reg (.sl (.int .i64)) (.own (.sh false)) x7⟩), (8, ⟨0, 0, 0, .val .reg (.int .i64) (.sh false) x8⟩), (9, ⟨0, 0, 0, .val .reg (.int .i64) (.sh false) x9⟩)]
noncomputable def impl_burn_l4 (x1 : (List Int)) (x3 : (Int × (List (Int × Int)))) (x7 : (List Int)) (x8 : Int) (x9 : Int) (x10 : Int) (x26 : Int) (x27 : Int) : Option (List Int) := atF Γ (den Γ X) 66 [1, 1, 0, 0, 0, 1, 0, 1, 0, 0, 1, 0, 0, 1, 0, 1, 0] [(1, ⟨0, 0, 0, .val .reg (.sl (.int .i64)) (.sh true) x1⟩), (3, ⟨0, 0, 0, .val .box (.cons (.int .i64) (.sl (.cons (.int .i64) (.int .i64)))) (.sh true) x3⟩), (7, ⟨0, 0, 0, .val .reg (.sl (.int .i64)) (.own (.sh false)) x7⟩), (8, ⟨0, 0, 0, .val .reg (.int .i64) (.sh false) x8⟩), (9, ⟨0, 0, 0, .val .reg (.int .i64) (.sh false) x9⟩), (10, ⟨0, 0, 0, .val .reg (.int .i64) (.sh false) x10⟩), (25, ⟨0, 0, 0, .ref .ali 7 0 0 0 [] (.sl (.int .i64))⟩), (26, ⟨0, 0, 0, .val .reg (.int .i64) (.sh false) x26⟩), (27, ⟨0, 0, 0, .val .reg (.int .i64) (.sh false) x27⟩)]
noncomputable def impl_reduce (a0 : (Int × (List (Int × Int)))) (a1 : (List Int)) (a2 : Int) : Option ((List Int) × (List Int)) := den Γ X 67 (a0, a1, a2)
noncomputable def impl_reduce_l0 (x2 : Int) (x3 : (Int × (List (Int × Int)))) (x8 : (List Int)) (x9 : (List Int)) (x10 : Int) : Option ((List Int) × (List Int)) := atF Γ (den Γ X) 67 [1, 1, 1, 0, 1, 0] [(2, ⟨0, 0, 0, .val .reg (.int .i64) (.sh false) x2⟩), (3, ⟨0, 0, 0, .val .box (.cons (.int .i64) (.sl (.cons (.int .i64) (.int .i64)))) (.sh true) x3⟩), (8, ⟨0, 0, 0, .val .reg (.sl (.int .i64)) (.own (.sh false)) x8⟩), (9, ⟨0, 0, 0, .val .reg (.sl (.int .i64)) (.own (.sh false)) x9⟩), (10, ⟨0, 0, 0, .val .reg (.int .i64) (.sh false) x10⟩)]
noncomputable def impl_reduce_l2 (x2 : Int) (x3 : (Int × (List (Int × Int)))) (x8 : (List Int)) (x9 : (List Int)) : Option ((List Int) × (List Int)) := atF Γ (den Γ X) 67 [1, 1, 1, 1, 0] [(2, ⟨0, 0, 0, .val .reg (.int .i64) (.sh false) x2⟩), (3, ⟨0, 0, 0, .val .box (.cons (.int .i64) (.sl (.cons (.int .i64) (.int .i64)))) (.sh true) x3⟩), (8, ⟨0, 0, 0, .val .reg (.sl (.int .i64)) (.own (.sh false)) x8⟩), (9, ⟨0, 0, 0, .val .reg (.sl (.int .i64)) (.own (.sh false)) x9⟩)]
noncomputable def impl_reduce_l4 (x2 : Int) (x3 : (Int × (List (Int × Int)))) (x8 : (List Int)) (x9 : (List Int)) (x13 : (List Int)) (x65 : Int) (x66 : Int) : Option ((List Int) × (List Int)) := atF Γ (den Γ X) 67 [1, 1, 1, 1, 0, 0, 0, 1, 1, 1, 0] [(2, ⟨0, 0, 0, .val .reg (.int .i64) (.sh false) x2⟩), (3, ⟨0, 0, 0, .val .box (.cons (.int .i64) (.sl (.cons (.int .i64) (.int .i64)))) (.sh true) x3⟩), (8, ⟨0, 0, 0, .val .reg (.sl (.int .i64)) (.own (.sh false)) x8⟩), (9, ⟨0, 0, 0, .val .reg (.sl (.int .i64)) (.own (.sh false)) x9⟩), (13, ⟨0, 0, 0, .val .reg (.sl (.int .i64)) (.own (.sh false)) x13⟩), (65, ⟨0, 0, 0, .val .reg (.int .i64) (.sh false) x65⟩), (66, ⟨0, 0, 0, .val .reg (.int .i64) (.sh false) x66⟩)]
noncomputable def strings_Join (a0 : (List ByteArray)) (a1 : ByteArray) : Option ByteArray := den Γ X 68 (a0, a1)
noncomputable def impl_Join (a0 : (List ByteArray)) (a1 : ByteArray) : Option ByteArray := den Γ X 69 (a0, a1)
noncomputable def impl_FormatDivisor (a0 : (List Int)) : Option ByteArray := den Γ X 70 a0
noncomputable def impl_FormatDivisor_l0 (x3 : (List ByteArray)) (x9 : (List Int)) (x10 : Int) (x11 : Int) : Option ByteArray := atF Γ (den Γ X) 70 [1, 1, 1, 0, 1, 0] [(3, ⟨0, 0, 0, .val .reg (.sl .str) (.own (.sh false)) x3⟩), (9, ⟨0, 0, 0, .val .reg (.sl (.int .i64)) (.sh true) x9⟩), (10, ⟨0, 0, 0, .val .reg (.int .i64) (.sh false) x10⟩), (11, ⟨0, 0, 0, .val .reg (.int .i64) (.sh false) x11⟩)]
noncomputable def impl_IsEffective (a0 : (List Int)) : Option Bool := den Γ X 71 a0
noncomputable def impl_IsEffective_l0 (x5 : (List Int)) (x6 : Int) (x7 : Int) : Option Bool := atF Γ (den Γ X) 71 [1, 0, 1, 0] [(5, ⟨0, 0, 0, .val .reg (.sl (.int .i64)) (.sh true) x5⟩), (6, ⟨0, 0, 0, .val .reg (.int .i64) (.sh false) x6⟩), (7, ⟨0, 0, 0, .val .reg (.int .i64) (.sh false) x7⟩)]
noncomputable def slices_SortFunc_int_int__Compare_int_int (a0 : (List (List Int))) : Option (List (List Int)) := den Γ X 72 a0
noncomputable def impl_effectiveIn (a0 : (Int × (List (Int × Int)))) (a1 : (List Int)) : Option (List (List Int)) := den Γ X 73 (a0, a1)
noncomputable def impl_effectiveIn_l0 (x2 : (Int × (List (Int × Int)))) (x8 : (List (List Int))) (x10 : Int) (x32 : (List (ByteArray × Int))) : Option (List (List Int)) := atF Γ (den Γ X) 73 [1, 1, 1, 1, 1, 1, 0, 1, 0] [(2, ⟨0, 0, 0, .val .box (.cons (.int .i64) (.sl (.cons (.int .i64) (.int .i64)))) (.sh true) x2⟩), (8, ⟨0, 0, 0, .val .reg (.sl (.sl (.int .i64))) (.own (.sh false)) x8⟩), (9, ⟨0, 0, 0, .ref .ali 32 0 0 0 [] (.sl (.cons .str (.int .i64)))⟩), (10, ⟨0, 0, 0, .val .reg (.int .i64) (.sh false) x10⟩), (32, ⟨0, 0, 0, .val .map (.sl (.cons .str (.int .i64))) .gone x32⟩)]
noncomputable def impl_effectiveIn_l2 (x2 : (Int × (List (Int × Int)))) (x8 : (List (List Int))) (x10 : Int) (x11 : Int) (x32 : (List (ByteArray × Int))) : Option (List (List Int)) := atF Γ (den Γ X) 73 [1, 1, 1, 1, 1, 1, 0, 1, 0, 0, 1, 0, 0, 1, 0] [(2, ⟨0, 0, 0, .val .box (.cons (.int .i64) (.sl (.cons (.int .i64) (.int .i64)))) (.sh true) x2⟩), (8, ⟨0, 0, 0, .val .reg (.sl (.sl (.int .i64))) (.own (.sh false)) x8⟩), (9, ⟨0, 0, 0, .ref .ali 32 0 0 0 [] (.sl (.cons .str (.int .i64)))⟩), (10, ⟨0, 0, 0, .val .reg (.int .i64) (.sh false) x10⟩), (11, ⟨0, 0, 0, .val .reg (.int .i64) (.sh false) x11⟩), (32, ⟨0, 0, 0, .val .map (.sl (.cons .str (.int .i64))) .gone x32⟩)]
noncomputable def impl_effectiveIn_l4 (x2 : (Int × (List (Int × Int)))) (x8 : (List (List Int))) (x10 : Int) (x11 : Int) (x12 : (List Int)) (x32 : (List (ByteArray × Int))) (x56 : Int) (x57 : Int) : Option (List (List Int)) := atF Γ (den Γ X) 73 [1, 1, 1, 1, 1, 1, 0, 1, 0, 0, 1, 0, 0, 1, 0, 0, 1, 0, 0, 1, 0, 1, 0] [(2, ⟨0, 0, 0, .val .box (.cons (.int .i64) (.sl (.cons (.int .i64) (.int .i64)))) (.sh true) x2⟩), (8, ⟨0, 0, 0, .val .reg (.sl (.sl (.int .i64))) (.own (.sh false)) x8⟩), (9, ⟨0, 0, 0, .ref .ali 32 0 0 0 [] (.sl (.cons .str (.int .i64)))⟩), (10, ⟨0, 0, 0, .val .reg (.int .i64) (.sh false) x10⟩), (11, ⟨0, 0, 0, .val .reg (.int .i64) (.sh false) x11⟩), (12, ⟨0, 0, 0, .val .reg (.sl (.int .i64)) (.own (.sh false)) x12⟩), (32, ⟨0, 0, 0, .val .map (.sl (.cons .str (.int .i64))) .gone x32⟩), (56, ⟨0, 0, 0, .val .reg (.int .i64) (.sh false) x56⟩), (57, ⟨0, 0, 0, .val .reg (.int .i64) (.sh false) x57⟩)]
noncomputable def impl_effective (a0 : Int) (a1 : Int) : Option (List (List Int)) := den Γ X 74 (a0, a1)
noncomputable def impl_effective_l0 (x0 : Int) (x1 : Int) (x5 : (List (List Int))) (x6 : Int) : Option (List (List Int)) := atF Γ (den Γ X) 74 [1, 1, 1, 0, 1, 0] [(0, ⟨0, 0, 0, .val .reg (.int .i64) (.sh false) x0⟩), (1, ⟨0, 0, 0, .val .reg (.int .i64) (.sh false) x1⟩), (5, ⟨0, 0, 0, .val .reg (.sl (.sl (.int .i64))) (.own (.sh false)) x5⟩), (6, ⟨0, 0, 0, .val .reg (.int .i64) (.sh false) x6⟩)]
noncomputable def impl_effective_l2 (x0 : Int) (x1 : Int) (x5 : (List (List Int))) (x6 : Int) (x24 : (List (List Int))) (x25 : Int) (x26 : Int) : Option (List (List Int)) := atF Γ (den Γ X) 74 [1, 1, 1, 0, 1, 0, 0, 1, 0, 0, 1, 0] [(0, ⟨0, 0, 0, .val .reg (.int .i64) (.sh false) x0⟩), (1, ⟨0, 0, 0, .val .reg (.int .i64) (.sh false) x1⟩), (5, ⟨0, 0, 0, .val .reg (.sl (.sl (.int .i64))) (.own (.sh false)) x5⟩), (6, ⟨0, 0, 0, .val .reg (.int .i64) (.sh false) x6⟩), (24, ⟨0, 0, 0, .val .reg (.sl (.sl (.int .i64))) (.own (.sh false)) x24⟩), (25, ⟨0, 0, 0, .val .reg (.int .i64) (.sh false) x25⟩), (26, ⟨0, 0, 0, .val .reg (.int .i64) (.sh false) x26⟩)]
noncomputable def impl_covers (a0 : (List Int)) (a1 : (List Int)) : Option Bool := den Γ X 75 (a0, a1)
noncomputable def impl_covers_l0 (x0 : (List Int)) (x7 : (List Int)) (x8 : Int) (x9 : Int) : Option Bool := atF Γ (den Γ X) 75 [1, 0, 1, 0] [(0, ⟨0, 0, 0, .val .reg (.sl (.int .i64)) (.sh true) x0⟩), (7, ⟨0, 0, 0, .val .reg (.sl (.int .i64)) (.sh true) x7⟩), (8, ⟨0, 0, 0, .val .reg (.int .i64) (.sh false) x8⟩), (9, ⟨0, 0, 0, .val .reg (.int .i64) (.sh false) x9⟩)]
noncomputable def impl_rank_1 (a0 : (List Int)) (a1 : (List Int)) : Option Bool := den Γ X 76 (a0, a1)
noncomputable def slices_IndexFunc_int_int__rank_1 (a0 : (List (List Int))) (a1 : (List Int)) : Option Int := den Γ X 77 (a0, a1)
noncomputable def slices_IndexFunc_int_int__rank_1_l0 (x0 : (List (List Int))) (x1 : (List Int)) (x7 : Int) (x8 : Int) : Option Int := atF Γ (den Γ X) 77 [1, 0, 1, 0] [(0, ⟨0, 0, 0, .val .reg (.sl (.sl (.int .i64))) (.sh true) x0⟩), (1, ⟨0, 0, 0, .val (.pin (some 135)) (.sl (.int .i64)) (.sh true) x1⟩), (7, ⟨0, 0, 0, .val .reg (.int .i64) (.sh false) x7⟩), (8, ⟨0, 0, 0, .val .reg (.int .i64) (.sh false) x8⟩)]
noncomputable def slices_ContainsFunc_int_int__rank_1 (a0 : (List (List Int))) (a1 : (List Int)) : Option Bool := den Γ X 78 (a0, a1)
noncomputable def impl_rank (a0 : (Int × (List (Int × Int)))) (a1 : (List Int)) : Option (Int × (List Int)) := den Γ X 79 (a0, a1)
noncomputable def impl_rank_l0 (x2 : (Int × (List (Int × Int)))) (x6 : (List (List Int))) (x7 : Int) : Option (Int × (List Int)) := atF Γ (den Γ X) 79 [1, 1, 1, 0] [(2, ⟨0, 0, 0, .val .box (.cons (.int .i64) (.sl (.cons (.int .i64) (.int .i64)))) (.sh true) x2⟩), (6, ⟨0, 0, 0, .val .reg (.sl (.sl (.int .i64))) (.own (.sh false)) x6⟩), (7, ⟨0, 0, 0, .val .reg (.int .i64) (.sh false) x7⟩)]
noncomputable def impl_rank_l2 (x2 : (Int × (List (Int × Int)))) (x6 : (List (List Int))) (x7 : Int) (x18 : (List (List Int))) (x19 : Int) (x20 : Int) : Option (Int × (List Int)) := atF Γ (den Γ X) 79 [1, 1, 1, 0, 0, 0, 0, 1, 0] [(2, ⟨0, 0, 0, .val .box (.cons (.int .i64) (.sl (.cons (.int .i64) (.int .i64)))) (.sh true) x2⟩), (6, ⟨0, 0, 0, .val .reg (.sl (.sl (.int .i64))) (.own (.sh false)) x6⟩), (7, ⟨0, 0, 0, .val .reg (.int .i64) (.sh false) x7⟩), (18, ⟨0, 0, 0, .val .reg (.sl (.sl (.int .i64))) (.own (.sh false)) x18⟩), (19, ⟨0, 0, 0, .val .reg (.int .i64) (.sh false) x19⟩), (20, ⟨0, 0, 0, .val .reg (.int .i64) (.sh false) x20⟩)]
noncomputable def impl_RankOf (a0 : (Int × (List (Int × Int)))) (a1 : (List Int)) : Option (Int × Bool) := den Γ X 80 (a0, a1)
noncomputable def spec_RiemannRoch (a0 : (Int × (List (Int × Int)))) (a1 : (List Int)) : Option (Int × (Int × Bool)) := den Γ X 81 (a0, a1)
noncomputable def impl_RiemannRoch (a0 : (Int × (List (Int × Int)))) (a1 : (List Int)) : Option (Int × (Int × Bool)) := den Γ X 82 (a0, a1)
noncomputable def impl_RankFromResidual (a0 : (Int × (List (Int × Int)))) (a1 : (List Int)) : Option (Int × Bool) := den Γ X 83 (a0, a1)
noncomputable def impl_winnable (a0 : (Int × (List (Int × Int)))) (a1 : (List Int)) : Option Bool := den Γ X 84 (a0, a1)
noncomputable def impl_IsSpecial (a0 : (Int × (List (Int × Int)))) (a1 : (List Int)) : Option Bool := den Γ X 85 (a0, a1)
noncomputable def laws_FnEveryText (a0 : ByteArray) (a1 : ByteArray) : Option Bool := den Γ X 86 (a0, a1)
noncomputable def laws_FnEveryText_c9 (x7 : (Int × (List (Int × Int)))) (x8 : Bool) (x11 : (List Int)) (x12 : Bool) : Option Bool := atF Γ (den Γ X) 86 [1, 1, 1, 1, 1, 1, 1, 0, 0] [(7, ⟨0, 0, 0, .val .box (.cons (.int .i64) (.sl (.cons (.int .i64) (.int .i64)))) (.pr (.sh false) (.own (.pr (.sh false) (.sh false)))) x7⟩), (8, ⟨0, 0, 0, .val .reg .bool (.sh false) x8⟩), (11, ⟨0, 0, 0, .val .reg (.sl (.int .i64)) (.own (.sh false)) x11⟩), (12, ⟨0, 0, 0, .val .reg .bool (.sh false) x12⟩)]
noncomputable def laws_FnEveryText_c15 (x15 : Bool) (x17 : Bool) : Option Bool := atF Γ (den Γ X) 86 [1, 1, 1, 1, 1, 1, 1, 1, 1, 1, 1, 0, 1, 0, 0] [(15, ⟨0, 0, 0, .val .reg .bool (.sh false) x15⟩), (17, ⟨0, 0, 0, .val .reg .bool (.sh false) x17⟩)]
noncomputable def laws_FnEveryText_c16 (x7 : (Int × (List (Int × Int)))) (x11 : (List Int)) (x13 : (List Int)) (x16 : (List Int)) : Option Bool := atF Γ (den Γ X) 86 [1, 1, 1, 1, 1, 1, 1, 1, 1, 1, 1, 1, 0, 0] [(7, ⟨0, 0, 0, .val .box (.cons (.int .i64) (.sl (.cons (.int .i64) (.int .i64)))) (.pr (.sh false) (.own (.pr (.sh false) (.sh false)))) x7⟩), (11, ⟨0, 0, 0, .val .reg (.sl (.int .i64)) (.own (.sh false)) x11⟩), (13, ⟨0, 0, 0, .val .reg (.sl (.int .i64)) (.own (.sh false)) x13⟩), (16, ⟨0, 0, 0, .val .reg (.sl (.int .i64)) (.own (.sh false)) x16⟩)]
noncomputable def laws_FnEveryText_c21 (x7 : (Int × (List (Int × Int)))) (x11 : (List Int)) (x19 : Bool) : Option Bool := atF Γ (den Γ X) 86 [1, 1, 1, 1, 1, 1, 1, 1, 1, 1, 1, 1, 1, 1, 1, 0] [(7, ⟨0, 0, 0, .val .box (.cons (.int .i64) (.sl (.cons (.int .i64) (.int .i64)))) (.pr (.sh false) (.own (.pr (.sh false) (.sh false)))) x7⟩), (11, ⟨0, 0, 0, .val .reg (.sl (.int .i64)) (.own (.sh false)) x11⟩), (19, ⟨0, 0, 0, .val .reg .bool (.sh false) x19⟩)]
noncomputable def laws_FnEveryText_c25 (x19 : Bool) (x21 : Bool) (x24 : Bool) (x27 : Bool) : Option Bool := atF Γ (den Γ X) 86 [1, 1, 1, 1, 1, 1, 1, 1, 1, 1, 1, 1, 1, 1, 1, 1, 1, 1, 0, 1, 0, 0] [(19, ⟨0, 0, 0, .val .reg .bool (.sh false) x19⟩), (21, ⟨0, 0, 0, .val .reg .bool (.sh false) x21⟩), (24, ⟨0, 0, 0, .val .reg .bool (.sh false) x24⟩), (27, ⟨0, 0, 0, .val .reg .bool (.sh false) x27⟩)]
noncomputable def laws_FnEveryText_c26 (x7 : (Int × (List (Int × Int)))) (x11 : (List Int)) (x20 : Int) (x25 : Int) (x26 : Int) : Option Bool := atF Γ (den Γ X) 86 [1, 1, 1, 1, 1, 1, 1, 1, 1, 1, 1, 1, 1, 1, 1, 1, 1, 1, 1, 0] [(7, ⟨0, 0, 0, .val .box (.cons (.int .i64) (.sl (.cons (.int .i64) (.int .i64)))) (.pr (.sh false) (.own (.pr (.sh false) (.sh false)))) x7⟩), (11, ⟨0, 0, 0, .val .reg (.sl (.int .i64)) (.own (.sh false)) x11⟩), (20, ⟨0, 0, 0, .val .reg (.int .i64) (.sh false) x20⟩), (25, ⟨0, 0, 0, .val .reg (.int .i64) (.sh false) x25⟩), (26, ⟨0, 0, 0, .val .reg (.int .i64) (.sh false) x26⟩)]
end Go.Proofs.YtfpccehboifkbaaGreatDoor.D

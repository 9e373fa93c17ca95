/-
  What the evaluator is told of this program: its types, the functions that the laws reach; each function as a plain Lean function.
-/
import Derived.Test.YthmddgkpebneoaaGreatDoorProg
import Derived.Test.YthmddgkpebneoaaGreatDoorLb
import Derived.KernelRfl
namespace Go.Proofs.YthmddgkpebneoaaGreatDoor.D
open Go Go.Den
set_option linter.unusedVariables false
set_option maxRecDepth 100000
def tys : List (Option TInfo) := [
  none,
  none,
  some ⟨(.int .i64), [], false⟩,
  some ⟨(.int .i64), [], false⟩,
  some ⟨.bool, [], false⟩,
  some ⟨(.int .u8), [], false⟩,
  some ⟨(.int .u8), [], false⟩,
  some ⟨(.cons (.int .i64) (.cons (.int .i64) (.cons .bool (.int .u8)))), [([.l], (.int .i64)), ([.r, .l], (.int .i64)), ([.r, .r, .l], .bool), ([.r, .r, .r], (.int .u8))], true⟩,
  some ⟨(.cons (.int .i64) (.cons (.int .i64) (.cons .bool (.int .u8)))), [([.l], (.int .i64)), ([.r, .l], (.int .i64)), ([.r, .r, .l], .bool), ([.r, .r, .r], (.int .u8))], true⟩,
  some ⟨.str, [], false⟩,
  some ⟨.str, [], false⟩,
  some ⟨.str, [], false⟩,
  some ⟨(.int .u64), [], false⟩,
  some ⟨(.cons .str (.int .u64)), [([.l], .str), ([.r], (.int .u64))], false⟩,
  some ⟨(.cons .str (.int .u64)), [([.l], .str), ([.r], (.int .u64))], false⟩,
  none,
  none,
  none,
  none,
  none,
  none,
  some ⟨(.int .i32), [], false⟩,
  some ⟨(.sl (.int .u8)), [], false⟩,
  some ⟨(.sl (.cons (.int .i64) (.int .i64))), [], false⟩,
  some ⟨(.cons (.int .i64) (.sl (.cons (.int .i64) (.int .i64)))), [([.l], (.int .i64)), ([.r], (.sl (.cons (.int .i64) (.int .i64))))], false⟩,
  some ⟨(.cons (.int .i64) (.sl (.cons (.int .i64) (.int .i64)))), [([.l], (.int .i64)), ([.r], (.sl (.cons (.int .i64) (.int .i64))))], false⟩,
  some ⟨(.sl (.int .i64)), [], false⟩,
  some ⟨(.cons (.sl (.int .i64)) (.sl (.int .i64))), [([.l], (.sl (.int .i64))), ([.r], (.sl (.int .i64)))], false⟩,
  some ⟨(.cons (.sl (.int .i64)) (.sl (.int .i64))), [([.l], (.sl (.int .i64))), ([.r], (.sl (.int .i64)))], false⟩,
  none,
  none,
  none,
  none,
  none,
  none,
  none,
  none,
  none,
  none,
  none,
  none,
  none,
  none,
  none,
  none,
  none,
  none,
  none,
  some ⟨(.sl (.sl (.int .i64))), [], false⟩,
  none,
  none,
  none,
  none,
  none,
  none,
  none,
  none,
  none,
  none,
  none,
  none,
  none,
  none,
  some ⟨(.sl .str), [], false⟩,
  none,
  none,
  none,
  none,
  none,
  none,
  some ⟨(.cons (.int .i64) (.int .i64)), [([.l], (.int .i64)), ([.r], (.int .i64))], true⟩,
  some ⟨(.cons (.int .i64) (.int .i64)), [([.l], (.int .i64)), ([.r], (.int .i64))], true⟩,
  none,
  none,
  none,
  none,
  none,
  none,
  none,
  none,
  none,
  none,
  none,
  none,
  none,
  none,
  none,
  none,
  none,
  none,
  some ⟨(.cons (.sl (.int .u8)) (.cons (.int .i64) (.int .i64))), [([.l], (.sl (.int .u8))), ([.r, .l], (.int .i64)), ([.r, .r], (.int .i64))], false⟩,
  some ⟨(.cons (.sl (.int .u8)) (.cons (.int .i64) (.int .i64))), [([.l], (.sl (.int .u8))), ([.r, .l], (.int .i64)), ([.r, .r], (.int .i64))], false⟩,
  none,
  none,
  none,
  none,
  none,
  none,
  none,
  none,
  none,
  none,
  none,
  none,
  none,
  none,
  some ⟨(.int .u64), [], false⟩,
  none,
  none,
  none,
  none,
  none,
  none,
  none,
  none,
  none,
  none,
  none,
  none,
  none,
  none,
  none,
  none,
  none,
  none,
  none,
  none,
  none,
  none,
  none,
  none,
  none,
  none,
  some ⟨(.int .i64), [], false⟩,
  none,
  none,
  none,
  none,
  none,
  none,
  none,
  none,
  none,
  none,
  none,
  some ⟨(.int .i64), [], false⟩,
  none,
  none,
  none,
  none,
  none,
  none,
  some ⟨(.int .u32), [], false⟩,
  none,
  some ⟨(.int .u64), [], false⟩,
  none,
  none,
  none,
  none,
  none,
  none,
  none,
  none,
  none,
  none,
  none,
  none,
  none,
  none,
  none,
  none,
  none,
  none,
  none,
  none,
  some ⟨(.int .u64), [], false⟩,
  none,
  none,
  none,
  none,
  none,
  none,
  none,
  none,
  some ⟨(.one .str), [([.l], .str)], false⟩,
  some ⟨(.one .str), [([.l], .str)], false⟩,
  none,
  none,
  none,
  none,
  none,
  none,
  none,
  none,
  none,
  none,
  none,
  none,
  none,
  none,
  some ⟨(.int .u8), [], false⟩,
  some ⟨(.int .u8), [], false⟩,
  none,
  some ⟨(.int .i32), [], false⟩,
  some ⟨(.int .i32), [], false⟩,
  none,
  none]
noncomputable def s0 : Sig := ⟨24, Go.Proofs.Tryz.f24, [.val (.sl (.int .u8))], [.ptr (.cons (.sl (.int .u8)) (.cons (.int .i64) (.int .i64))) (.pr (.sh true) (.pr (.sh false) (.sh false)))], true, [(0, [(0, .val .reg (.sl (.int .u8)) (.sh true)), (3, .val .reg (.int .i64) (.sh false)), (4, .val .reg (.int .i64) (.sh false))])], [], false⟩
noncomputable def s1 : Sig := ⟨44, Go.Proofs.Tryz.f44, [.pio (.cons (.sl (.int .u8)) (.cons (.int .i64) (.int .i64))) (.pr (.sh true) (.pr (.sh false) (.sh false)))], [.val (.int .i64) (.sh false)], true, [(100005, [(0, .val .box (.cons (.sl (.int .u8)) (.cons (.int .i64) (.int .i64))) (.pr (.sh true) (.pr (.sh false) (.sh false)))), (3, .val .reg (.int .i64) (.sh false))])], [], false⟩
noncomputable def s2 : Sig := ⟨53, Go.Proofs.Tryz.f53, [.pio (.cons (.sl (.int .u8)) (.cons (.int .i64) (.int .i64))) (.pr (.sh true) (.pr (.sh false) (.sh false))), .val (.int .i64)], [.val (.int .i64) (.sh false)], true, [], [], false⟩
noncomputable def s3 : Sig := ⟨95, Go.Proofs.Tryz.f95, [.val (.cons (.int .i64) (.sl (.cons (.int .i64) (.int .i64)))), .val (.int .i64)], [.val .bool (.sh false)], false, [], [], false⟩
noncomputable def s4 : Sig := ⟨69, Go.Proofs.Tryz.f69, [.val (.cons (.int .i64) (.sl (.cons (.int .i64) (.int .i64)))), .val (.int .i64), .val (.int .i64)], [.val (.int .i64) (.sh false)], false, [(0, [(1, .val .reg (.int .i64) (.sh false)), (2, .val .reg (.int .i64) (.sh false)), (7, .val .reg (.int .i64) (.sh false)), (26, .val .reg (.sl (.cons (.int .i64) (.int .i64))) (.sh true)), (27, .val .reg (.int .i64) (.sh false)), (28, .val .reg (.int .i64) (.sh false))])], [], false⟩
noncomputable def s5 : Sig := ⟨81, Go.Proofs.Tryz.f81, [.val (.int .i64), .val (.int .i64), .val (.int .i64)], [.val .bool (.sh false)], false, [], [], false⟩
noncomputable def s6 : Sig := ⟨83, Go.Proofs.Tryz.f83, [.val (.cons (.int .i64) (.sl (.cons (.int .i64) (.int .i64))))], [.val .bool (.sh false)], false, [(0, [(1, .val .box (.cons (.int .i64) (.sl (.cons (.int .i64) (.int .i64)))) (.sh true)), (16, .val .reg (.sl (.cons (.int .i64) (.int .i64))) (.sh true)), (17, .val .reg (.int .i64) (.sh false)), (18, .val .reg (.int .i64) (.sh false))])], [], false⟩
noncomputable def s7 : Sig := ⟨102, Go.Proofs.Tryz.f102, [.val (.sl (.int .i64)), .val (.int .i64)], [.val .bool (.sh false)], false, [(0, [(1, .val .reg (.int .i64) (.sh false)), (7, .val .reg (.sl (.int .i64)) (.sh true)), (8, .val .reg (.int .i64) (.sh false)), (9, .val .reg (.int .i64) (.sh false))])], [], false⟩
noncomputable def s8 : Sig := ⟨84, Go.Proofs.Tryz.f84, [.val (.cons (.int .i64) (.sl (.cons (.int .i64) (.int .i64))))], [.val (.sl (.int .i64)) (.own (.sh false))], false, [(0, [(1, .val .box (.cons (.int .i64) (.sl (.cons (.int .i64) (.int .i64)))) (.sh true)), (3, .val .reg (.sl (.int .i64)) (.own (.sh false))), (4, .val .reg (.int .i64) (.sh false))]), (2, [(1, .val .box (.cons (.int .i64) (.sl (.cons (.int .i64) (.int .i64)))) (.sh true)), (3, .val .reg (.sl (.int .i64)) (.own (.sh false))), (4, .val .reg (.int .i64) (.sh false)), (15, .val .reg (.sl (.cons (.int .i64) (.int .i64))) (.sh true)), (16, .val .reg (.int .i64) (.sh false)), (17, .val .reg (.int .i64) (.sh false))]), (100011, [(1, .val .box (.cons (.int .i64) (.sl (.cons (.int .i64) (.int .i64)))) (.sh true)), (3, .val .reg (.sl (.int .i64)) (.own (.sh false))), (4, .val .reg (.int .i64) (.sh false)), (6, .val .box (.cons (.int .i64) (.int .i64)) (.pr (.sh false) (.sh false))), (15, .val .reg (.sl (.cons (.int .i64) (.int .i64))) (.sh true)), (16, .val .reg (.int .i64) (.sh false)), (17, .val .reg (.int .i64) (.sh false))]), (100012, [(1, .val .box (.cons (.int .i64) (.sl (.cons (.int .i64) (.int .i64)))) (.sh true)), (3, .val .reg (.sl (.int .i64)) (.own (.sh false))), (4, .val .reg (.int .i64) (.sh false)), (15, .val .reg (.sl (.cons (.int .i64) (.int .i64))) (.sh true)), (16, .val .reg (.int .i64) (.sh false)), (17, .val .reg (.int .i64) (.sh false))])], [], false⟩
noncomputable def s9 : Sig := ⟨58, Go.Proofs.Tryz.f58, [.val (.cons (.int .i64) (.sl (.cons (.int .i64) (.int .i64))))], [.val .bool (.sh false)], false, [(0, [(1, .val .box (.cons (.int .i64) (.sl (.cons (.int .i64) (.int .i64)))) (.sh true)), (9, .val .reg (.sl (.cons (.int .i64) (.int .i64))) (.sh true)), (10, .val .reg (.int .i64) (.sh false)), (11, .val .reg (.int .i64) (.sh false))]), (100008, [(1, .val .box (.cons (.int .i64) (.sl (.cons (.int .i64) (.int .i64)))) (.sh true)), (9, .val .reg (.sl (.cons (.int .i64) (.int .i64))) (.sh true)), (10, .val .reg (.int .i64) (.sh false)), (11, .val .reg (.int .i64) (.sh false))])], [], false⟩
noncomputable def s10 : Sig := ⟨70, Go.Proofs.Tryz.f70, [.val (.cons (.int .i64) (.sl (.cons (.int .i64) (.int .i64)))), .val (.int .i64), .val (.int .i64)], [.val (.cons (.int .i64) (.sl (.cons (.int .i64) (.int .i64)))) (.pr (.sh false) (.own (.pr (.sh false) (.sh false)))), .val .bool (.sh false)], false, [(0, [(6, .val .box (.cons (.int .i64) (.sl (.cons (.int .i64) (.int .i64)))) (.pr (.sh false) (.own (.pr (.sh false) (.sh false))))), (8, .val .box (.cons (.int .i64) (.int .i64)) (.pr (.sh false) (.sh false))), (9, .val .box (.cons (.int .i64) (.sl (.cons (.int .i64) (.int .i64)))) (.pr (.sh false) (.own (.pr (.sh false) (.sh false))))), (10, .val .reg .bool (.sh false)), (55, .val .reg (.sl (.cons (.int .i64) (.int .i64))) (.sh true)), (56, .val .reg (.int .i64) (.sh false)), (57, .val .reg (.int .i64) (.sh false))]), (100004, [(3, .val .box (.cons (.int .i64) (.sl (.cons (.int .i64) (.int .i64)))) (.sh true)), (6, .val .box (.cons (.int .i64) (.sl (.cons (.int .i64) (.int .i64)))) (.pr (.sh false) (.own (.pr (.sh false) (.sh false))))), (8, .val .box (.cons (.int .i64) (.int .i64)) (.pr (.sh false) (.sh false)))]), (100013, [(6, .val .box (.cons (.int .i64) (.sl (.cons (.int .i64) (.int .i64)))) (.pr (.sh false) (.own (.pr (.sh false) (.sh false))))), (8, .val .box (.cons (.int .i64) (.int .i64)) (.pr (.sh false) (.sh false))), (9, .val .box (.cons (.int .i64) (.sl (.cons (.int .i64) (.int .i64)))) (.pr (.sh false) (.own (.sh false)))), (10, .val .reg .bool (.sh false)), (55, .val .reg (.sl (.cons (.int .i64) (.int .i64))) (.sh true)), (56, .val .reg (.int .i64) (.sh false)), (57, .val .reg (.int .i64) (.sh false))])], [], false⟩
noncomputable def s11 : Sig := ⟨43, Go.Proofs.Tryz.f43, [.pio (.cons (.sl (.int .u8)) (.cons (.int .i64) (.int .i64))) (.pr (.sh true) (.pr (.sh false) (.sh false))), .val (.int .i64)], [.val (.cons (.int .i64) (.sl (.cons (.int .i64) (.int .i64)))) (.pr (.sh false) (.own (.pr (.sh false) (.sh false))))], true, [(0, [(0, .val .box (.cons (.sl (.int .u8)) (.cons (.int .i64) (.int .i64))) (.pr (.sh true) (.pr (.sh false) (.sh false)))), (4, .val .box (.cons (.int .i64) (.sl (.cons (.int .i64) (.int .i64)))) (.pr (.sh false) (.own (.pr (.sh false) (.sh false))))), (5, .val .box (.cons (.int .i64) (.sl (.cons (.int .i64) (.int .i64)))) (.pr (.sh false) (.own (.pr (.sh false) (.sh false))))), (6, .val .reg (.int .i64) (.sh false)), (7, .val .reg (.int .i64) (.sh false))]), (2, [(0, .val .box (.cons (.sl (.int .u8)) (.cons (.int .i64) (.int .i64))) (.pr (.sh true) (.pr (.sh false) (.sh false)))), (4, .val .box (.cons (.int .i64) (.sl (.cons (.int .i64) (.int .i64)))) (.pr (.sh false) (.own (.pr (.sh false) (.sh false))))), (5, .val .box (.cons (.int .i64) (.sl (.cons (.int .i64) (.int .i64)))) (.pr (.sh false) (.own (.pr (.sh false) (.sh false))))), (6, .val .reg (.int .i64) (.sh false)), (9, .val .box (.cons (.int .i64) (.sl (.cons (.int .i64) (.int .i64)))) (.pr (.sh false) (.own (.pr (.sh false) (.sh false))))), (10, .val .reg (.int .i64) (.sh false))]), (4, [(0, .val .box (.cons (.sl (.int .u8)) (.cons (.int .i64) (.int .i64))) (.pr (.sh true) (.pr (.sh false) (.sh false)))), (4, .val .box (.cons (.int .i64) (.sl (.cons (.int .i64) (.int .i64)))) (.pr (.sh false) (.own (.pr (.sh false) (.sh false))))), (5, .val .box (.cons (.int .i64) (.sl (.cons (.int .i64) (.int .i64)))) (.pr (.sh false) (.own (.pr (.sh false) (.sh false))))), (6, .val .reg (.int .i64) (.sh false)), (9, .val .box (.cons (.int .i64) (.sl (.cons (.int .i64) (.int .i64)))) (.pr (.sh false) (.own (.pr (.sh false) (.sh false))))), (10, .val .reg (.int .i64) (.sh false)), (11, .val .reg (.int .i64) (.sh false))]), (6, [(0, .val .box (.cons (.sl (.int .u8)) (.cons (.int .i64) (.int .i64))) (.pr (.sh true) (.pr (.sh false) (.sh false)))), (4, .val .box (.cons (.int .i64) (.sl (.cons (.int .i64) (.int .i64)))) (.pr (.sh false) (.own (.pr (.sh false) (.sh false))))), (5, .val .box (.cons (.int .i64) (.sl (.cons (.int .i64) (.int .i64)))) (.pr (.sh false) (.own (.pr (.sh false) (.sh false))))), (6, .val .reg (.int .i64) (.sh false)), (9, .val .box (.cons (.int .i64) (.sl (.cons (.int .i64) (.int .i64)))) (.pr (.sh false) (.own (.pr (.sh false) (.sh false))))), (10, .val .reg (.int .i64) (.sh false)), (11, .val .reg (.int .i64) (.sh false)), (12, .val .reg (.int .i64) (.sh false))]), (8, [(0, .val .box (.cons (.sl (.int .u8)) (.cons (.int .i64) (.int .i64))) (.pr (.sh true) (.pr (.sh false) (.sh false)))), (4, .val .box (.cons (.int .i64) (.sl (.cons (.int .i64) (.int .i64)))) (.pr (.sh false) (.own (.pr (.sh false) (.sh false))))), (6, .val .reg (.int .i64) (.sh false)), (9, .val .box (.cons (.int .i64) (.sl (.cons (.int .i64) (.int .i64)))) (.pr (.sh false) (.own (.pr (.sh false) (.sh false))))), (13, .val .reg (.int .i64) (.sh false))])], [], false⟩
noncomputable def s12 : Sig := ⟨27, Go.Proofs.Tryz.f27, [.pio (.cons (.sl (.int .u8)) (.cons (.int .i64) (.int .i64))) (.pr (.sh true) (.pr (.sh false) (.sh false)))], [.val (.cons (.int .i64) (.sl (.cons (.int .i64) (.int .i64)))) (.pr (.sh false) (.own (.pr (.sh false) (.sh false))))], true, [], [], false⟩
noncomputable def s13 : Sig := ⟨59, Go.Proofs.Tryz.f59, [.val (.int .i64)], [.val (.sl (.int .i64)) (.own (.sh false))], false, [(0, [(0, .val .reg (.int .i64) (.sh false)), (3, .val .reg (.sl (.int .i64)) (.own (.sh false))), (4, .val .reg (.int .i64) (.sh false))])], [], false⟩
noncomputable def s14 : Sig := ⟨28, Go.Proofs.Tryz.f28, [.val (.cons (.int .i64) (.sl (.cons (.int .i64) (.int .i64))))], [.val (.cons (.sl (.int .i64)) (.sl (.int .i64))) (.pr (.own (.sh false)) (.own (.sh false))), .val .bool (.sh false)], false, [], [], false⟩
noncomputable def s15 : Sig := ⟨60, Go.Proofs.Tryz.f60, [.pio (.cons (.sl (.int .u8)) (.cons (.int .i64) (.int .i64))) (.pr (.sh true) (.pr (.sh false) (.sh false))), .val (.sl (.int .i64))], [.val (.int .i64) (.sh false)], true, [], [], false⟩
noncomputable def s16 : Sig := ⟨54, Go.Proofs.Tryz.f54, [.pio (.cons (.sl (.int .u8)) (.cons (.int .i64) (.int .i64))) (.pr (.sh true) (.pr (.sh false) (.sh false))), .val (.int .i64), .val (.int .i64)], [.val (.int .i64) (.sh false)], true, [], [], false⟩
noncomputable def s17 : Sig := ⟨55, Go.Proofs.Tryz.f55, [.pio (.cons (.sl (.int .u8)) (.cons (.int .i64) (.int .i64))) (.pr (.sh true) (.pr (.sh false) (.sh false)))], [.val (.cons (.int .i64) (.sl (.cons (.int .i64) (.int .i64)))) (.pr (.sh false) (.sh false))], true, [], [], false⟩
noncomputable def s18 : Sig := ⟨25, Go.Proofs.Tryz.f25, [.pio (.cons (.sl (.int .u8)) (.cons (.int .i64) (.int .i64))) (.pr (.sh true) (.pr (.sh false) (.sh false)))], [.val (.cons (.int .i64) (.sl (.cons (.int .i64) (.int .i64)))) (.pr (.sh false) (.sh false)), .val (.cons (.int .i64) (.sl (.cons (.int .i64) (.int .i64)))) (.pr (.sh false) (.sh false)), .val (.cons (.sl (.int .i64)) (.sl (.int .i64))) (.pr (.own (.sh false)) (.own (.sh false)))], true, [(1, [(0, .val .box (.cons (.sl (.int .u8)) (.cons (.int .i64) (.int .i64))) (.pr (.sh true) (.pr (.sh false) (.sh false)))), (2, .val .box (.cons (.int .i64) (.sl (.cons (.int .i64) (.int .i64)))) (.pr (.sh false) (.own (.pr (.sh false) (.sh false))))), (3, .val .box (.cons (.int .i64) (.sl (.cons (.int .i64) (.int .i64)))) (.pr (.sh false) (.own (.pr (.sh false) (.sh false))))), (4, .val .box (.cons (.sl (.int .i64)) (.sl (.int .i64))) (.pr (.own (.sh false)) (.own (.sh false)))), (5, .val .box (.cons (.int .i64) (.sl (.cons (.int .i64) (.int .i64)))) (.pr (.sh false) (.own (.pr (.sh false) (.sh false))))), (6, .val .box (.cons (.int .i64) (.sl (.cons (.int .i64) (.int .i64)))) (.pr (.sh false) (.own (.sh false)))), (7, .val .box (.cons (.sl (.int .i64)) (.sl (.int .i64))) (.pr (.own (.sh false)) (.own (.sh false)))), (9, .val .reg (.int .i64) (.sh false)), (10, .val .reg (.int .i64) (.sh false))]), (100020, [(0, .val .box (.cons (.sl (.int .u8)) (.cons (.int .i64) (.int .i64))) (.pr (.sh true) (.pr (.sh false) (.sh false)))), (2, .val .box (.cons (.int .i64) (.sl (.cons (.int .i64) (.int .i64)))) (.pr (.sh false) (.own (.pr (.sh false) (.sh false))))), (3, .val .box (.cons (.int .i64) (.sl (.cons (.int .i64) (.int .i64)))) (.pr (.sh false) (.own (.pr (.sh false) (.sh false))))), (4, .val .box (.cons (.sl (.int .i64)) (.sl (.int .i64))) (.pr (.own (.sh false)) (.own (.sh false)))), (5, .val .box (.cons (.int .i64) (.sl (.cons (.int .i64) (.int .i64)))) (.pr (.sh false) (.sh false))), (6, .val .box (.cons (.int .i64) (.sl (.cons (.int .i64) (.int .i64)))) (.pr (.sh false) (.sh false))), (7, .val .box (.cons (.sl (.int .i64)) (.sl (.int .i64))) (.pr (.own (.sh false)) (.own (.sh false)))), (64, .val .reg (.int .i64) (.sh false))])], [(2, 2, 1)], false⟩
noncomputable def s19 : Sig := ⟨56, Go.Proofs.Tryz.f56, [.val (.cons (.int .i64) (.sl (.cons (.int .i64) (.int .i64)))), .val (.cons (.int .i64) (.sl (.cons (.int .i64) (.int .i64)))), .val (.cons (.sl (.int .i64)) (.sl (.int .i64)))], [.val .bool (.sh false)], false, [(0, [(3, .val .box (.cons (.int .i64) (.sl (.cons (.int .i64) (.int .i64)))) (.sh true)), (4, .val .box (.cons (.int .i64) (.sl (.cons (.int .i64) (.int .i64)))) (.sh true)), (5, .val .box (.cons (.sl (.int .i64)) (.sl (.int .i64))) (.sh true)), (40, .val .reg (.sl (.int .i64)) (.sh true)), (41, .val .reg (.int .i64) (.sh false)), (42, .val .reg (.int .i64) (.sh false))]), (2, [(4, .val .box (.cons (.int .i64) (.sl (.cons (.int .i64) (.int .i64)))) (.sh true)), (5, .val .box (.cons (.sl (.int .i64)) (.sl (.int .i64))) (.sh true)), (54, .val .reg (.sl (.cons (.int .i64) (.int .i64))) (.sh true)), (55, .val .reg (.int .i64) (.sh false)), (56, .val .reg (.int .i64) (.sh false))]), (100020, [(4, .val .box (.cons (.int .i64) (.sl (.cons (.int .i64) (.int .i64)))) (.sh true)), (5, .val .box (.cons (.sl (.int .i64)) (.sl (.int .i64))) (.sh true)), (54, .val .reg (.sl (.cons (.int .i64) (.int .i64))) (.sh true)), (55, .val .reg (.int .i64) (.sh false)), (56, .val .reg (.int .i64) (.sh false))])], [], false⟩
noncomputable def s20 : Sig := ⟨82, Go.Proofs.Tryz.f82, [.val (.cons (.int .i64) (.sl (.cons (.int .i64) (.int .i64)))), .val (.cons (.sl (.int .i64)) (.sl (.int .i64))), .val (.int .i64), .val (.int .i64)], [.val (.int .i64) (.sh false)], false, [(0, [(2, .val .reg (.int .i64) (.sh false)), (3, .val .reg (.int .i64) (.sh false)), (5, .val .box (.cons (.sl (.int .i64)) (.sl (.int .i64))) (.sh true)), (9, .val .reg (.int .i64) (.sh false)), (13, .val .reg (.sl (.cons (.int .i64) (.int .i64))) (.sh true)), (14, .val .reg (.int .i64) (.sh false)), (15, .val .reg (.int .i64) (.sh false))])], [], false⟩
noncomputable def s21 : Sig := ⟨57, Go.Proofs.Tryz.f57, [.val (.cons (.int .i64) (.sl (.cons (.int .i64) (.int .i64)))), .val (.cons (.int .i64) (.sl (.cons (.int .i64) (.int .i64)))), .val (.cons (.sl (.int .i64)) (.sl (.int .i64))), .val (.int .i64)], [.val (.int .i64) (.sh false)], false, [(0, [(3, .val .reg (.int .i64) (.sh false)), (4, .val .box (.cons (.int .i64) (.sl (.cons (.int .i64) (.int .i64)))) (.sh true)), (6, .val .box (.cons (.sl (.int .i64)) (.sl (.int .i64))) (.sh true)), (9, .val .reg (.int .i64) (.sh false)), (10, .val .reg .bool (.sh false)), (15, .val .reg (.sl (.cons (.int .i64) (.int .i64))) (.sh true)), (16, .val .reg (.int .i64) (.sh false)), (17, .val .reg (.int .i64) (.sh false))]), (100012, [(3, .val .reg (.int .i64) (.sh false)), (4, .val .box (.cons (.int .i64) (.sl (.cons (.int .i64) (.int .i64)))) (.sh true)), (6, .val .box (.cons (.sl (.int .i64)) (.sl (.int .i64))) (.sh true)), (9, .val .reg (.int .i64) (.sh false)), (10, .val .reg .bool (.sh false)), (15, .val .reg (.sl (.cons (.int .i64) (.int .i64))) (.sh true)), (16, .val .reg (.int .i64) (.sh false)), (17, .val .reg (.int .i64) (.sh false))])], [], false⟩
noncomputable def s22 : Sig := ⟨26, Go.Proofs.Tryz.f26, [.val (.cons (.int .i64) (.sl (.cons (.int .i64) (.int .i64)))), .val (.cons (.int .i64) (.sl (.cons (.int .i64) (.int .i64)))), .val (.cons (.sl (.int .i64)) (.sl (.int .i64)))], [.val .bool (.sh false)], false, [(0, [(3, .val .box (.cons (.int .i64) (.sl (.cons (.int .i64) (.int .i64)))) (.sh true)), (4, .val .box (.cons (.int .i64) (.sl (.cons (.int .i64) (.int .i64)))) (.sh true)), (5, .val .box (.cons (.sl (.int .i64)) (.sl (.int .i64))) (.sh true)), (7, .val .reg (.int .i64) (.sh false))])], [], false⟩
noncomputable def s23 : Sig := ⟨5, Go.Proofs.Tryz.f5, [.val (.sl (.int .u8))], [.val (.cons (.int .i64) (.sl (.cons (.int .i64) (.int .i64)))) (.pr (.sh false) (.sh false)), .val (.cons (.int .i64) (.sl (.cons (.int .i64) (.int .i64)))) (.pr (.sh false) (.sh false)), .val (.cons (.sl (.int .i64)) (.sl (.int .i64))) (.pr (.own (.sh false)) (.own (.sh false)))], false, [(0, [(2, .val .box (.cons (.int .i64) (.sl (.cons (.int .i64) (.int .i64)))) (.pr (.sh false) (.own (.pr (.sh false) (.sh false))))), (3, .val .box (.cons (.int .i64) (.sl (.cons (.int .i64) (.int .i64)))) (.pr (.sh false) (.own (.pr (.sh false) (.sh false))))), (4, .val .box (.cons (.sl (.int .i64)) (.sl (.int .i64))) (.pr (.own (.sh false)) (.own (.sh false)))), (5, .ref .plc 14 [] (.cons (.sl (.int .u8)) (.cons (.int .i64) (.int .i64)))), (6, .val .reg (.int .i64) (.sh false)), (14, .val .box (.cons (.sl (.int .u8)) (.cons (.int .i64) (.int .i64))) (.pr (.sh true) (.pr (.sh false) (.sh false))))])], [(8, 3, 1)], false⟩
noncomputable def s24 : Sig := ⟨30, Go.Proofs.Tryz.f30, [.val (.sl (.int .u8)), .val (.int .i64)], [.ptr (.cons (.sl (.int .u8)) (.cons (.int .i64) (.int .i64))) (.pr (.sh true) (.pr (.sh false) (.sh false)))], true, [(0, [(1, .val .reg (.int .i64) (.sh false)), (5, .ref .plc 8 [] (.cons (.sl (.int .u8)) (.cons (.int .i64) (.int .i64)))), (6, .val .reg (.int .i64) (.sh false)), (8, .val .box (.cons (.sl (.int .u8)) (.cons (.int .i64) (.int .i64))) (.pr (.sh true) (.pr (.sh false) (.sh false))))])], [], false⟩
noncomputable def s25 : Sig := ⟨29, Go.Proofs.Tryz.f29, [.pio (.cons (.sl (.int .u8)) (.cons (.int .i64) (.int .i64))) (.pr (.sh true) (.pr (.sh false) (.sh false))), .val (.cons (.int .i64) (.sl (.cons (.int .i64) (.int .i64))))], [.val (.sl (.int .i64)) (.own (.sh false))], true, [(0, [(0, .val .box (.cons (.sl (.int .u8)) (.cons (.int .i64) (.int .i64))) (.pr (.sh true) (.pr (.sh false) (.sh false)))), (3, .val .box (.cons (.int .i64) (.sl (.cons (.int .i64) (.int .i64)))) (.sh true)), (5, .val .reg (.sl (.int .i64)) (.own (.sh false))), (6, .val .reg (.int .i64) (.sh false))])], [], false⟩
noncomputable def s26 : Sig := ⟨6, Go.Proofs.Tryz.f6, [.val (.sl (.int .u8)), .val (.int .i64), .val (.cons (.int .i64) (.sl (.cons (.int .i64) (.int .i64))))], [.val (.sl (.int .i64)) (.own (.sh false))], false, [], [], false⟩
noncomputable def s27 : Sig := ⟨67, Go.Proofs.Tryz.f67, [.val (.int .i64), .val (.int .i64), .val (.int .i64)], [.val .bool (.sh false)], false, [], [], false⟩
noncomputable def s28 : Sig := ⟨38, Go.Proofs.Tryz.f38, [.val (.cons (.int .i64) (.sl (.cons (.int .i64) (.int .i64))))], [.val .bool (.sh false)], false, [(0, [(1, .val .box (.cons (.int .i64) (.sl (.cons (.int .i64) (.int .i64)))) (.sh true)), (16, .val .reg (.sl (.cons (.int .i64) (.int .i64))) (.sh true)), (17, .val .reg (.int .i64) (.sh false)), (18, .val .reg (.int .i64) (.sh false))])], [], false⟩
noncomputable def s29 : Sig := ⟨94, Go.Proofs.Tryz.f94, [.val (.int .i64)], [.val .bool (.sh false)], false, [], [], false⟩
noncomputable def s30 : Sig := ⟨68, Go.Proofs.Tryz.f68, [.val (.int .i64), .val (.int .i64)], [.val (.int .i64) (.sh false)], false, [], [], false⟩
noncomputable def s31 : Sig := ⟨40, Go.Proofs.Tryz.f40, [.val (.cons (.int .i64) (.int .i64)), .val (.cons (.int .i64) (.int .i64))], [.val (.int .i64) (.sh false)], false, [], [], false⟩
noncomputable def s32 : Sig := ⟨39, Go.Proofs.Tryz.f39, [.val (.sl (.cons (.int .i64) (.int .i64))), .fn 40 []], [.val .bool (.sh false)], false, [(0, [(0, .val .reg (.sl (.cons (.int .i64) (.int .i64))) (.sh true)), (1, .fn 40 []), (5, .val .reg (.int .i64) (.sh false))])], [], false⟩
noncomputable def s33 : Sig := ⟨41, Go.Proofs.Tryz.f41, [.val (.int .i64), .val (.sl (.cons (.int .i64) (.int .i64)))], [.val .bool (.sh false)], false, [(0, [(0, .val .reg (.int .i64) (.sh false)), (1, .val .reg (.sl (.cons (.int .i64) (.int .i64))) (.sh true)), (5, .val .reg (.int .i64) (.sh false)), (8, .val .reg (.int .i64) (.sh false)), (9, .val .reg (.int .i64) (.sh false))]), (2, [(0, .val .reg (.int .i64) (.sh false)), (1, .val .reg (.sl (.cons (.int .i64) (.int .i64))) (.sh true)), (5, .val .reg (.int .i64) (.sh false)), (8, .val .reg (.int .i64) (.sh false)), (9, .val .reg (.int .i64) (.sh false)), (11, .val .reg (.sl (.cons (.int .i64) (.int .i64))) (.sh true)), (12, .val .reg (.int .i64) (.sh false)), (13, .val .reg (.int .i64) (.sh false))])], [], false⟩
noncomputable def s34 : Sig := ⟨15, Go.Proofs.Tryz.f15, [.val (.cons (.int .i64) (.sl (.cons (.int .i64) (.int .i64))))], [.val .bool (.sh false)], false, [], [], false⟩
noncomputable def s35 : Sig := ⟨65, Go.Proofs.Tryz.f65, [.val (.int .i64)], [.val .str (.sh false)], false, [], [], false⟩
noncomputable def s36 : Sig := ⟨35, Go.Proofs.Tryz.f35, [.val (.int .i64)], [.val .str (.sh false)], false, [], [], false⟩
noncomputable def s37 : Sig := ⟨8, Go.Proofs.Tryz.f8, [.val (.cons (.int .i64) (.sl (.cons (.int .i64) (.int .i64))))], [.val .str (.sh false)], false, [(0, [(3, .val .reg .str (.sh false)), (14, .val .reg (.sl (.cons (.int .i64) (.int .i64))) (.sh true)), (15, .val .reg (.int .i64) (.sh false)), (16, .val .reg (.int .i64) (.sh false))])], [], false⟩
noncomputable def s38 : Sig := ⟨61, Go.Proofs.Tryz.f61, [.val .str, .val (.int .u8)], [.val (.int .i64) (.sh false)], false, [], [], false⟩
noncomputable def s39 : Sig := ⟨31, Go.Proofs.Tryz.f31, [.val .str, .val .str], [.val (.sl .str) (.own (.sh false))], false, [(0, [(0, .val .reg .str (.sh false)), (1, .val .reg .str (.sh false)), (5, .val .reg (.sl .str) (.own (.sh false))), (6, .val .reg (.int .i64) (.sh false)), (7, .val .reg (.int .i64) (.sh false))])], [], false⟩
noncomputable def s40 : Sig := ⟨33, Go.Proofs.Tryz.f33, [.val .str, .val .str], [.val .str (.sh false)], false, [], [], false⟩
noncomputable def s41 : Sig := ⟨32, Go.Proofs.Tryz.f32, [.val .str], [.val (.int .i64) (.sh false), .val .bool (.sh false)], false, [], [], false⟩
noncomputable def s42 : Sig := ⟨34, Go.Proofs.Tryz.f34, [.val .str, .val .str], [.val .str (.sh false), .val .str (.sh false), .val .bool (.sh false)], false, [], [], false⟩
noncomputable def s43 : Sig := ⟨7, Go.Proofs.Tryz.f7, [.val .str], [.val (.cons (.int .i64) (.sl (.cons (.int .i64) (.int .i64)))) (.pr (.sh false) (.own (.pr (.sh false) (.sh false)))), .val .bool (.sh false)], false, [(0, [(0, .val .reg .str (.sh false)), (2, .val .box (.cons (.int .i64) (.sl (.cons (.int .i64) (.int .i64)))) (.pr (.sh false) (.own (.pr (.sh false) (.sh false))))), (7, .val .box (.cons (.int .i64) (.sl (.cons (.int .i64) (.int .i64)))) (.pr (.sh false) (.own (.pr (.sh false) (.sh false))))), (33, .val .reg (.sl .str) (.sh false)), (34, .val .reg (.int .i64) (.sh false)), (35, .val .reg (.int .i64) (.sh false))]), (100015, [(0, .val .reg .str (.sh false)), (2, .val .box (.cons (.int .i64) (.sl (.cons (.int .i64) (.int .i64)))) (.pr (.sh false) (.own (.pr (.sh false) (.sh false))))), (7, .val .box (.cons (.int .i64) (.sl (.cons (.int .i64) (.int .i64)))) (.pr (.sh false) (.own (.sh false)))), (33, .val .reg (.sl .str) (.sh false)), (34, .val .reg (.int .i64) (.sh false)), (35, .val .reg (.int .i64) (.sh false))])], [], false⟩
noncomputable def s44 : Sig := ⟨66, Go.Proofs.Tryz.f66, [.val (.sl .str), .val .str], [.val .str (.sh false)], false, [], [], false⟩
noncomputable def s45 : Sig := ⟨36, Go.Proofs.Tryz.f36, [.val (.sl .str), .val .str], [.val .str (.sh false)], false, [], [], false⟩
noncomputable def s46 : Sig := ⟨10, Go.Proofs.Tryz.f10, [.val (.sl (.int .i64))], [.val .str (.sh false)], false, [(0, [(3, .val .reg (.sl .str) (.own (.sh false))), (9, .val .reg (.sl (.int .i64)) (.sh true)), (10, .val .reg (.int .i64) (.sh false)), (11, .val .reg (.int .i64) (.sh false))])], [], false⟩
noncomputable def s47 : Sig := ⟨9, Go.Proofs.Tryz.f9, [.val .str], [.val (.sl (.int .i64)) (.own (.sh false)), .val .bool (.sh false)], false, [(0, [(4, .val .reg (.sl (.int .i64)) (.own (.sh false))), (12, .val .reg (.sl .str) (.own (.sh false))), (13, .val .reg (.int .i64) (.sh false)), (14, .val .reg (.int .i64) (.sh false))])], [], false⟩
noncomputable def s48 : Sig := ⟨12, Go.Proofs.Tryz.f12, [.val (.cons (.sl (.int .i64)) (.sl (.int .i64)))], [.val .str (.sh false)], false, [], [], false⟩
noncomputable def s49 : Sig := ⟨11, Go.Proofs.Tryz.f11, [.val .str], [.val (.cons (.sl (.int .i64)) (.sl (.int .i64))) (.pr (.own (.sh false)) (.own (.sh false))), .val .bool (.sh false)], false, [(100006, [(2, .val .box (.cons (.sl (.int .i64)) (.sl (.int .i64))) (.pr (.own (.sh false)) (.own (.sh false))))]), (100007, [(2, .val .box (.cons (.sl (.int .i64)) (.sl (.int .i64))) (.pr (.own (.sh false)) (.own (.sh false)))), (11, .val .box (.cons (.sl (.int .i64)) (.sl (.int .i64))) (.pr (.own (.sh false)) (.own (.sh false))))])], [], false⟩
noncomputable def s50 : Sig := ⟨37, Go.Proofs.Tryz.f37, [.val (.sl (.cons (.int .i64) (.int .i64))), .val (.sl (.cons (.int .i64) (.int .i64)))], [.val .bool (.sh false)], false, [(0, [(0, .val .reg (.sl (.cons (.int .i64) (.int .i64))) (.sh true)), (1, .val .reg (.sl (.cons (.int .i64) (.int .i64))) (.sh true)), (12, .val .reg (.int .i64) (.sh false)), (13, .val .reg (.int .i64) (.sh false))])], [], false⟩
noncomputable def s51 : Sig := ⟨13, Go.Proofs.Tryz.f13, [.val (.cons (.int .i64) (.sl (.cons (.int .i64) (.int .i64)))), .val (.cons (.int .i64) (.sl (.cons (.int .i64) (.int .i64))))], [.val .bool (.sh false)], false, [], [], false⟩
noncomputable def s52 : Sig := ⟨14, Go.Proofs.Tryz.f14, [.val (.sl (.int .i64)), .val (.sl (.int .i64))], [.val .bool (.sh false)], false, [(0, [(1, .val .reg (.sl (.int .i64)) (.sh true)), (12, .val .reg (.sl (.int .i64)) (.sh true)), (13, .val .reg (.int .i64) (.sh false)), (14, .val .reg (.int .i64) (.sh false))])], [], false⟩
noncomputable def s53 : Sig := ⟨42, Go.Proofs.Tryz.f42, [.val (.sl (.int .i64)), .val (.int .i64), .val (.int .i64)], [.val .bool (.sh false)], false, [(0, [(1, .val .reg (.int .i64) (.sh false)), (2, .val .reg (.int .i64) (.sh false)), (9, .val .reg (.sl (.int .i64)) (.sh true)), (10, .val .reg (.int .i64) (.sh false)), (11, .val .reg (.int .i64) (.sh false))])], [], false⟩
noncomputable def s54 : Sig := ⟨16, Go.Proofs.Tryz.f16, [.val (.cons (.int .i64) (.sl (.cons (.int .i64) (.int .i64)))), .val (.sl (.int .i64))], [.val .bool (.sh false)], false, [], [], false⟩
noncomputable def s55 : Sig := ⟨3, Go.Proofs.Tryz.f3, [.val (.sl (.int .u8))], [.val .bool (.sh false)], false, [(100008, [(3, .val .box (.cons (.int .i64) (.sl (.cons (.int .i64) (.int .i64)))) (.pr (.sh false) (.sh false))), (4, .val .box (.cons (.int .i64) (.sl (.cons (.int .i64) (.int .i64)))) (.pr (.sh false) (.sh false))), (5, .val .box (.cons (.sl (.int .i64)) (.sl (.int .i64))) (.pr (.own (.sh false)) (.own (.sh false)))), (6, .val .reg (.sl (.int .i64)) (.own (.sh false))), (7, .val .box (.cons (.int .i64) (.sl (.cons (.int .i64) (.int .i64)))) (.pr (.sh false) (.own (.pr (.sh false) (.sh false))))), (8, .val .reg .bool (.sh false)), (9, .val .reg (.sl (.int .i64)) (.own (.sh false))), (10, .val .reg .bool (.sh false)), (11, .val .box (.cons (.sl (.int .i64)) (.sl (.int .i64))) (.pr (.own (.sh false)) (.own (.sh false)))), (12, .val .reg .bool (.sh false))])], [], false⟩
noncomputable def sigs : List Sig := [s0, s1, s2, s3, s4, s5, s6, s7, s8, s9, s10, s11, s12, s13, s14, s15, s16, s17, s18, s19, s20, s21, s22, s23, s24, s25, s26, s27, s28, s29, s30, s31, s32, s33, s34, s35, s36, s37, s38, s39, s40, s41, s42, s43, s44, s45, s46, s47, s48, s49, s50, s51, s52, s53, s54, s55]
noncomputable def Γ : Ctx := ⟨tys, sigs, []⟩
noncomputable def Xf : Fun Γ := fun n => match n with
  | 35 => fun (a : Int) => (Lb.itoa a : Option ByteArray)
  | 38 => fun (a : (ByteArray × Int)) => (Lb.indexByte a.1 a.2 : Option Int)
  | 40 => fun (a : (ByteArray × ByteArray)) => (Lb.trimSuffix a.1 a.2 : Option ByteArray)
  | 41 => fun (a : ByteArray) => (Lb.pint a : Option (Int × Bool))
  | 42 => fun (a : (ByteArray × ByteArray)) => (Lb.cut a.1 a.2 : Option (ByteArray × (ByteArray × Bool)))
  | 44 => fun (a : ((List ByteArray) × ByteArray)) => (Lb.join a.1 a.2 : Option ByteArray)
  | _ => fun _ => none
noncomputable def X : Ext Γ := ⟨fun n => n == 35 || n == 38 || n == 40 || n == 41 || n == 42 || n == 44, Xf⟩
noncomputable def spec_l01New (a0 : (List Int)) : Option ((List Int) × (Int × Int)) := den Γ X 0 a0
noncomputable def spec_l01New_l0 (x0 : (List Int)) (x3 : Int) (x4 : Int) : Option ((List Int) × (Int × Int)) := atF Γ (den Γ X) 0 [1, 1, 0, 1, 0] [(0, ⟨0, 0, 0, .val .reg (.sl (.int .u8)) (.sh true) x0⟩), (3, ⟨0, 0, 0, .val .reg (.int .i64) (.sh false) x3⟩), (4, ⟨0, 0, 0, .val .reg (.int .i64) (.sh false) x4⟩)]
noncomputable def spec_l01Byte (a0 : ((List Int) × (Int × Int))) : Option (Int × ((List Int) × (Int × Int))) := den Γ X 1 a0
noncomputable def spec_l01Byte_c5 (x0 : ((List Int) × (Int × Int))) (x3 : Int) : Option (Int × ((List Int) × (Int × Int))) := atF Γ (den Γ X) 1 [1, 1, 1, 0, 1, 0, 1] [(0, ⟨0, 0, 0, .val .box (.cons (.sl (.int .u8)) (.cons (.int .i64) (.int .i64))) (.pr (.sh true) (.pr (.sh false) (.sh false))) x0⟩), (3, ⟨0, 0, 0, .val .reg (.int .i64) (.sh false) x3⟩)]
noncomputable def spec_l01Below (a0 : ((List Int) × (Int × Int))) (a1 : Int) : Option (Int × ((List Int) × (Int × Int))) := den Γ X 2 (a0, a1)
noncomputable def spec_l02Vert (a0 : (Int × (List (Int × Int)))) (a1 : Int) : Option Bool := den Γ X 3 (a0, a1)
noncomputable def spec_Multiplicity (a0 : (Int × (List (Int × Int)))) (a1 : Int) (a2 : Int) : Option Int := den Γ X 4 (a0, a1, a2)
noncomputable def spec_Multiplicity_l0 (x1 : Int) (x2 : Int) (x7 : Int) (x26 : (List (Int × Int))) (x27 : Int) (x28 : Int) : Option Int := atF Γ (den Γ X) 4 [1, 1, 1, 0, 1, 0] [(1, ⟨0, 0, 0, .val .reg (.int .i64) (.sh false) x1⟩), (2, ⟨0, 0, 0, .val .reg (.int .i64) (.sh false) x2⟩), (7, ⟨0, 0, 0, .val .reg (.int .i64) (.sh false) x7⟩), (26, ⟨0, 0, 0, .val .reg (.sl (.cons (.int .i64) (.int .i64))) (.sh true) x26⟩), (27, ⟨0, 0, 0, .val .reg (.int .i64) (.sh false) x27⟩), (28, ⟨0, 0, 0, .val .reg (.int .i64) (.sh false) x28⟩)]
noncomputable def spec_l01In (a0 : Int) (a1 : Int) (a2 : Int) : Option Bool := den Γ X 5 (a0, a1, a2)
noncomputable def spec_EdgesOk (a0 : (Int × (List (Int × Int)))) : Option Bool := den Γ X 6 a0
noncomputable def spec_EdgesOk_l0 (x1 : (Int × (List (Int × Int)))) (x16 : (List (Int × Int))) (x17 : Int) (x18 : Int) : Option Bool := atF Γ (den Γ X) 6 [1, 1, 0, 1, 0] [(1, ⟨0, 0, 0, .val .box (.cons (.int .i64) (.sl (.cons (.int .i64) (.int .i64)))) (.sh true) x1⟩), (16, ⟨0, 0, 0, .val .reg (.sl (.cons (.int .i64) (.int .i64))) (.sh true) x16⟩), (17, ⟨0, 0, 0, .val .reg (.int .i64) (.sh false) x17⟩), (18, ⟨0, 0, 0, .val .reg (.int .i64) (.sh false) x18⟩)]
noncomputable def spec_l02Has (a0 : (List Int)) (a1 : Int) : Option Bool := den Γ X 7 (a0, a1)
noncomputable def spec_l02Has_l0 (x1 : Int) (x7 : (List Int)) (x8 : Int) (x9 : Int) : Option Bool := atF Γ (den Γ X) 7 [1, 0, 1, 0] [(1, ⟨0, 0, 0, .val .reg (.int .i64) (.sh false) x1⟩), (7, ⟨0, 0, 0, .val .reg (.sl (.int .i64)) (.sh true) x7⟩), (8, ⟨0, 0, 0, .val .reg (.int .i64) (.sh false) x8⟩), (9, ⟨0, 0, 0, .val .reg (.int .i64) (.sh false) x9⟩)]
noncomputable def spec_l02Reach (a0 : (Int × (List (Int × Int)))) : Option (List Int) := den Γ X 8 a0
noncomputable def spec_l02Reach_l0 (x1 : (Int × (List (Int × Int)))) (x3 : (List Int)) (x4 : Int) : Option (List Int) := atF Γ (den Γ X) 8 [1, 1, 0, 1, 0] [(1, ⟨0, 0, 0, .val .box (.cons (.int .i64) (.sl (.cons (.int .i64) (.int .i64)))) (.sh true) x1⟩), (3, ⟨0, 0, 0, .val .reg (.sl (.int .i64)) (.own (.sh false)) x3⟩), (4, ⟨0, 0, 0, .val .reg (.int .i64) (.sh false) x4⟩)]
noncomputable def spec_l02Reach_l2 (x1 : (Int × (List (Int × Int)))) (x3 : (List Int)) (x4 : Int) (x15 : (List (Int × Int))) (x16 : Int) (x17 : Int) : Option (List Int) := atF Γ (den Γ X) 8 [1, 1, 0, 1, 0, 0, 1, 0, 0, 1, 0] [(1, ⟨0, 0, 0, .val .box (.cons (.int .i64) (.sl (.cons (.int .i64) (.int .i64)))) (.sh true) x1⟩), (3, ⟨0, 0, 0, .val .reg (.sl (.int .i64)) (.own (.sh false)) x3⟩), (4, ⟨0, 0, 0, .val .reg (.int .i64) (.sh false) x4⟩), (15, ⟨0, 0, 0, .val .reg (.sl (.cons (.int .i64) (.int .i64))) (.sh true) x15⟩), (16, ⟨0, 0, 0, .val .reg (.int .i64) (.sh false) x16⟩), (17, ⟨0, 0, 0, .val .reg (.int .i64) (.sh false) x17⟩)]
noncomputable def spec_l02Reach_c11 (x1 : (Int × (List (Int × Int)))) (x3 : (List Int)) (x4 : Int) (x6 : (Int × Int)) (x15 : (List (Int × Int))) (x16 : Int) (x17 : Int) : Option (List Int) := atF Γ (den Γ X) 8 [1, 1, 0, 1, 0, 0, 1, 0, 0, 1, 0, 0, 1, 1, 0, 0, 1, 1, 1, 0] [(1, ⟨0, 0, 0, .val .box (.cons (.int .i64) (.sl (.cons (.int .i64) (.int .i64)))) (.sh true) x1⟩), (3, ⟨0, 0, 0, .val .reg (.sl (.int .i64)) (.own (.sh false)) x3⟩), (4, ⟨0, 0, 0, .val .reg (.int .i64) (.sh false) x4⟩), (6, ⟨0, 0, 0, .val .box (.cons (.int .i64) (.int .i64)) (.pr (.sh false) (.sh false)) x6⟩), (15, ⟨0, 0, 0, .val .reg (.sl (.cons (.int .i64) (.int .i64))) (.sh true) x15⟩), (16, ⟨0, 0, 0, .val .reg (.int .i64) (.sh false) x16⟩), (17, ⟨0, 0, 0, .val .reg (.int .i64) (.sh false) x17⟩)]
noncomputable def spec_l02Reach_c12 (x1 : (Int × (List (Int × Int)))) (x3 : (List Int)) (x4 : Int) (x15 : (List (Int × Int))) (x16 : Int) (x17 : Int) : Option (List Int) := atF Γ (den Γ X) 8 [1, 1, 0, 1, 0, 0, 1, 0, 0, 1, 0, 0, 1, 1, 1] [(1, ⟨0, 0, 0, .val .box (.cons (.int .i64) (.sl (.cons (.int .i64) (.int .i64)))) (.sh true) x1⟩), (3, ⟨0, 0, 0, .val .reg (.sl (.int .i64)) (.own (.sh false)) x3⟩), (4, ⟨0, 0, 0, .val .reg (.int .i64) (.sh false) x4⟩), (15, ⟨0, 0, 0, .val .reg (.sl (.cons (.int .i64) (.int .i64))) (.sh true) x15⟩), (16, ⟨0, 0, 0, .val .reg (.int .i64) (.sh false) x16⟩), (17, ⟨0, 0, 0, .val .reg (.int .i64) (.sh false) x17⟩)]
noncomputable def spec_GraphOk (a0 : (Int × (List (Int × Int)))) : Option Bool := den Γ X 9 a0
noncomputable def spec_GraphOk_l0 (x1 : (Int × (List (Int × Int)))) (x9 : (List (Int × Int))) (x10 : Int) (x11 : Int) : Option Bool := atF Γ (den Γ X) 9 [1, 1, 0, 1, 0] [(1, ⟨0, 0, 0, .val .box (.cons (.int .i64) (.sl (.cons (.int .i64) (.int .i64)))) (.sh true) x1⟩), (9, ⟨0, 0, 0, .val .reg (.sl (.cons (.int .i64) (.int .i64))) (.sh true) x9⟩), (10, ⟨0, 0, 0, .val .reg (.int .i64) (.sh false) x10⟩), (11, ⟨0, 0, 0, .val .reg (.int .i64) (.sh false) x11⟩)]
noncomputable def spec_GraphOk_c8 (x1 : (Int × (List (Int × Int)))) (x9 : (List (Int × Int))) (x10 : Int) (x11 : Int) : Option Bool := atF Γ (den Γ X) 9 [1, 1, 0, 1, 0, 0, 1, 1, 1] [(1, ⟨0, 0, 0, .val .box (.cons (.int .i64) (.sl (.cons (.int .i64) (.int .i64)))) (.sh true) x1⟩), (9, ⟨0, 0, 0, .val .reg (.sl (.cons (.int .i64) (.int .i64))) (.sh true) x9⟩), (10, ⟨0, 0, 0, .val .reg (.int .i64) (.sh false) x10⟩), (11, ⟨0, 0, 0, .val .reg (.int .i64) (.sh false) x11⟩)]
noncomputable def spec_AddEdge (a0 : (Int × (List (Int × Int)))) (a1 : Int) (a2 : Int) : Option ((Int × (List (Int × Int))) × Bool) := den Γ X 10 (a0, a1, a2)
noncomputable def spec_AddEdge_l0 (x6 : (Int × (List (Int × Int)))) (x8 : (Int × Int)) (x9 : (Int × (List (Int × Int)))) (x10 : Bool) (x55 : (List (Int × Int))) (x56 : Int) (x57 : Int) : Option ((Int × (List (Int × Int))) × Bool) := atF Γ (den Γ X) 10 [1, 1, 1, 1, 1, 0, 1, 0] [(6, ⟨0, 0, 0, .val .box (.cons (.int .i64) (.sl (.cons (.int .i64) (.int .i64)))) (.pr (.sh false) (.own (.pr (.sh false) (.sh false)))) x6⟩), (8, ⟨0, 0, 0, .val .box (.cons (.int .i64) (.int .i64)) (.pr (.sh false) (.sh false)) x8⟩), (9, ⟨0, 0, 0, .val .box (.cons (.int .i64) (.sl (.cons (.int .i64) (.int .i64)))) (.pr (.sh false) (.own (.pr (.sh false) (.sh false)))) x9⟩), (10, ⟨0, 0, 0, .val .reg .bool (.sh false) x10⟩), (55, ⟨0, 0, 0, .val .reg (.sl (.cons (.int .i64) (.int .i64))) (.sh true) x55⟩), (56, ⟨0, 0, 0, .val .reg (.int .i64) (.sh false) x56⟩), (57, ⟨0, 0, 0, .val .reg (.int .i64) (.sh false) x57⟩)]
noncomputable def spec_AddEdge_c4 (x3 : (Int × (List (Int × Int)))) (x6 : (Int × (List (Int × Int)))) (x8 : (Int × Int)) : Option ((Int × (List (Int × Int))) × Bool) := atF Γ (den Γ X) 10 [1, 1, 1, 0] [(3, ⟨0, 0, 0, .val .box (.cons (.int .i64) (.sl (.cons (.int .i64) (.int .i64)))) (.sh true) x3⟩), (6, ⟨0, 0, 0, .val .box (.cons (.int .i64) (.sl (.cons (.int .i64) (.int .i64)))) (.pr (.sh false) (.own (.pr (.sh false) (.sh false)))) x6⟩), (8, ⟨0, 0, 0, .val .box (.cons (.int .i64) (.int .i64)) (.pr (.sh false) (.sh false)) x8⟩)]
noncomputable def spec_AddEdge_c13 (x6 : (Int × (List (Int × Int)))) (x8 : (Int × Int)) (x9 : (Int × (List (Int × Int)))) (x10 : Bool) (x55 : (List (Int × Int))) (x56 : Int) (x57 : Int) : Option ((Int × (List (Int × Int))) × Bool) := atF Γ (den Γ X) 10 [1, 1, 1, 1, 1, 0, 1, 0, 0, 1, 1, 1] [(6, ⟨0, 0, 0, .val .box (.cons (.int .i64) (.sl (.cons (.int .i64) (.int .i64)))) (.pr (.sh false) (.own (.pr (.sh false) (.sh false)))) x6⟩), (8, ⟨0, 0, 0, .val .box (.cons (.int .i64) (.int .i64)) (.pr (.sh false) (.sh false)) x8⟩), (9, ⟨0, 0, 0, .val .box (.cons (.int .i64) (.sl (.cons (.int .i64) (.int .i64)))) (.pr (.sh false) (.own (.sh false))) x9⟩), (10, ⟨0, 0, 0, .val .reg .bool (.sh false) x10⟩), (55, ⟨0, 0, 0, .val .reg (.sl (.cons (.int .i64) (.int .i64))) (.sh true) x55⟩), (56, ⟨0, 0, 0, .val .reg (.int .i64) (.sh false) x56⟩), (57, ⟨0, 0, 0, .val .reg (.int .i64) (.sh false) x57⟩)]
noncomputable def spec_l02Draw (a0 : ((List Int) × (Int × Int))) (a1 : Int) : Option ((Int × (List (Int × Int))) × ((List Int) × (Int × Int))) := den Γ X 11 (a0, a1)
noncomputable def spec_l02Draw_l0 (x0 : ((List Int) × (Int × Int))) (x4 : (Int × (List (Int × Int)))) (x5 : (Int × (List (Int × Int)))) (x6 : Int) (x7 : Int) : Option ((Int × (List (Int × Int))) × ((List Int) × (Int × Int))) := atF Γ (den Γ X) 11 [1, 1, 1, 0, 1, 0] [(0, ⟨0, 0, 0, .val .box (.cons (.sl (.int .u8)) (.cons (.int .i64) (.int .i64))) (.pr (.sh true) (.pr (.sh false) (.sh false))) x0⟩), (4, ⟨0, 0, 0, .val .box (.cons (.int .i64) (.sl (.cons (.int .i64) (.int .i64)))) (.pr (.sh false) (.own (.pr (.sh false) (.sh false)))) x4⟩), (5, ⟨0, 0, 0, .val .box (.cons (.int .i64) (.sl (.cons (.int .i64) (.int .i64)))) (.pr (.sh false) (.own (.pr (.sh false) (.sh false)))) x5⟩), (6, ⟨0, 0, 0, .val .reg (.int .i64) (.sh false) x6⟩), (7, ⟨0, 0, 0, .val .reg (.int .i64) (.sh false) x7⟩)]
noncomputable def spec_l02Draw_l2 (x0 : ((List Int) × (Int × Int))) (x4 : (Int × (List (Int × Int)))) (x5 : (Int × (List (Int × Int)))) (x6 : Int) (x9 : (Int × (List (Int × Int)))) (x10 : Int) : Option ((Int × (List (Int × Int))) × ((List Int) × (Int × Int))) := atF Γ (den Γ X) 11 [1, 1, 1, 1, 1, 0, 1, 0] [(0, ⟨0, 0, 0, .val .box (.cons (.sl (.int .u8)) (.cons (.int .i64) (.int .i64))) (.pr (.sh true) (.pr (.sh false) (.sh false))) x0⟩), (4, ⟨0, 0, 0, .val .box (.cons (.int .i64) (.sl (.cons (.int .i64) (.int .i64)))) (.pr (.sh false) (.own (.pr (.sh false) (.sh false)))) x4⟩), (5, ⟨0, 0, 0, .val .box (.cons (.int .i64) (.sl (.cons (.int .i64) (.int .i64)))) (.pr (.sh false) (.own (.pr (.sh false) (.sh false)))) x5⟩), (6, ⟨0, 0, 0, .val .reg (.int .i64) (.sh false) x6⟩), (9, ⟨0, 0, 0, .val .box (.cons (.int .i64) (.sl (.cons (.int .i64) (.int .i64)))) (.pr (.sh false) (.own (.pr (.sh false) (.sh false)))) x9⟩), (10, ⟨0, 0, 0, .val .reg (.int .i64) (.sh false) x10⟩)]
noncomputable def spec_l02Draw_l4 (x0 : ((List Int) × (Int × Int))) (x4 : (Int × (List (Int × Int)))) (x5 : (Int × (List (Int × Int)))) (x6 : Int) (x9 : (Int × (List (Int × Int)))) (x10 : Int) (x11 : Int) : Option ((Int × (List (Int × Int))) × ((List Int) × (Int × Int))) := atF Γ (den Γ X) 11 [1, 1, 1, 1, 1, 0, 1, 0, 0, 1, 0, 0, 1, 0] [(0, ⟨0, 0, 0, .val .box (.cons (.sl (.int .u8)) (.cons (.int .i64) (.int .i64))) (.pr (.sh true) (.pr (.sh false) (.sh false))) x0⟩), (4, ⟨0, 0, 0, .val .box (.cons (.int .i64) (.sl (.cons (.int .i64) (.int .i64)))) (.pr (.sh false) (.own (.pr (.sh false) (.sh false)))) x4⟩), (5, ⟨0, 0, 0, .val .box (.cons (.int .i64) (.sl (.cons (.int .i64) (.int .i64)))) (.pr (.sh false) (.own (.pr (.sh false) (.sh false)))) x5⟩), (6, ⟨0, 0, 0, .val .reg (.int .i64) (.sh false) x6⟩), (9, ⟨0, 0, 0, .val .box (.cons (.int .i64) (.sl (.cons (.int .i64) (.int .i64)))) (.pr (.sh false) (.own (.pr (.sh false) (.sh false)))) x9⟩), (10, ⟨0, 0, 0, .val .reg (.int .i64) (.sh false) x10⟩), (11, ⟨0, 0, 0, .val .reg (.int .i64) (.sh false) x11⟩)]
noncomputable def spec_l02Draw_l6 (x0 : ((List Int) × (Int × Int))) (x4 : (Int × (List (Int × Int)))) (x5 : (Int × (List (Int × Int)))) (x6 : Int) (x9 : (Int × (List (Int × Int)))) (x10 : Int) (x11 : Int) (x12 : Int) : Option ((Int × (List (Int × Int))) × ((List Int) × (Int × Int))) := atF Γ (den Γ X) 11 [1, 1, 1, 1, 1, 0, 1, 0, 0, 1, 0, 0, 1, 0, 0, 1, 0, 0, 1, 0] [(0, ⟨0, 0, 0, .val .box (.cons (.sl (.int .u8)) (.cons (.int .i64) (.int .i64))) (.pr (.sh true) (.pr (.sh false) (.sh false))) x0⟩), (4, ⟨0, 0, 0, .val .box (.cons (.int .i64) (.sl (.cons (.int .i64) (.int .i64)))) (.pr (.sh false) (.own (.pr (.sh false) (.sh false)))) x4⟩), (5, ⟨0, 0, 0, .val .box (.cons (.int .i64) (.sl (.cons (.int .i64) (.int .i64)))) (.pr (.sh false) (.own (.pr (.sh false) (.sh false)))) x5⟩), (6, ⟨0, 0, 0, .val .reg (.int .i64) (.sh false) x6⟩), (9, ⟨0, 0, 0, .val .box (.cons (.int .i64) (.sl (.cons (.int .i64) (.int .i64)))) (.pr (.sh false) (.own (.pr (.sh false) (.sh false)))) x9⟩), (10, ⟨0, 0, 0, .val .reg (.int .i64) (.sh false) x10⟩), (11, ⟨0, 0, 0, .val .reg (.int .i64) (.sh false) x11⟩), (12, ⟨0, 0, 0, .val .reg (.int .i64) (.sh false) x12⟩)]
noncomputable def spec_l02Draw_l8 (x0 : ((List Int) × (Int × Int))) (x4 : (Int × (List (Int × Int)))) (x6 : Int) (x9 : (Int × (List (Int × Int)))) (x13 : Int) : Option ((Int × (List (Int × Int))) × ((List Int) × (Int × Int))) := atF Γ (den Γ X) 11 [1, 1, 1, 1, 1, 1, 0, 1, 0] [(0, ⟨0, 0, 0, .val .box (.cons (.sl (.int .u8)) (.cons (.int .i64) (.int .i64))) (.pr (.sh true) (.pr (.sh false) (.sh false))) x0⟩), (4, ⟨0, 0, 0, .val .box (.cons (.int .i64) (.sl (.cons (.int .i64) (.int .i64)))) (.pr (.sh false) (.own (.pr (.sh false) (.sh false)))) x4⟩), (6, ⟨0, 0, 0, .val .reg (.int .i64) (.sh false) x6⟩), (9, ⟨0, 0, 0, .val .box (.cons (.int .i64) (.sl (.cons (.int .i64) (.int .i64)))) (.pr (.sh false) (.own (.pr (.sh false) (.sh false)))) x9⟩), (13, ⟨0, 0, 0, .val .reg (.int .i64) (.sh false) x13⟩)]
noncomputable def spec_l02Graph (a0 : ((List Int) × (Int × Int))) : Option ((Int × (List (Int × Int))) × ((List Int) × (Int × Int))) := den Γ X 12 a0
noncomputable def spec_l03All (a0 : Int) : Option (List Int) := den Γ X 13 a0
noncomputable def spec_l03All_l0 (x0 : Int) (x3 : (List Int)) (x4 : Int) : Option (List Int) := atF Γ (den Γ X) 13 [1, 1, 0, 1, 0] [(0, ⟨0, 0, 0, .val .reg (.int .i64) (.sh false) x0⟩), (3, ⟨0, 0, 0, .val .reg (.sl (.int .i64)) (.own (.sh false)) x3⟩), (4, ⟨0, 0, 0, .val .reg (.int .i64) (.sh false) x4⟩)]
noncomputable def spec_IdentityMorphism (a0 : (Int × (List (Int × Int)))) : Option (((List Int) × (List Int)) × Bool) := den Γ X 14 a0
noncomputable def spec_l01Pick (a0 : ((List Int) × (Int × Int))) (a1 : (List Int)) : Option (Int × ((List Int) × (Int × Int))) := den Γ X 15 (a0, a1)
noncomputable def spec_l01Near (a0 : ((List Int) × (Int × Int))) (a1 : Int) (a2 : Int) : Option (Int × ((List Int) × (Int × Int))) := den Γ X 16 (a0, a1, a2)
noncomputable def spec_l02Any (a0 : ((List Int) × (Int × Int))) : Option ((Int × (List (Int × Int))) × ((List Int) × (Int × Int))) := den Γ X 17 a0
noncomputable def spec_l16Case (a0 : ((List Int) × (Int × Int))) : Option ((Int × (List (Int × Int))) × ((Int × (List (Int × Int))) × (((List Int) × (List Int)) × ((List Int) × (Int × Int))))) := den Γ X 18 a0
noncomputable def spec_l16Case_l1 (x0 : ((List Int) × (Int × Int))) (x2 : (Int × (List (Int × Int)))) (x3 : (Int × (List (Int × Int)))) (x4 : ((List Int) × (List Int))) (x5 : (Int × (List (Int × Int)))) (x6 : (Int × (List (Int × Int)))) (x7 : ((List Int) × (List Int))) (x9 : Int) (x10 : Int) : Option ((Int × (List (Int × Int))) × ((Int × (List (Int × Int))) × (((List Int) × (List Int)) × ((List Int) × (Int × Int))))) := atF Γ (den Γ X) 18 [1, 1, 1, 1, 0, 1, 0, 1, 0, 1, 1, 1, 1, 1, 0] [(0, ⟨0, 0, 0, .val .box (.cons (.sl (.int .u8)) (.cons (.int .i64) (.int .i64))) (.pr (.sh true) (.pr (.sh false) (.sh false))) x0⟩), (2, ⟨0, 0, 0, .val .box (.cons (.int .i64) (.sl (.cons (.int .i64) (.int .i64)))) (.pr (.sh false) (.own (.pr (.sh false) (.sh false)))) x2⟩), (3, ⟨0, 0, 0, .val .box (.cons (.int .i64) (.sl (.cons (.int .i64) (.int .i64)))) (.pr (.sh false) (.own (.pr (.sh false) (.sh false)))) x3⟩), (4, ⟨0, 0, 0, .val .box (.cons (.sl (.int .i64)) (.sl (.int .i64))) (.pr (.own (.sh false)) (.own (.sh false))) x4⟩), (5, ⟨0, 0, 0, .val .box (.cons (.int .i64) (.sl (.cons (.int .i64) (.int .i64)))) (.pr (.sh false) (.own (.pr (.sh false) (.sh false)))) x5⟩), (6, ⟨0, 0, 0, .val .box (.cons (.int .i64) (.sl (.cons (.int .i64) (.int .i64)))) (.pr (.sh false) (.own (.sh false))) x6⟩), (7, ⟨0, 0, 0, .val .box (.cons (.sl (.int .i64)) (.sl (.int .i64))) (.pr (.own (.sh false)) (.own (.sh false))) x7⟩), (9, ⟨0, 0, 0, .val .reg (.int .i64) (.sh false) x9⟩), (10, ⟨0, 0, 0, .val .reg (.int .i64) (.sh false) x10⟩)]
noncomputable def spec_l16Case_c20 (x0 : ((List Int) × (Int × Int))) (x2 : (Int × (List (Int × Int)))) (x3 : (Int × (List (Int × Int)))) (x4 : ((List Int) × (List Int))) (x5 : (Int × (List (Int × Int)))) (x6 : (Int × (List (Int × Int)))) (x7 : ((List Int) × (List Int))) (x64 : Int) : Option ((Int × (List (Int × Int))) × ((Int × (List (Int × Int))) × (((List Int) × (List Int)) × ((List Int) × (Int × Int))))) := atF Γ (den Γ X) 18 [1, 1, 1, 1, 1, 0, 1, 0, 0] [(0, ⟨0, 0, 0, .val .box (.cons (.sl (.int .u8)) (.cons (.int .i64) (.int .i64))) (.pr (.sh true) (.pr (.sh false) (.sh false))) x0⟩), (2, ⟨0, 0, 0, .val .box (.cons (.int .i64) (.sl (.cons (.int .i64) (.int .i64)))) (.pr (.sh false) (.own (.pr (.sh false) (.sh false)))) x2⟩), (3, ⟨0, 0, 0, .val .box (.cons (.int .i64) (.sl (.cons (.int .i64) (.int .i64)))) (.pr (.sh false) (.own (.pr (.sh false) (.sh false)))) x3⟩), (4, ⟨0, 0, 0, .val .box (.cons (.sl (.int .i64)) (.sl (.int .i64))) (.pr (.own (.sh false)) (.own (.sh false))) x4⟩), (5, ⟨0, 0, 0, .val .box (.cons (.int .i64) (.sl (.cons (.int .i64) (.int .i64)))) (.pr (.sh false) (.sh false)) x5⟩), (6, ⟨0, 0, 0, .val .box (.cons (.int .i64) (.sl (.cons (.int .i64) (.int .i64)))) (.pr (.sh false) (.sh false)) x6⟩), (7, ⟨0, 0, 0, .val .box (.cons (.sl (.int .i64)) (.sl (.int .i64))) (.pr (.own (.sh false)) (.own (.sh false))) x7⟩), (64, ⟨0, 0, 0, .val .reg (.int .i64) (.sh false) x64⟩)]
noncomputable def spec_MorphismOk (a0 : (Int × (List (Int × Int)))) (a1 : (Int × (List (Int × Int)))) (a2 : ((List Int) × (List Int))) : Option Bool := den Γ X 19 (a0, a1, a2)
noncomputable def spec_MorphismOk_l0 (x3 : (Int × (List (Int × Int)))) (x4 : (Int × (List (Int × Int)))) (x5 : ((List Int) × (List Int))) (x40 : (List Int)) (x41 : Int) (x42 : Int) : Option Bool := atF Γ (den Γ X) 19 [1, 1, 0, 1, 0] [(3, ⟨0, 0, 0, .val .box (.cons (.int .i64) (.sl (.cons (.int .i64) (.int .i64)))) (.sh true) x3⟩), (4, ⟨0, 0, 0, .val .box (.cons (.int .i64) (.sl (.cons (.int .i64) (.int .i64)))) (.sh true) x4⟩), (5, ⟨0, 0, 0, .val .box (.cons (.sl (.int .i64)) (.sl (.int .i64))) (.sh true) x5⟩), (40, ⟨0, 0, 0, .val .reg (.sl (.int .i64)) (.sh true) x40⟩), (41, ⟨0, 0, 0, .val .reg (.int .i64) (.sh false) x41⟩), (42, ⟨0, 0, 0, .val .reg (.int .i64) (.sh false) x42⟩)]
noncomputable def spec_MorphismOk_l2 (x4 : (Int × (List (Int × Int)))) (x5 : ((List Int) × (List Int))) (x54 : (List (Int × Int))) (x55 : Int) (x56 : Int) : Option Bool := atF Γ (den Γ X) 19 [1, 1, 1, 0, 1, 0] [(4, ⟨0, 0, 0, .val .box (.cons (.int .i64) (.sl (.cons (.int .i64) (.int .i64)))) (.sh true) x4⟩), (5, ⟨0, 0, 0, .val .box (.cons (.sl (.int .i64)) (.sl (.int .i64))) (.sh true) x5⟩), (54, ⟨0, 0, 0, .val .reg (.sl (.cons (.int .i64) (.int .i64))) (.sh true) x54⟩), (55, ⟨0, 0, 0, .val .reg (.int .i64) (.sh false) x55⟩), (56, ⟨0, 0, 0, .val .reg (.int .i64) (.sh false) x56⟩)]
noncomputable def spec_MorphismOk_c20 (x4 : (Int × (List (Int × Int)))) (x5 : ((List Int) × (List Int))) (x54 : (List (Int × Int))) (x55 : Int) (x56 : Int) : Option Bool := atF Γ (den Γ X) 19 [1, 1, 1, 0, 1, 0, 0, 1, 1, 1] [(4, ⟨0, 0, 0, .val .box (.cons (.int .i64) (.sl (.cons (.int .i64) (.int .i64)))) (.sh true) x4⟩), (5, ⟨0, 0, 0, .val .box (.cons (.sl (.int .i64)) (.sl (.int .i64))) (.sh true) x5⟩), (54, ⟨0, 0, 0, .val .reg (.sl (.cons (.int .i64) (.int .i64))) (.sh true) x54⟩), (55, ⟨0, 0, 0, .val .reg (.int .i64) (.sh false) x55⟩), (56, ⟨0, 0, 0, .val .reg (.int .i64) (.sh false) x56⟩)]
noncomputable def spec_l16Over (a0 : (Int × (List (Int × Int)))) (a1 : ((List Int) × (List Int))) (a2 : Int) (a3 : Int) : Option Int := den Γ X 20 (a0, a1, a2, a3)
noncomputable def spec_l16Over_l0 (x2 : Int) (x3 : Int) (x5 : ((List Int) × (List Int))) (x9 : Int) (x13 : (List (Int × Int))) (x14 : Int) (x15 : Int) : Option Int := atF Γ (den Γ X) 20 [1, 1, 0, 1, 0] [(2, ⟨0, 0, 0, .val .reg (.int .i64) (.sh false) x2⟩), (3, ⟨0, 0, 0, .val .reg (.int .i64) (.sh false) x3⟩), (5, ⟨0, 0, 0, .val .box (.cons (.sl (.int .i64)) (.sl (.int .i64))) (.sh true) x5⟩), (9, ⟨0, 0, 0, .val .reg (.int .i64) (.sh false) x9⟩), (13, ⟨0, 0, 0, .val .reg (.sl (.cons (.int .i64) (.int .i64))) (.sh true) x13⟩), (14, ⟨0, 0, 0, .val .reg (.int .i64) (.sh false) x14⟩), (15, ⟨0, 0, 0, .val .reg (.int .i64) (.sh false) x15⟩)]
noncomputable def spec_l16Horizontal (a0 : (Int × (List (Int × Int)))) (a1 : (Int × (List (Int × Int)))) (a2 : ((List Int) × (List Int))) (a3 : Int) : Option Int := den Γ X 21 (a0, a1, a2, a3)
noncomputable def spec_l16Horizontal_l0 (x3 : Int) (x4 : (Int × (List (Int × Int)))) (x6 : ((List Int) × (List Int))) (x9 : Int) (x10 : Bool) (x15 : (List (Int × Int))) (x16 : Int) (x17 : Int) : Option Int := atF Γ (den Γ X) 21 [1, 1, 1, 0, 1, 0] [(3, ⟨0, 0, 0, .val .reg (.int .i64) (.sh false) x3⟩), (4, ⟨0, 0, 0, .val .box (.cons (.int .i64) (.sl (.cons (.int .i64) (.int .i64)))) (.sh true) x4⟩), (6, ⟨0, 0, 0, .val .box (.cons (.sl (.int .i64)) (.sl (.int .i64))) (.sh true) x6⟩), (9, ⟨0, 0, 0, .val .reg (.int .i64) (.sh false) x9⟩), (10, ⟨0, 0, 0, .val .reg .bool (.sh false) x10⟩), (15, ⟨0, 0, 0, .val .reg (.sl (.cons (.int .i64) (.int .i64))) (.sh true) x15⟩), (16, ⟨0, 0, 0, .val .reg (.int .i64) (.sh false) x16⟩), (17, ⟨0, 0, 0, .val .reg (.int .i64) (.sh false) x17⟩)]
noncomputable def spec_l16Horizontal_c12 (x3 : Int) (x4 : (Int × (List (Int × Int)))) (x6 : ((List Int) × (List Int))) (x9 : Int) (x10 : Bool) (x15 : (List (Int × Int))) (x16 : Int) (x17 : Int) : Option Int := atF Γ (den Γ X) 21 [1, 1, 1, 0, 1, 0, 0, 1, 1, 1] [(3, ⟨0, 0, 0, .val .reg (.int .i64) (.sh false) x3⟩), (4, ⟨0, 0, 0, .val .box (.cons (.int .i64) (.sl (.cons (.int .i64) (.int .i64)))) (.sh true) x4⟩), (6, ⟨0, 0, 0, .val .box (.cons (.sl (.int .i64)) (.sl (.int .i64))) (.sh true) x6⟩), (9, ⟨0, 0, 0, .val .reg (.int .i64) (.sh false) x9⟩), (10, ⟨0, 0, 0, .val .reg .bool (.sh false) x10⟩), (15, ⟨0, 0, 0, .val .reg (.sl (.cons (.int .i64) (.int .i64))) (.sh true) x15⟩), (16, ⟨0, 0, 0, .val .reg (.int .i64) (.sh false) x16⟩), (17, ⟨0, 0, 0, .val .reg (.int .i64) (.sh false) x17⟩)]
noncomputable def spec_IsHarmonic (a0 : (Int × (List (Int × Int)))) (a1 : (Int × (List (Int × Int)))) (a2 : ((List Int) × (List Int))) : Option Bool := den Γ X 22 (a0, a1, a2)
noncomputable def spec_IsHarmonic_l0 (x3 : (Int × (List (Int × Int)))) (x4 : (Int × (List (Int × Int)))) (x5 : ((List Int) × (List Int))) (x7 : Int) : Option Bool := atF Γ (den Γ X) 22 [1, 1, 0, 1, 0] [(3, ⟨0, 0, 0, .val .box (.cons (.int .i64) (.sl (.cons (.int .i64) (.int .i64)))) (.sh true) x3⟩), (4, ⟨0, 0, 0, .val .box (.cons (.int .i64) (.sl (.cons (.int .i64) (.int .i64)))) (.sh true) x4⟩), (5, ⟨0, 0, 0, .val .box (.cons (.sl (.int .i64)) (.sl (.int .i64))) (.sh true) x5⟩), (7, ⟨0, 0, 0, .val .reg (.int .i64) (.sh false) x7⟩)]
noncomputable def spec_MakeMorphism (a0 : (List Int)) : Option ((Int × (List (Int × Int))) × ((Int × (List (Int × Int))) × ((List Int) × (List Int)))) := den Γ X 23 a0
noncomputable def spec_MakeMorphism_l0 (x2 : (Int × (List (Int × Int)))) (x3 : (Int × (List (Int × Int)))) (x4 : ((List Int) × (List Int))) (x6 : Int) (x14 : ((List Int) × (Int × Int))) : Option ((Int × (List (Int × Int))) × ((Int × (List (Int × Int))) × ((List Int) × (List Int)))) := atF Γ (den Γ X) 23 [1, 1, 0, 1, 0] [(2, ⟨0, 0, 0, .val .box (.cons (.int .i64) (.sl (.cons (.int .i64) (.int .i64)))) (.pr (.sh false) (.own (.pr (.sh false) (.sh false)))) x2⟩), (3, ⟨0, 0, 0, .val .box (.cons (.int .i64) (.sl (.cons (.int .i64) (.int .i64)))) (.pr (.sh false) (.own (.pr (.sh false) (.sh false)))) x3⟩), (4, ⟨0, 0, 0, .val .box (.cons (.sl (.int .i64)) (.sl (.int .i64))) (.pr (.own (.sh false)) (.own (.sh false))) x4⟩), (5, ⟨0, 0, 0, .ref .plc 14 0 0 0 [] (.cons (.sl (.int .u8)) (.cons (.int .i64) (.int .i64)))⟩), (6, ⟨0, 0, 0, .val .reg (.int .i64) (.sh false) x6⟩), (14, ⟨0, 0, 0, .val .box (.cons (.sl (.int .u8)) (.cons (.int .i64) (.int .i64))) (.pr (.sh true) (.pr (.sh false) (.sh false))) x14⟩)]
noncomputable def spec_l21New (a0 : (List Int)) (a1 : Int) : Option ((List Int) × (Int × Int)) := den Γ X 24 (a0, a1)
noncomputable def spec_l21New_l0 (x1 : Int) (x6 : Int) (x8 : ((List Int) × (Int × Int))) : Option ((List Int) × (Int × Int)) := atF Γ (den Γ X) 24 [1, 1, 0, 1, 0] [(1, ⟨0, 0, 0, .val .reg (.int .i64) (.sh false) x1⟩), (5, ⟨0, 0, 0, .ref .plc 8 0 0 0 [] (.cons (.sl (.int .u8)) (.cons (.int .i64) (.int .i64)))⟩), (6, ⟨0, 0, 0, .val .reg (.int .i64) (.sh false) x6⟩), (8, ⟨0, 0, 0, .val .box (.cons (.sl (.int .u8)) (.cons (.int .i64) (.int .i64))) (.pr (.sh true) (.pr (.sh false) (.sh false))) x8⟩)]
noncomputable def spec_l04Draw (a0 : ((List Int) × (Int × Int))) (a1 : (Int × (List (Int × Int)))) : Option ((List Int) × ((List Int) × (Int × Int))) := den Γ X 25 (a0, a1)
noncomputable def spec_l04Draw_l0 (x0 : ((List Int) × (Int × Int))) (x3 : (Int × (List (Int × Int)))) (x5 : (List Int)) (x6 : Int) : Option ((List Int) × ((List Int) × (Int × Int))) := atF Γ (den Γ X) 25 [1, 1, 0, 1, 0] [(0, ⟨0, 0, 0, .val .box (.cons (.sl (.int .u8)) (.cons (.int .i64) (.int .i64))) (.pr (.sh true) (.pr (.sh false) (.sh false))) x0⟩), (3, ⟨0, 0, 0, .val .box (.cons (.int .i64) (.sl (.cons (.int .i64) (.int .i64)))) (.sh true) x3⟩), (5, ⟨0, 0, 0, .val .reg (.sl (.int .i64)) (.own (.sh false)) x5⟩), (6, ⟨0, 0, 0, .val .reg (.int .i64) (.sh false) x6⟩)]
noncomputable def spec_MakeDivisor (a0 : (List Int)) (a1 : Int) (a2 : (Int × (List (Int × Int)))) : Option (List Int) := den Γ X 26 (a0, a1, a2)
noncomputable def impl_within (a0 : Int) (a1 : Int) (a2 : Int) : Option Bool := den Γ X 27 (a0, a1, a2)
noncomputable def impl_EdgesOk (a0 : (Int × (List (Int × Int)))) : Option Bool := den Γ X 28 a0
noncomputable def impl_EdgesOk_l0 (x1 : (Int × (List (Int × Int)))) (x16 : (List (Int × Int))) (x17 : Int) (x18 : Int) : Option Bool := atF Γ (den Γ X) 28 [1, 1, 0, 1, 0] [(1, ⟨0, 0, 0, .val .box (.cons (.int .i64) (.sl (.cons (.int .i64) (.int .i64)))) (.sh true) x1⟩), (16, ⟨0, 0, 0, .val .reg (.sl (.cons (.int .i64) (.int .i64))) (.sh true) x16⟩), (17, ⟨0, 0, 0, .val .reg (.int .i64) (.sh false) x17⟩), (18, ⟨0, 0, 0, .val .reg (.int .i64) (.sh false) x18⟩)]
noncomputable def cmp_isNaN_int (a0 : Int) : Option Bool := den Γ X 29 a0
noncomputable def cmp_Compare_int (a0 : Int) (a1 : Int) : Option Int := den Γ X 30 (a0, a1)
noncomputable def impl_compareEdges (a0 : (Int × Int)) (a1 : (Int × Int)) : Option Int := den Γ X 31 (a0, a1)
noncomputable def impl_Edge__compareEdges (a0 : (List (Int × Int))) : Option Bool := den Γ X 32 a0
noncomputable def impl_Edge__compareEdges_l0 (x0 : (List (Int × Int))) (x5 : Int) : Option Bool := atF Γ (den Γ X) 32 [1, 0, 1, 0] [(0, ⟨0, 0, 0, .val .reg (.sl (.cons (.int .i64) (.int .i64))) (.sh true) x0⟩), (1, ⟨0, 0, 0, .fn 40 []⟩), (5, ⟨0, 0, 0, .val .reg (.int .i64) (.sh false) x5⟩)]
noncomputable def impl_connected (a0 : Int) (a1 : (List (Int × Int))) : Option Bool := den Γ X 33 (a0, a1)
noncomputable def impl_connected_l0 (x0 : Int) (x1 : (List (Int × Int))) (x5 : Int) (x8 : Int) (x9 : Int) : Option Bool := atF Γ (den Γ X) 33 [1, 1, 0, 1, 0] [(0, ⟨0, 0, 0, .val .reg (.int .i64) (.sh false) x0⟩), (1, ⟨0, 0, 0, .val .reg (.sl (.cons (.int .i64) (.int .i64))) (.sh true) x1⟩), (5, ⟨0, 0, 0, .val .reg (.int .i64) (.sh false) x5⟩), (8, ⟨0, 0, 0, .val .reg (.int .i64) (.sh false) x8⟩), (9, ⟨0, 0, 0, .val .reg (.int .i64) (.sh false) x9⟩)]
noncomputable def impl_connected_l2 (x0 : Int) (x1 : (List (Int × Int))) (x5 : Int) (x8 : Int) (x9 : Int) (x11 : (List (Int × Int))) (x12 : Int) (x13 : Int) : Option Bool := atF Γ (den Γ X) 33 [1, 1, 0, 1, 0, 0, 1, 1, 0, 0, 1, 0] [(0, ⟨0, 0, 0, .val .reg (.int .i64) (.sh false) x0⟩), (1, ⟨0, 0, 0, .val .reg (.sl (.cons (.int .i64) (.int .i64))) (.sh true) x1⟩), (5, ⟨0, 0, 0, .val .reg (.int .i64) (.sh false) x5⟩), (8, ⟨0, 0, 0, .val .reg (.int .i64) (.sh false) x8⟩), (9, ⟨0, 0, 0, .val .reg (.int .i64) (.sh false) x9⟩), (11, ⟨0, 0, 0, .val .reg (.sl (.cons (.int .i64) (.int .i64))) (.sh true) x11⟩), (12, ⟨0, 0, 0, .val .reg (.int .i64) (.sh false) x12⟩), (13, ⟨0, 0, 0, .val .reg (.int .i64) (.sh false) x13⟩)]
noncomputable def impl_GraphOk (a0 : (Int × (List (Int × Int)))) : Option Bool := den Γ X 34 a0
noncomputable def strconv_Itoa (a0 : Int) : Option ByteArray := den Γ X 35 a0
noncomputable def impl_FormatInt (a0 : Int) : Option ByteArray := den Γ X 36 a0
noncomputable def impl_FormatGraph (a0 : (Int × (List (Int × Int)))) : Option ByteArray := den Γ X 37 a0
noncomputable def impl_FormatGraph_l0 (x3 : ByteArray) (x14 : (List (Int × Int))) (x15 : Int) (x16 : Int) : Option ByteArray := atF Γ (den Γ X) 37 [1, 1, 1, 0, 1, 0] [(3, ⟨0, 0, 0, .val .reg .str (.sh false) x3⟩), (14, ⟨0, 0, 0, .val .reg (.sl (.cons (.int .i64) (.int .i64))) (.sh true) x14⟩), (15, ⟨0, 0, 0, .val .reg (.int .i64) (.sh false) x15⟩), (16, ⟨0, 0, 0, .val .reg (.int .i64) (.sh false) x16⟩)]
noncomputable def strings_IndexByte (a0 : ByteArray) (a1 : Int) : Option Int := den Γ X 38 (a0, a1)
noncomputable def impl_SplitAny (a0 : ByteArray) (a1 : ByteArray) : Option (List ByteArray) := den Γ X 39 (a0, a1)
noncomputable def impl_SplitAny_l0 (x0 : ByteArray) (x1 : ByteArray) (x5 : (List ByteArray)) (x6 : Int) (x7 : Int) : Option (List ByteArray) := atF Γ (den Γ X) 39 [1, 1, 1, 0, 1, 0] [(0, ⟨0, 0, 0, .val .reg .str (.sh false) x0⟩), (1, ⟨0, 0, 0, .val .reg .str (.sh false) x1⟩), (5, ⟨0, 0, 0, .val .reg (.sl .str) (.own (.sh false)) x5⟩), (6, ⟨0, 0, 0, .val .reg (.int .i64) (.sh false) x6⟩), (7, ⟨0, 0, 0, .val .reg (.int .i64) (.sh false) x7⟩)]
noncomputable def strings_TrimSuffix (a0 : ByteArray) (a1 : ByteArray) : Option ByteArray := den Γ X 40 (a0, a1)
noncomputable def impl_ParseInt (a0 : ByteArray) : Option (Int × Bool) := den Γ X 41 a0
noncomputable def strings_Cut (a0 : ByteArray) (a1 : ByteArray) : Option (ByteArray × (ByteArray × Bool)) := den Γ X 42 (a0, a1)
noncomputable def impl_ParseGraph (a0 : ByteArray) : Option ((Int × (List (Int × Int))) × Bool) := den Γ X 43 a0
noncomputable def impl_ParseGraph_l0 (x0 : ByteArray) (x2 : (Int × (List (Int × Int)))) (x7 : (Int × (List (Int × Int)))) (x33 : (List ByteArray)) (x34 : Int) (x35 : Int) : Option ((Int × (List (Int × Int))) × Bool) := atF Γ (den Γ X) 43 [1, 1, 1, 1, 1, 0, 1, 0] [(0, ⟨0, 0, 0, .val .reg .str (.sh false) x0⟩), (2, ⟨0, 0, 0, .val .box (.cons (.int .i64) (.sl (.cons (.int .i64) (.int .i64)))) (.pr (.sh false) (.own (.pr (.sh false) (.sh false)))) x2⟩), (7, ⟨0, 0, 0, .val .box (.cons (.int .i64) (.sl (.cons (.int .i64) (.int .i64)))) (.pr (.sh false) (.own (.pr (.sh false) (.sh false)))) x7⟩), (33, ⟨0, 0, 0, .val .reg (.sl .str) (.sh false) x33⟩), (34, ⟨0, 0, 0, .val .reg (.int .i64) (.sh false) x34⟩), (35, ⟨0, 0, 0, .val .reg (.int .i64) (.sh false) x35⟩)]
noncomputable def impl_ParseGraph_c15 (x0 : ByteArray) (x2 : (Int × (List (Int × Int)))) (x7 : (Int × (List (Int × Int)))) (x33 : (List ByteArray)) (x34 : Int) (x35 : Int) : Option ((Int × (List (Int × Int))) × Bool) := atF Γ (den Γ X) 43 [1, 1, 1, 1, 1, 0, 1, 0, 0, 1, 1, 1] [(0, ⟨0, 0, 0, .val .reg .str (.sh false) x0⟩), (2, ⟨0, 0, 0, .val .box (.cons (.int .i64) (.sl (.cons (.int .i64) (.int .i64)))) (.pr (.sh false) (.own (.pr (.sh false) (.sh false)))) x2⟩), (7, ⟨0, 0, 0, .val .box (.cons (.int .i64) (.sl (.cons (.int .i64) (.int .i64)))) (.pr (.sh false) (.own (.sh false))) x7⟩), (33, ⟨0, 0, 0, .val .reg (.sl .str) (.sh false) x33⟩), (34, ⟨0, 0, 0, .val .reg (.int .i64) (.sh false) x34⟩), (35, ⟨0, 0, 0, .val .reg (.int .i64) (.sh false) x35⟩)]
noncomputable def strings_Join (a0 : (List ByteArray)) (a1 : ByteArray) : Option ByteArray := den Γ X 44 (a0, a1)
noncomputable def impl_Join (a0 : (List ByteArray)) (a1 : ByteArray) : Option ByteArray := den Γ X 45 (a0, a1)
noncomputable def impl_FormatDivisor (a0 : (List Int)) : Option ByteArray := den Γ X 46 a0
noncomputable def impl_FormatDivisor_l0 (x3 : (List ByteArray)) (x9 : (List Int)) (x10 : Int) (x11 : Int) : Option ByteArray := atF Γ (den Γ X) 46 [1, 1, 1, 0, 1, 0] [(3, ⟨0, 0, 0, .val .reg (.sl .str) (.own (.sh false)) x3⟩), (9, ⟨0, 0, 0, .val .reg (.sl (.int .i64)) (.sh true) x9⟩), (10, ⟨0, 0, 0, .val .reg (.int .i64) (.sh false) x10⟩), (11, ⟨0, 0, 0, .val .reg (.int .i64) (.sh false) x11⟩)]
noncomputable def impl_ParseDivisor (a0 : ByteArray) : Option ((List Int) × Bool) := den Γ X 47 a0
noncomputable def impl_ParseDivisor_l0 (x4 : (List Int)) (x12 : (List ByteArray)) (x13 : Int) (x14 : Int) : Option ((List Int) × Bool) := atF Γ (den Γ X) 47 [1, 1, 1, 0, 1, 0] [(4, ⟨0, 0, 0, .val .reg (.sl (.int .i64)) (.own (.sh false)) x4⟩), (12, ⟨0, 0, 0, .val .reg (.sl .str) (.own (.sh false)) x12⟩), (13, ⟨0, 0, 0, .val .reg (.int .i64) (.sh false) x13⟩), (14, ⟨0, 0, 0, .val .reg (.int .i64) (.sh false) x14⟩)]
noncomputable def impl_FormatMorphism (a0 : ((List Int) × (List Int))) : Option ByteArray := den Γ X 48 a0
noncomputable def impl_ParseMorphism (a0 : ByteArray) : Option (((List Int) × (List Int)) × Bool) := den Γ X 49 a0
noncomputable def impl_ParseMorphism_c6 (x2 : ((List Int) × (List Int))) : Option (((List Int) × (List Int)) × Bool) := atF Γ (den Γ X) 49 [1, 1, 1, 1, 1, 0, 1, 0, 0] [(2, ⟨0, 0, 0, .val .box (.cons (.sl (.int .i64)) (.sl (.int .i64))) (.pr (.own (.sh false)) (.own (.sh false))) x2⟩)]
noncomputable def impl_ParseMorphism_c7 (x2 : ((List Int) × (List Int))) (x11 : ((List Int) × (List Int))) : Option (((List Int) × (List Int)) × Bool) := atF Γ (den Γ X) 49 [1, 1, 1, 1, 1, 1, 0] [(2, ⟨0, 0, 0, .val .box (.cons (.sl (.int .i64)) (.sl (.int .i64))) (.pr (.own (.sh false)) (.own (.sh false))) x2⟩), (11, ⟨0, 0, 0, .val .box (.cons (.sl (.int .i64)) (.sl (.int .i64))) (.pr (.own (.sh false)) (.own (.sh false))) x11⟩)]
noncomputable def impl_Edge (a0 : (List (Int × Int))) (a1 : (List (Int × Int))) : Option Bool := den Γ X 50 (a0, a1)
noncomputable def impl_Edge_l0 (x0 : (List (Int × Int))) (x1 : (List (Int × Int))) (x12 : Int) (x13 : Int) : Option Bool := atF Γ (den Γ X) 50 [1, 1, 0, 1, 0] [(0, ⟨0, 0, 0, .val .reg (.sl (.cons (.int .i64) (.int .i64))) (.sh true) x0⟩), (1, ⟨0, 0, 0, .val .reg (.sl (.cons (.int .i64) (.int .i64))) (.sh true) x1⟩), (12, ⟨0, 0, 0, .val .reg (.int .i64) (.sh false) x12⟩), (13, ⟨0, 0, 0, .val .reg (.int .i64) (.sh false) x13⟩)]
noncomputable def impl_SameGraph (a0 : (Int × (List (Int × Int)))) (a1 : (Int × (List (Int × Int)))) : Option Bool := den Γ X 51 (a0, a1)
noncomputable def laws_same (a0 : (List Int)) (a1 : (List Int)) : Option Bool := den Γ X 52 (a0, a1)
noncomputable def laws_same_l0 (x1 : (List Int)) (x12 : (List Int)) (x13 : Int) (x14 : Int) : Option Bool := atF Γ (den Γ X) 52 [1, 1, 0, 1, 0] [(1, ⟨0, 0, 0, .val .reg (.sl (.int .i64)) (.sh true) x1⟩), (12, ⟨0, 0, 0, .val .reg (.sl (.int .i64)) (.sh true) x12⟩), (13, ⟨0, 0, 0, .val .reg (.int .i64) (.sh false) x13⟩), (14, ⟨0, 0, 0, .val .reg (.int .i64) (.sh false) x14⟩)]
noncomputable def impl_allWithin (a0 : (List Int)) (a1 : Int) (a2 : Int) : Option Bool := den Γ X 53 (a0, a1, a2)
noncomputable def impl_allWithin_l0 (x1 : Int) (x2 : Int) (x9 : (List Int)) (x10 : Int) (x11 : Int) : Option Bool := atF Γ (den Γ X) 53 [1, 0, 1, 0] [(1, ⟨0, 0, 0, .val .reg (.int .i64) (.sh false) x1⟩), (2, ⟨0, 0, 0, .val .reg (.int .i64) (.sh false) x2⟩), (9, ⟨0, 0, 0, .val .reg (.sl (.int .i64)) (.sh true) x9⟩), (10, ⟨0, 0, 0, .val .reg (.int .i64) (.sh false) x10⟩), (11, ⟨0, 0, 0, .val .reg (.int .i64) (.sh false) x11⟩)]
noncomputable def impl_DivisorOk (a0 : (Int × (List (Int × Int)))) (a1 : (List Int)) : Option Bool := den Γ X 54 (a0, a1)
noncomputable def laws_FnTexts (a0 : (List Int)) : Option Bool := den Γ X 55 a0
noncomputable def laws_FnTexts_c8 (x3 : (Int × (List (Int × Int)))) (x4 : (Int × (List (Int × Int)))) (x5 : ((List Int) × (List Int))) (x6 : (List Int)) (x7 : (Int × (List (Int × Int)))) (x8 : Bool) (x9 : (List Int)) (x10 : Bool) (x11 : ((List Int) × (List Int))) (x12 : Bool) : Option Bool := atF Γ (den Γ X) 55 [1, 1, 1, 1, 1, 1, 1, 0] [(3, ⟨0, 0, 0, .val .box (.cons (.int .i64) (.sl (.cons (.int .i64) (.int .i64)))) (.pr (.sh false) (.sh false)) x3⟩), (4, ⟨0, 0, 0, .val .box (.cons (.int .i64) (.sl (.cons (.int .i64) (.int .i64)))) (.pr (.sh false) (.sh false)) x4⟩), (5, ⟨0, 0, 0, .val .box (.cons (.sl (.int .i64)) (.sl (.int .i64))) (.pr (.own (.sh false)) (.own (.sh false))) x5⟩), (6, ⟨0, 0, 0, .val .reg (.sl (.int .i64)) (.own (.sh false)) x6⟩), (7, ⟨0, 0, 0, .val .box (.cons (.int .i64) (.sl (.cons (.int .i64) (.int .i64)))) (.pr (.sh false) (.own (.pr (.sh false) (.sh false)))) x7⟩), (8, ⟨0, 0, 0, .val .reg .bool (.sh false) x8⟩), (9, ⟨0, 0, 0, .val .reg (.sl (.int .i64)) (.own (.sh false)) x9⟩), (10, ⟨0, 0, 0, .val .reg .bool (.sh false) x10⟩), (11, ⟨0, 0, 0, .val .box (.cons (.sl (.int .i64)) (.sl (.int .i64))) (.pr (.own (.sh false)) (.own (.sh false))) x11⟩), (12, ⟨0, 0, 0, .val .reg .bool (.sh false) x12⟩)]
end Go.Proofs.YthmddgkpebneoaaGreatDoor.D

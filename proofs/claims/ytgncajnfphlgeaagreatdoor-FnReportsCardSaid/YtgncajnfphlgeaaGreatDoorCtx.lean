/-
  What the evaluator is told of this program: its types, the functions that the laws reach; each function as a plain Lean function.
-/
import Derived.Test.YtgncajnfphlgeaaGreatDoorProg
import Derived.Test.YtgncajnfphlgeaaGreatDoorLb
import Derived.KernelRfl
namespace Go.Proofs.YtgncajnfphlgeaaGreatDoor.D
open Go Go.Den
set_option linter.unusedVariables false
set_option maxRecDepth 100000
def tys : List (Option TInfo) := [
  none,
  none,
  some ⟨(.int .i64), [], false⟩,
  some ⟨(.int .i64), [], false⟩,
  some ⟨.bool, [], false⟩,
  some ⟨(.int .u8), [], false⟩,
  some ⟨(.int .u8), [], false⟩,
  some ⟨(.cons (.int .i64) (.cons (.int .i64) (.cons .bool (.int .u8)))), [([.l], (.int .i64)), ([.r, .l], (.int .i64)), ([.r, .r, .l], .bool), ([.r, .r, .r], (.int .u8))], true⟩,
  some ⟨(.cons (.int .i64) (.cons (.int .i64) (.cons .bool (.int .u8)))), [([.l], (.int .i64)), ([.r, .l], (.int .i64)), ([.r, .r, .l], .bool), ([.r, .r, .r], (.int .u8))], true⟩,
  some ⟨.str, [], false⟩,
  some ⟨.str, [], false⟩,
  some ⟨.str, [], false⟩,
  some ⟨(.int .u64), [], false⟩,
  some ⟨(.cons .str (.int .u64)), [([.l], .str), ([.r], (.int .u64))], false⟩,
  some ⟨(.cons .str (.int .u64)), [([.l], .str), ([.r], (.int .u64))], false⟩,
  none,
  none,
  none,
  none,
  none,
  none,
  some ⟨(.int .i32), [], false⟩,
  some ⟨(.sl (.int .u8)), [], false⟩,
  some ⟨(.sl (.cons (.int .i64) (.int .i64))), [], false⟩,
  some ⟨(.cons (.int .i64) (.sl (.cons (.int .i64) (.int .i64)))), [([.l], (.int .i64)), ([.r], (.sl (.cons (.int .i64) (.int .i64))))], false⟩,
  some ⟨(.cons (.int .i64) (.sl (.cons (.int .i64) (.int .i64)))), [([.l], (.int .i64)), ([.r], (.sl (.cons (.int .i64) (.int .i64))))], false⟩,
  none,
  none,
  some ⟨(.sl (.sl (.int .i64))), [], false⟩,
  none,
  none,
  none,
  some ⟨(.sl (.int .i64)), [], false⟩,
  none,
  none,
  none,
  none,
  none,
  none,
  none,
  none,
  none,
  none,
  none,
  none,
  some ⟨(.sl .str), [], false⟩,
  none,
  none,
  none,
  none,
  none,
  none,
  none,
  none,
  none,
  none,
  none,
  none,
  none,
  none,
  none,
  none,
  some ⟨(.cons (.int .i64) (.int .i64)), [([.l], (.int .i64)), ([.r], (.int .i64))], true⟩,
  some ⟨(.cons (.int .i64) (.int .i64)), [([.l], (.int .i64)), ([.r], (.int .i64))], true⟩,
  none,
  none,
  none,
  none,
  none,
  none,
  none,
  none,
  none,
  none,
  none,
  none,
  none,
  none,
  none,
  none,
  none,
  none,
  none,
  none,
  none,
  some ⟨(.cons (.sl (.int .u8)) (.cons (.int .i64) (.int .i64))), [([.l], (.sl (.int .u8))), ([.r, .l], (.int .i64)), ([.r, .r], (.int .i64))], false⟩,
  some ⟨(.cons (.sl (.int .u8)) (.cons (.int .i64) (.int .i64))), [([.l], (.sl (.int .u8))), ([.r, .l], (.int .i64)), ([.r, .r], (.int .i64))], false⟩,
  some ⟨(.int .u64), [], false⟩,
  none,
  none,
  none,
  none,
  none,
  none,
  none,
  none,
  none,
  none,
  none,
  none,
  none,
  none,
  none,
  none,
  none,
  none,
  none,
  none,
  none,
  none,
  none,
  none,
  none,
  none,
  none,
  none,
  none,
  none,
  none,
  none,
  none,
  none,
  none,
  none,
  none,
  none,
  none,
  none,
  none,
  none,
  none,
  none,
  none,
  none,
  some ⟨(.int .i64), [], false⟩,
  none,
  none,
  none,
  none,
  none,
  none,
  some ⟨(.int .u32), [], false⟩,
  none,
  some ⟨(.int .u64), [], false⟩,
  none,
  none,
  none,
  none,
  none,
  none,
  none,
  some ⟨(.int .u64), [], false⟩,
  none,
  none,
  none,
  none,
  none,
  none,
  none,
  none,
  none,
  none,
  none,
  none,
  none,
  none,
  none,
  none,
  none,
  none,
  none,
  none,
  none,
  none,
  some ⟨(.int .u8), [], false⟩,
  some ⟨(.int .u8), [], false⟩,
  none,
  some ⟨(.int .i32), [], false⟩,
  some ⟨(.int .i32), [], false⟩,
  none,
  none]
noncomputable def s0 : Sig := ⟨25, Go.Proofs.Tryz.f25, [.val (.sl (.int .u8))], [.ptr (.cons (.sl (.int .u8)) (.cons (.int .i64) (.int .i64))) (.pr (.sh true) (.pr (.sh false) (.sh false)))], true, [(0, [(0, .val .reg (.sl (.int .u8)) (.sh true)), (3, .val .reg (.int .i64) (.sh false)), (4, .val .reg (.int .i64) (.sh false))])], [], false⟩
noncomputable def s1 : Sig := ⟨27, Go.Proofs.Tryz.f27, [.pio (.cons (.sl (.int .u8)) (.cons (.int .i64) (.int .i64))) (.pr (.sh true) (.pr (.sh false) (.sh false)))], [.val (.int .i64) (.sh false)], true, [(100005, [(0, .val .box (.cons (.sl (.int .u8)) (.cons (.int .i64) (.int .i64))) (.pr (.sh true) (.pr (.sh false) (.sh false)))), (3, .val .reg (.int .i64) (.sh false))])], [], false⟩
noncomputable def s2 : Sig := ⟨43, Go.Proofs.Tryz.f43, [.pio (.cons (.sl (.int .u8)) (.cons (.int .i64) (.int .i64))) (.pr (.sh true) (.pr (.sh false) (.sh false))), .val (.int .i64)], [.val (.int .i64) (.sh false)], true, [], [], false⟩
noncomputable def s3 : Sig := ⟨84, Go.Proofs.Tryz.f84, [.val (.cons (.int .i64) (.sl (.cons (.int .i64) (.int .i64)))), .val (.int .i64)], [.val .bool (.sh false)], false, [], [], false⟩
noncomputable def s4 : Sig := ⟨53, Go.Proofs.Tryz.f53, [.val (.cons (.int .i64) (.sl (.cons (.int .i64) (.int .i64)))), .val (.int .i64), .val (.int .i64)], [.val (.int .i64) (.sh false)], false, [(0, [(1, .val .reg (.int .i64) (.sh false)), (2, .val .reg (.int .i64) (.sh false)), (7, .val .reg (.int .i64) (.sh false)), (26, .val .reg (.sl (.cons (.int .i64) (.int .i64))) (.sh true)), (27, .val .reg (.int .i64) (.sh false)), (28, .val .reg (.int .i64) (.sh false))])], [], false⟩
noncomputable def s5 : Sig := ⟨86, Go.Proofs.Tryz.f86, [.val (.int .i64), .val (.int .i64), .val (.int .i64)], [.val .bool (.sh false)], false, [], [], false⟩
noncomputable def s6 : Sig := ⟨108, Go.Proofs.Tryz.f108, [.val (.cons (.int .i64) (.sl (.cons (.int .i64) (.int .i64))))], [.val .bool (.sh false)], false, [(0, [(1, .val .box (.cons (.int .i64) (.sl (.cons (.int .i64) (.int .i64)))) (.sh true)), (16, .val .reg (.sl (.cons (.int .i64) (.int .i64))) (.sh true)), (17, .val .reg (.int .i64) (.sh false)), (18, .val .reg (.int .i64) (.sh false))])], [], false⟩
noncomputable def s7 : Sig := ⟨130, Go.Proofs.Tryz.f130, [.val (.sl (.int .i64)), .val (.int .i64)], [.val .bool (.sh false)], false, [(0, [(1, .val .reg (.int .i64) (.sh false)), (7, .val .reg (.sl (.int .i64)) (.sh true)), (8, .val .reg (.int .i64) (.sh false)), (9, .val .reg (.int .i64) (.sh false))])], [], false⟩
noncomputable def s8 : Sig := ⟨109, Go.Proofs.Tryz.f109, [.val (.cons (.int .i64) (.sl (.cons (.int .i64) (.int .i64))))], [.val (.sl (.int .i64)) (.own (.sh false))], false, [(0, [(1, .val .box (.cons (.int .i64) (.sl (.cons (.int .i64) (.int .i64)))) (.sh true)), (3, .val .reg (.sl (.int .i64)) (.own (.sh false))), (4, .val .reg (.int .i64) (.sh false))]), (2, [(1, .val .box (.cons (.int .i64) (.sl (.cons (.int .i64) (.int .i64)))) (.sh true)), (3, .val .reg (.sl (.int .i64)) (.own (.sh false))), (4, .val .reg (.int .i64) (.sh false)), (15, .val .reg (.sl (.cons (.int .i64) (.int .i64))) (.sh true)), (16, .val .reg (.int .i64) (.sh false)), (17, .val .reg (.int .i64) (.sh false))]), (100011, [(1, .val .box (.cons (.int .i64) (.sl (.cons (.int .i64) (.int .i64)))) (.sh true)), (3, .val .reg (.sl (.int .i64)) (.own (.sh false))), (4, .val .reg (.int .i64) (.sh false)), (6, .val .box (.cons (.int .i64) (.int .i64)) (.pr (.sh false) (.sh false))), (15, .val .reg (.sl (.cons (.int .i64) (.int .i64))) (.sh true)), (16, .val .reg (.int .i64) (.sh false)), (17, .val .reg (.int .i64) (.sh false))]), (100012, [(1, .val .box (.cons (.int .i64) (.sl (.cons (.int .i64) (.int .i64)))) (.sh true)), (3, .val .reg (.sl (.int .i64)) (.own (.sh false))), (4, .val .reg (.int .i64) (.sh false)), (15, .val .reg (.sl (.cons (.int .i64) (.int .i64))) (.sh true)), (16, .val .reg (.int .i64) (.sh false)), (17, .val .reg (.int .i64) (.sh false))])], [], false⟩
noncomputable def s9 : Sig := ⟨85, Go.Proofs.Tryz.f85, [.val (.cons (.int .i64) (.sl (.cons (.int .i64) (.int .i64))))], [.val .bool (.sh false)], false, [(0, [(1, .val .box (.cons (.int .i64) (.sl (.cons (.int .i64) (.int .i64)))) (.sh true)), (9, .val .reg (.sl (.cons (.int .i64) (.int .i64))) (.sh true)), (10, .val .reg (.int .i64) (.sh false)), (11, .val .reg (.int .i64) (.sh false))]), (100008, [(1, .val .box (.cons (.int .i64) (.sl (.cons (.int .i64) (.int .i64)))) (.sh true)), (9, .val .reg (.sl (.cons (.int .i64) (.int .i64))) (.sh true)), (10, .val .reg (.int .i64) (.sh false)), (11, .val .reg (.int .i64) (.sh false))])], [], false⟩
noncomputable def s10 : Sig := ⟨54, Go.Proofs.Tryz.f54, [.val (.cons (.int .i64) (.sl (.cons (.int .i64) (.int .i64)))), .val (.int .i64), .val (.int .i64)], [.val (.cons (.int .i64) (.sl (.cons (.int .i64) (.int .i64)))) (.pr (.sh false) (.own (.pr (.sh false) (.sh false)))), .val .bool (.sh false)], false, [(0, [(6, .val .box (.cons (.int .i64) (.sl (.cons (.int .i64) (.int .i64)))) (.pr (.sh false) (.own (.pr (.sh false) (.sh false))))), (8, .val .box (.cons (.int .i64) (.int .i64)) (.pr (.sh false) (.sh false))), (9, .val .box (.cons (.int .i64) (.sl (.cons (.int .i64) (.int .i64)))) (.pr (.sh false) (.own (.pr (.sh false) (.sh false))))), (10, .val .reg .bool (.sh false)), (55, .val .reg (.sl (.cons (.int .i64) (.int .i64))) (.sh true)), (56, .val .reg (.int .i64) (.sh false)), (57, .val .reg (.int .i64) (.sh false))]), (100004, [(3, .val .box (.cons (.int .i64) (.sl (.cons (.int .i64) (.int .i64)))) (.sh true)), (6, .val .box (.cons (.int .i64) (.sl (.cons (.int .i64) (.int .i64)))) (.pr (.sh false) (.own (.pr (.sh false) (.sh false))))), (8, .val .box (.cons (.int .i64) (.int .i64)) (.pr (.sh false) (.sh false)))]), (100013, [(6, .val .box (.cons (.int .i64) (.sl (.cons (.int .i64) (.int .i64)))) (.pr (.sh false) (.own (.pr (.sh false) (.sh false))))), (8, .val .box (.cons (.int .i64) (.int .i64)) (.pr (.sh false) (.sh false))), (9, .val .box (.cons (.int .i64) (.sl (.cons (.int .i64) (.int .i64)))) (.pr (.sh false) (.own (.sh false)))), (10, .val .reg .bool (.sh false)), (55, .val .reg (.sl (.cons (.int .i64) (.int .i64))) (.sh true)), (56, .val .reg (.int .i64) (.sh false)), (57, .val .reg (.int .i64) (.sh false))])], [], false⟩
noncomputable def s11 : Sig := ⟨24, Go.Proofs.Tryz.f24, [.pio (.cons (.sl (.int .u8)) (.cons (.int .i64) (.int .i64))) (.pr (.sh true) (.pr (.sh false) (.sh false))), .val (.int .i64)], [.val (.cons (.int .i64) (.sl (.cons (.int .i64) (.int .i64)))) (.pr (.sh false) (.own (.pr (.sh false) (.sh false))))], true, [(0, [(0, .val .box (.cons (.sl (.int .u8)) (.cons (.int .i64) (.int .i64))) (.pr (.sh true) (.pr (.sh false) (.sh false)))), (4, .val .box (.cons (.int .i64) (.sl (.cons (.int .i64) (.int .i64)))) (.pr (.sh false) (.own (.pr (.sh false) (.sh false))))), (5, .val .box (.cons (.int .i64) (.sl (.cons (.int .i64) (.int .i64)))) (.pr (.sh false) (.own (.pr (.sh false) (.sh false))))), (6, .val .reg (.int .i64) (.sh false)), (7, .val .reg (.int .i64) (.sh false))]), (2, [(0, .val .box (.cons (.sl (.int .u8)) (.cons (.int .i64) (.int .i64))) (.pr (.sh true) (.pr (.sh false) (.sh false)))), (4, .val .box (.cons (.int .i64) (.sl (.cons (.int .i64) (.int .i64)))) (.pr (.sh false) (.own (.pr (.sh false) (.sh false))))), (5, .val .box (.cons (.int .i64) (.sl (.cons (.int .i64) (.int .i64)))) (.pr (.sh false) (.own (.pr (.sh false) (.sh false))))), (6, .val .reg (.int .i64) (.sh false)), (9, .val .box (.cons (.int .i64) (.sl (.cons (.int .i64) (.int .i64)))) (.pr (.sh false) (.own (.pr (.sh false) (.sh false))))), (10, .val .reg (.int .i64) (.sh false))]), (4, [(0, .val .box (.cons (.sl (.int .u8)) (.cons (.int .i64) (.int .i64))) (.pr (.sh true) (.pr (.sh false) (.sh false)))), (4, .val .box (.cons (.int .i64) (.sl (.cons (.int .i64) (.int .i64)))) (.pr (.sh false) (.own (.pr (.sh false) (.sh false))))), (5, .val .box (.cons (.int .i64) (.sl (.cons (.int .i64) (.int .i64)))) (.pr (.sh false) (.own (.pr (.sh false) (.sh false))))), (6, .val .reg (.int .i64) (.sh false)), (9, .val .box (.cons (.int .i64) (.sl (.cons (.int .i64) (.int .i64)))) (.pr (.sh false) (.own (.pr (.sh false) (.sh false))))), (10, .val .reg (.int .i64) (.sh false)), (11, .val .reg (.int .i64) (.sh false))]), (6, [(0, .val .box (.cons (.sl (.int .u8)) (.cons (.int .i64) (.int .i64))) (.pr (.sh true) (.pr (.sh false) (.sh false)))), (4, .val .box (.cons (.int .i64) (.sl (.cons (.int .i64) (.int .i64)))) (.pr (.sh false) (.own (.pr (.sh false) (.sh false))))), (5, .val .box (.cons (.int .i64) (.sl (.cons (.int .i64) (.int .i64)))) (.pr (.sh false) (.own (.pr (.sh false) (.sh false))))), (6, .val .reg (.int .i64) (.sh false)), (9, .val .box (.cons (.int .i64) (.sl (.cons (.int .i64) (.int .i64)))) (.pr (.sh false) (.own (.pr (.sh false) (.sh false))))), (10, .val .reg (.int .i64) (.sh false)), (11, .val .reg (.int .i64) (.sh false)), (12, .val .reg (.int .i64) (.sh false))]), (8, [(0, .val .box (.cons (.sl (.int .u8)) (.cons (.int .i64) (.int .i64))) (.pr (.sh true) (.pr (.sh false) (.sh false)))), (4, .val .box (.cons (.int .i64) (.sl (.cons (.int .i64) (.int .i64)))) (.pr (.sh false) (.own (.pr (.sh false) (.sh false))))), (6, .val .reg (.int .i64) (.sh false)), (9, .val .box (.cons (.int .i64) (.sl (.cons (.int .i64) (.int .i64)))) (.pr (.sh false) (.own (.pr (.sh false) (.sh false))))), (13, .val .reg (.int .i64) (.sh false))])], [], false⟩
noncomputable def s12 : Sig := ⟨5, Go.Proofs.Tryz.f5, [.val (.sl (.int .u8))], [.val (.cons (.int .i64) (.sl (.cons (.int .i64) (.int .i64)))) (.pr (.sh false) (.own (.pr (.sh false) (.sh false))))], false, [], [], false⟩
noncomputable def s13 : Sig := ⟨26, Go.Proofs.Tryz.f26, [.val (.sl (.int .u8)), .val (.int .i64)], [.ptr (.cons (.sl (.int .u8)) (.cons (.int .i64) (.int .i64))) (.pr (.sh true) (.pr (.sh false) (.sh false)))], true, [(0, [(1, .val .reg (.int .i64) (.sh false)), (5, .ref .plc 8 [] (.cons (.sl (.int .u8)) (.cons (.int .i64) (.int .i64)))), (6, .val .reg (.int .i64) (.sh false)), (8, .val .box (.cons (.sl (.int .u8)) (.cons (.int .i64) (.int .i64))) (.pr (.sh true) (.pr (.sh false) (.sh false))))])], [], false⟩
noncomputable def s14 : Sig := ⟨68, Go.Proofs.Tryz.f68, [.pio (.cons (.sl (.int .u8)) (.cons (.int .i64) (.int .i64))) (.pr (.sh true) (.pr (.sh false) (.sh false))), .val (.sl (.int .i64))], [.val (.int .i64) (.sh false)], true, [], [], false⟩
noncomputable def s15 : Sig := ⟨41, Go.Proofs.Tryz.f41, [.pio (.cons (.sl (.int .u8)) (.cons (.int .i64) (.int .i64))) (.pr (.sh true) (.pr (.sh false) (.sh false))), .val (.cons (.int .i64) (.sl (.cons (.int .i64) (.int .i64))))], [.val (.sl (.int .i64)) (.own (.sh false))], true, [(0, [(0, .val .box (.cons (.sl (.int .u8)) (.cons (.int .i64) (.int .i64))) (.pr (.sh true) (.pr (.sh false) (.sh false)))), (3, .val .box (.cons (.int .i64) (.sl (.cons (.int .i64) (.int .i64)))) (.sh true)), (5, .val .reg (.sl (.int .i64)) (.own (.sh false))), (6, .val .reg (.int .i64) (.sh false))])], [], false⟩
noncomputable def s16 : Sig := ⟨42, Go.Proofs.Tryz.f42, [.val (.sl (.int .i64))], [.val (.int .i64) (.sh false)], false, [(0, [(3, .val .reg (.int .i64) (.sh false)), (6, .val .reg (.sl (.int .i64)) (.sh true)), (7, .val .reg (.int .i64) (.sh false)), (8, .val .reg (.int .i64) (.sh false))])], [], false⟩
noncomputable def s17 : Sig := ⟨14, Go.Proofs.Tryz.f14, [.val (.sl (.int .u8)), .val (.int .i64), .val (.cons (.int .i64) (.sl (.cons (.int .i64) (.int .i64))))], [.val (.sl (.int .i64)) (.own (.sh false))], false, [(0, [(7, .ref .plc 11 [] (.cons (.sl (.int .u8)) (.cons (.int .i64) (.int .i64)))), (8, .val .reg (.sl (.int .i64)) (.own (.sh false))), (11, .val .box (.cons (.sl (.int .u8)) (.cons (.int .i64) (.int .i64))) (.pr (.sh true) (.pr (.sh false) (.sh false))))])], [], false⟩
noncomputable def s18 : Sig := ⟨6, Go.Proofs.Tryz.f6, [.val (.sl (.int .u8)), .val (.int .i64)], [.val (.int .i64) (.sh false)], false, [], [], false⟩
noncomputable def s19 : Sig := ⟨44, Go.Proofs.Tryz.f44, [.pio (.cons (.sl (.int .u8)) (.cons (.int .i64) (.int .i64))) (.pr (.sh true) (.pr (.sh false) (.sh false))), .val (.cons (.int .i64) (.sl (.cons (.int .i64) (.int .i64)))), .val (.int .i64)], [.val (.sl (.int .i64)) (.own (.sh false))], true, [(0, [(0, .val .box (.cons (.sl (.int .u8)) (.cons (.int .i64) (.int .i64))) (.pr (.sh true) (.pr (.sh false) (.sh false)))), (2, .val .reg (.int .i64) (.sh false)), (4, .val .box (.cons (.int .i64) (.sl (.cons (.int .i64) (.int .i64)))) (.sh true)), (7, .val .reg (.sl (.int .i64)) (.own (.sh false))), (8, .val .reg (.int .i64) (.sh false))])], [], false⟩
noncomputable def s20 : Sig := ⟨15, Go.Proofs.Tryz.f15, [.val (.sl (.int .u8)), .val (.int .i64), .val (.cons (.int .i64) (.sl (.cons (.int .i64) (.int .i64)))), .val (.int .i64)], [.val (.sl (.int .i64)) (.own (.sh false))], false, [], [], false⟩
noncomputable def s21 : Sig := ⟨57, Go.Proofs.Tryz.f57, [.val (.int .i64), .val (.int .i64), .val (.int .i64)], [.val .bool (.sh false)], false, [], [], false⟩
noncomputable def s22 : Sig := ⟨31, Go.Proofs.Tryz.f31, [.val (.cons (.int .i64) (.sl (.cons (.int .i64) (.int .i64))))], [.val .bool (.sh false)], false, [(0, [(1, .val .box (.cons (.int .i64) (.sl (.cons (.int .i64) (.int .i64)))) (.sh true)), (16, .val .reg (.sl (.cons (.int .i64) (.int .i64))) (.sh true)), (17, .val .reg (.int .i64) (.sh false)), (18, .val .reg (.int .i64) (.sh false))])], [], false⟩
noncomputable def s23 : Sig := ⟨87, Go.Proofs.Tryz.f87, [.val (.int .i64)], [.val .bool (.sh false)], false, [], [], false⟩
noncomputable def s24 : Sig := ⟨58, Go.Proofs.Tryz.f58, [.val (.int .i64), .val (.int .i64)], [.val (.int .i64) (.sh false)], false, [], [], false⟩
noncomputable def s25 : Sig := ⟨33, Go.Proofs.Tryz.f33, [.val (.cons (.int .i64) (.int .i64)), .val (.cons (.int .i64) (.int .i64))], [.val (.int .i64) (.sh false)], false, [], [], false⟩
noncomputable def s26 : Sig := ⟨32, Go.Proofs.Tryz.f32, [.val (.sl (.cons (.int .i64) (.int .i64))), .fn 33 []], [.val .bool (.sh false)], false, [(0, [(0, .val .reg (.sl (.cons (.int .i64) (.int .i64))) (.sh true)), (1, .fn 33 []), (5, .val .reg (.int .i64) (.sh false))])], [], false⟩
noncomputable def s27 : Sig := ⟨34, Go.Proofs.Tryz.f34, [.val (.int .i64), .val (.sl (.cons (.int .i64) (.int .i64)))], [.val .bool (.sh false)], false, [(0, [(0, .val .reg (.int .i64) (.sh false)), (1, .val .reg (.sl (.cons (.int .i64) (.int .i64))) (.sh true)), (5, .val .reg (.int .i64) (.sh false)), (8, .val .reg (.int .i64) (.sh false)), (9, .val .reg (.int .i64) (.sh false))]), (2, [(0, .val .reg (.int .i64) (.sh false)), (1, .val .reg (.sl (.cons (.int .i64) (.int .i64))) (.sh true)), (5, .val .reg (.int .i64) (.sh false)), (8, .val .reg (.int .i64) (.sh false)), (9, .val .reg (.int .i64) (.sh false)), (11, .val .reg (.sl (.cons (.int .i64) (.int .i64))) (.sh true)), (12, .val .reg (.int .i64) (.sh false)), (13, .val .reg (.int .i64) (.sh false))])], [], false⟩
noncomputable def s28 : Sig := ⟨8, Go.Proofs.Tryz.f8, [.val (.cons (.int .i64) (.sl (.cons (.int .i64) (.int .i64))))], [.val .bool (.sh false)], false, [], [], false⟩
noncomputable def s29 : Sig := ⟨69, Go.Proofs.Tryz.f69, [.val (.sl (.int .i64)), .val (.int .i64), .val (.int .i64)], [.val .bool (.sh false)], false, [(0, [(1, .val .reg (.int .i64) (.sh false)), (2, .val .reg (.int .i64) (.sh false)), (9, .val .reg (.sl (.int .i64)) (.sh true)), (10, .val .reg (.int .i64) (.sh false)), (11, .val .reg (.int .i64) (.sh false))])], [], false⟩
noncomputable def s30 : Sig := ⟨45, Go.Proofs.Tryz.f45, [.val (.cons (.int .i64) (.sl (.cons (.int .i64) (.int .i64)))), .val (.sl (.int .i64))], [.val .bool (.sh false)], false, [], [], false⟩
noncomputable def s31 : Sig := ⟨37, Go.Proofs.Tryz.f37, [.val (.sl (.int .i64))], [.val (.int .i64) (.sh false)], false, [(0, [(3, .val .reg (.int .i64) (.sh false)), (6, .val .reg (.sl (.int .i64)) (.sh true)), (7, .val .reg (.int .i64) (.sh false)), (8, .val .reg (.int .i64) (.sh false))])], [], false⟩
noncomputable def s32 : Sig := ⟨46, Go.Proofs.Tryz.f46, [.val (.sl (.int .i64))], [.val (.int .i64) (.sh false)], false, [], [], false⟩
noncomputable def s33 : Sig := ⟨29, Go.Proofs.Tryz.f29, [.val (.sl (.int .i64))], [.val (.sl (.int .i64)) (.own (.sh false))], false, [], [], false⟩
noncomputable def s34 : Sig := ⟨124, Go.Proofs.Tryz.f124, [.val (.sl (.int .i64)), .val (.int .i64)], [.val (.int .i64) (.sh false)], false, [(0, [(1, .val .reg (.int .i64) (.sh false)), (7, .val .reg (.sl (.int .i64)) (.sh true)), (8, .val .reg (.int .i64) (.sh false)), (9, .val .reg (.int .i64) (.sh false))])], [], false⟩
noncomputable def s35 : Sig := ⟨38, Go.Proofs.Tryz.f38, [.val (.cons (.int .i64) (.sl (.cons (.int .i64) (.int .i64)))), .val (.int .i64)], [.val (.int .i64) (.sh false)], false, [(0, [(1, .val .reg (.int .i64) (.sh false)), (5, .val .reg (.int .i64) (.sh false)), (17, .val .reg (.sl (.cons (.int .i64) (.int .i64))) (.sh true)), (18, .val .reg (.int .i64) (.sh false)), (19, .val .reg (.int .i64) (.sh false))])], [], false⟩
noncomputable def s36 : Sig := ⟨79, Go.Proofs.Tryz.f79, [.val (.cons (.int .i64) (.sl (.cons (.int .i64) (.int .i64)))), .io (.sl (.int .i64)) (.own (.sh false)), .val (.int .i64), .val (.int .i64)], [], false, [(0, [(1, .val .reg (.sl (.int .i64)) (.own (.sh false))), (2, .val .reg (.int .i64) (.sh false)), (3, .val .reg (.int .i64) (.sh false)), (11, .val .reg (.sl (.cons (.int .i64) (.int .i64))) (.sh true)), (12, .val .reg (.int .i64) (.sh false)), (13, .val .reg (.int .i64) (.sh false))])], [], false⟩
noncomputable def s37 : Sig := ⟨110, Go.Proofs.Tryz.f110, [.val (.cons (.int .i64) (.sl (.cons (.int .i64) (.int .i64)))), .val (.int .i64), .val (.int .i64)], [.val (.int .i64) (.sh false)], false, [(0, [(1, .val .reg (.int .i64) (.sh false)), (2, .val .reg (.int .i64) (.sh false)), (7, .val .reg (.int .i64) (.sh false)), (28, .val .reg (.sl (.cons (.int .i64) (.int .i64))) (.sh true)), (29, .val .reg (.int .i64) (.sh false)), (30, .val .reg (.int .i64) (.sh false))])], [], false⟩
noncomputable def s38 : Sig := ⟨131, Go.Proofs.Tryz.f131, [.val (.sl (.int .i64)), .val (.int .i64)], [.val (.int .i64) (.sh false)], false, [(0, [(0, .val .reg (.sl (.int .i64)) (.sh true)), (1, .val .reg (.int .i64) (.sh false)), (7, .val .reg (.int .i64) (.sh false)), (8, .val .reg (.int .i64) (.sh false))])], [], false⟩
noncomputable def s39 : Sig := ⟨111, Go.Proofs.Tryz.f111, [.val (.sl (.int .i64)), .val (.int .i64)], [.val .bool (.sh false)], false, [], [], false⟩
noncomputable def s40 : Sig := ⟨90, Go.Proofs.Tryz.f90, [.val (.cons (.int .i64) (.sl (.cons (.int .i64) (.int .i64)))), .val (.sl (.int .i64)), .val (.int .i64)], [.val (.sl (.int .i64)) (.own (.sh false))], false, [(0, [(1, .val .reg (.sl (.int .i64)) (.sh true)), (3, .val .box (.cons (.int .i64) (.sl (.cons (.int .i64) (.int .i64)))) (.sh true)), (7, .val .reg (.sl (.int .i64)) (.own (.sh false)))]), (2, [(1, .val .reg (.sl (.int .i64)) (.sh true)), (3, .val .box (.cons (.int .i64) (.sl (.cons (.int .i64) (.int .i64)))) (.sh true)), (7, .val .reg (.sl (.int .i64)) (.own (.sh false))), (8, .val .reg (.int .i64) (.sh false)), (9, .val .reg (.int .i64) (.sh false))]), (4, [(1, .val .reg (.sl (.int .i64)) (.sh true)), (3, .val .box (.cons (.int .i64) (.sl (.cons (.int .i64) (.int .i64)))) (.sh true)), (7, .val .reg (.sl (.int .i64)) (.own (.sh false))), (8, .val .reg (.int .i64) (.sh false)), (9, .val .reg (.int .i64) (.sh false)), (10, .val .reg (.int .i64) (.sh false)), (25, .ref .ali 7 [] (.sl (.int .i64))), (26, .val .reg (.int .i64) (.sh false)), (27, .val .reg (.int .i64) (.sh false))])], [], false⟩
noncomputable def s41 : Sig := ⟨96, Go.Proofs.Tryz.f96, [.val (.cons (.int .i64) (.sl (.cons (.int .i64) (.int .i64)))), .val (.sl (.int .i64)), .val (.int .i64)], [.val (.sl (.int .i64)) (.own (.sh false)), .val (.sl (.int .i64)) (.own (.sh false))], false, [(0, [(2, .val .reg (.int .i64) (.sh false)), (3, .val .box (.cons (.int .i64) (.sl (.cons (.int .i64) (.int .i64)))) (.sh true)), (8, .val .reg (.sl (.int .i64)) (.own (.sh false))), (9, .val .reg (.sl (.int .i64)) (.own (.sh false))), (10, .val .reg (.int .i64) (.sh false))]), (2, [(2, .val .reg (.int .i64) (.sh false)), (3, .val .box (.cons (.int .i64) (.sl (.cons (.int .i64) (.int .i64)))) (.sh true)), (8, .val .reg (.sl (.int .i64)) (.own (.sh false))), (9, .val .reg (.sl (.int .i64)) (.own (.sh false)))]), (4, [(2, .val .reg (.int .i64) (.sh false)), (3, .val .box (.cons (.int .i64) (.sl (.cons (.int .i64) (.int .i64)))) (.sh true)), (8, .val .reg (.sl (.int .i64)) (.own (.sh false))), (9, .val .reg (.sl (.int .i64)) (.own (.sh false))), (13, .val .reg (.sl (.int .i64)) (.own (.sh false))), (65, .val .reg (.int .i64) (.sh false)), (66, .val .reg (.int .i64) (.sh false))])], [], false⟩
noncomputable def s42 : Sig := ⟨48, Go.Proofs.Tryz.f48, [.val (.int .i64)], [.val .str (.sh false)], false, [], [], false⟩
noncomputable def s43 : Sig := ⟨20, Go.Proofs.Tryz.f20, [.val (.int .i64)], [.val .str (.sh false)], false, [], [], false⟩
noncomputable def s44 : Sig := ⟨67, Go.Proofs.Tryz.f67, [.val (.sl .str), .val .str], [.val .str (.sh false)], false, [], [], false⟩
noncomputable def s45 : Sig := ⟨40, Go.Proofs.Tryz.f40, [.val (.sl .str), .val .str], [.val .str (.sh false)], false, [], [], false⟩
noncomputable def s46 : Sig := ⟨21, Go.Proofs.Tryz.f21, [.val (.sl (.int .i64))], [.val .str (.sh false)], false, [(0, [(3, .val .reg (.sl .str) (.own (.sh false))), (9, .val .reg (.sl (.int .i64)) (.sh true)), (10, .val .reg (.int .i64) (.sh false)), (11, .val .reg (.int .i64) (.sh false))])], [], false⟩
noncomputable def s47 : Sig := ⟨97, Go.Proofs.Tryz.f97, [.val (.sl (.int .i64))], [.val .bool (.sh false)], false, [(0, [(5, .val .reg (.sl (.int .i64)) (.sh true)), (6, .val .reg (.int .i64) (.sh false)), (7, .val .reg (.int .i64) (.sh false))])], [], false⟩
noncomputable def s48 : Sig := ⟨65, Go.Proofs.Tryz.f65, [.io (.sl (.sl (.int .i64))) (.own (.sh false)), .fn 66 []], [], false, [], [], false⟩
noncomputable def s49 : Sig := ⟨70, Go.Proofs.Tryz.f70, [.val (.cons (.int .i64) (.sl (.cons (.int .i64) (.int .i64)))), .val (.sl (.int .i64))], [.val (.sl (.sl (.int .i64))) (.own (.sh false))], false, [(0, [(2, .val .box (.cons (.int .i64) (.sl (.cons (.int .i64) (.int .i64)))) (.sh true)), (8, .val .reg (.sl (.sl (.int .i64))) (.own (.sh false))), (9, .ref .ali 32 [] (.sl (.cons .str (.int .i64)))), (10, .val .reg (.int .i64) (.sh false)), (32, .val .map (.sl (.cons .str (.int .i64))) .gone)]), (2, [(2, .val .box (.cons (.int .i64) (.sl (.cons (.int .i64) (.int .i64)))) (.sh true)), (8, .val .reg (.sl (.sl (.int .i64))) (.own (.sh false))), (9, .ref .ali 32 [] (.sl (.cons .str (.int .i64)))), (10, .val .reg (.int .i64) (.sh false)), (11, .val .reg (.int .i64) (.sh false)), (32, .val .map (.sl (.cons .str (.int .i64))) .gone)]), (4, [(2, .val .box (.cons (.int .i64) (.sl (.cons (.int .i64) (.int .i64)))) (.sh true)), (8, .val .reg (.sl (.sl (.int .i64))) (.own (.sh false))), (9, .ref .ali 32 [] (.sl (.cons .str (.int .i64)))), (10, .val .reg (.int .i64) (.sh false)), (11, .val .reg (.int .i64) (.sh false)), (12, .val .reg (.sl (.int .i64)) (.own (.sh false))), (32, .val .map (.sl (.cons .str (.int .i64))) .gone), (56, .val .reg (.int .i64) (.sh false)), (57, .val .reg (.int .i64) (.sh false))])], [], false⟩
noncomputable def s50 : Sig := ⟨71, Go.Proofs.Tryz.f71, [.val (.int .i64), .val (.int .i64)], [.val (.sl (.sl (.int .i64))) (.own (.sh false))], false, [(0, [(0, .val .reg (.int .i64) (.sh false)), (1, .val .reg (.int .i64) (.sh false)), (5, .val .reg (.sl (.sl (.int .i64))) (.own (.sh false))), (6, .val .reg (.int .i64) (.sh false))]), (2, [(0, .val .reg (.int .i64) (.sh false)), (1, .val .reg (.int .i64) (.sh false)), (5, .val .reg (.sl (.sl (.int .i64))) (.own (.sh false))), (6, .val .reg (.int .i64) (.sh false)), (24, .val .reg (.sl (.sl (.int .i64))) (.own (.sh false))), (25, .val .reg (.int .i64) (.sh false)), (26, .val .reg (.int .i64) (.sh false))])], [], false⟩
noncomputable def s51 : Sig := ⟨74, Go.Proofs.Tryz.f74, [.val (.sl (.int .i64)), .val (.sl (.int .i64))], [.val .bool (.sh false)], false, [(0, [(0, .val .reg (.sl (.int .i64)) (.sh true)), (7, .val .reg (.sl (.int .i64)) (.sh true)), (8, .val .reg (.int .i64) (.sh false)), (9, .val .reg (.int .i64) (.sh false))])], [], false⟩
noncomputable def s52 : Sig := ⟨73, Go.Proofs.Tryz.f73, [.val (.sl (.int .i64)), .pin none (.sl (.int .i64))], [.val .bool (.sh false)], false, [], [], false⟩
noncomputable def s53 : Sig := ⟨98, Go.Proofs.Tryz.f98, [.val (.sl (.sl (.int .i64))), .pin (some 73) (.sl (.int .i64))], [.val (.int .i64) (.sh false)], false, [(0, [(0, .val .reg (.sl (.sl (.int .i64))) (.sh true)), (1, .val (.pin (some 73)) (.sl (.int .i64)) (.sh true)), (7, .val .reg (.int .i64) (.sh false)), (8, .val .reg (.int .i64) (.sh false))])], [], false⟩
noncomputable def s54 : Sig := ⟨72, Go.Proofs.Tryz.f72, [.val (.sl (.sl (.int .i64))), .pin (some 73) (.sl (.int .i64))], [.val .bool (.sh false)], false, [], [], false⟩
noncomputable def s55 : Sig := ⟨47, Go.Proofs.Tryz.f47, [.val (.cons (.int .i64) (.sl (.cons (.int .i64) (.int .i64)))), .val (.sl (.int .i64))], [.val (.int .i64) (.sh false), .val (.sl (.int .i64)) (.sh false)], false, [(0, [(2, .val .box (.cons (.int .i64) (.sl (.cons (.int .i64) (.int .i64)))) (.sh true)), (6, .val .reg (.sl (.sl (.int .i64))) (.own (.sh false))), (7, .val .reg (.int .i64) (.sh false))]), (2, [(2, .val .box (.cons (.int .i64) (.sl (.cons (.int .i64) (.int .i64)))) (.sh true)), (6, .val .reg (.sl (.sl (.int .i64))) (.own (.sh false))), (7, .val .reg (.int .i64) (.sh false)), (18, .val .reg (.sl (.sl (.int .i64))) (.own (.sh false))), (19, .val .reg (.int .i64) (.sh false)), (20, .val .reg (.int .i64) (.sh false))])], [], false⟩
noncomputable def s56 : Sig := ⟨16, Go.Proofs.Tryz.f16, [.val (.cons (.int .i64) (.sl (.cons (.int .i64) (.int .i64)))), .val (.sl (.int .i64))], [.val (.int .i64) (.sh false), .val .bool (.sh false)], false, [], [], false⟩
noncomputable def s57 : Sig := ⟨17, Go.Proofs.Tryz.f17, [.val (.cons (.int .i64) (.sl (.cons (.int .i64) (.int .i64)))), .val (.sl (.int .i64))], [.val (.sl (.int .i64)) (.sh false), .val .bool (.sh false)], false, [], [], false⟩
noncomputable def s58 : Sig := ⟨18, Go.Proofs.Tryz.f18, [.val (.sl (.sl (.int .i64)))], [.val (.sl .str) (.own (.sh false))], false, [(0, [(3, .val .reg (.sl .str) (.own (.sh false))), (6, .val .reg (.sl (.sl (.int .i64))) (.sh true)), (7, .val .reg (.int .i64) (.sh false)), (8, .val .reg (.int .i64) (.sh false))])], [], false⟩
noncomputable def s59 : Sig := ⟨19, Go.Proofs.Tryz.f19, [.val (.cons (.int .i64) (.sl (.cons (.int .i64) (.int .i64)))), .val (.sl (.int .i64))], [.val .str (.sh false)], false, [], [], false⟩
noncomputable def s60 : Sig := ⟨76, Go.Proofs.Tryz.f76, [.val (.cons (.int .i64) (.sl (.cons (.int .i64) (.int .i64)))), .val (.sl (.int .i64)), .val (.int .i64)], [.val .bool (.sh false)], false, [], [], false⟩
noncomputable def s61 : Sig := ⟨100, Go.Proofs.Tryz.f100, [.val (.cons (.int .i64) (.sl (.cons (.int .i64) (.int .i64)))), .val (.sl (.int .i64)), .val (.int .i64)], [.val (.int .i64) (.sh false)], false, [(0, [(2, .val .reg (.int .i64) (.sh false)), (3, .val .box (.cons (.int .i64) (.sl (.cons (.int .i64) (.int .i64)))) (.sh true)), (9, .val .reg (.sl (.int .i64)) (.sh true)), (10, .val .reg (.int .i64) (.sh false)), (11, .val .reg (.int .i64) (.sh false))])], [], false⟩
noncomputable def s62 : Sig := ⟨77, Go.Proofs.Tryz.f77, [.val (.cons (.int .i64) (.sl (.cons (.int .i64) (.int .i64)))), .val (.sl (.int .i64)), .val (.int .i64)], [.val (.sl (.int .i64)) (.own (.sh false)), .val (.sl (.int .i64)) (.own (.sh false))], false, [(0, [(2, .val .reg (.int .i64) (.sh false)), (3, .val .box (.cons (.int .i64) (.sl (.cons (.int .i64) (.int .i64)))) (.sh true)), (8, .val .reg (.sl (.int .i64)) (.own (.sh false))), (9, .val .reg (.sl (.int .i64)) (.own (.sh false))), (10, .val .reg (.int .i64) (.sh false))])], [], false⟩
noncomputable def s63 : Sig := ⟨49, Go.Proofs.Tryz.f49, [.val (.cons (.int .i64) (.sl (.cons (.int .i64) (.int .i64)))), .val (.sl (.int .i64)), .val (.int .i64)], [.val (.sl (.int .i64)) (.own (.sh false)), .val (.sl (.int .i64)) (.own (.sh false)), .val .bool (.sh false)], false, [], [], false⟩
noncomputable def s64 : Sig := ⟨78, Go.Proofs.Tryz.f78, [.val (.cons (.int .i64) (.sl (.cons (.int .i64) (.int .i64)))), .val (.sl (.int .i64)), .val (.int .i64)], [.val .bool (.sh false)], false, [], [], false⟩
noncomputable def s65 : Sig := ⟨101, Go.Proofs.Tryz.f101, [.val (.sl (.int .i64)), .val (.sl (.int .i64))], [.val .bool (.sh false)], false, [(0, [(0, .val .reg (.sl (.int .i64)) (.sh true)), (1, .val .reg (.sl (.int .i64)) (.sh true)), (12, .val .reg (.int .i64) (.sh false)), (13, .val .reg (.int .i64) (.sh false))])], [], false⟩
noncomputable def s66 : Sig := ⟨80, Go.Proofs.Tryz.f80, [.val (.sl (.int .i64)), .val (.sl (.int .i64))], [.val .bool (.sh false)], false, [], [], false⟩
noncomputable def s67 : Sig := ⟨50, Go.Proofs.Tryz.f50, [.val (.cons (.int .i64) (.sl (.cons (.int .i64) (.int .i64)))), .val (.sl (.int .i64)), .val (.int .i64)], [.val .bool (.sh false)], false, [(0, [(1, .val .reg (.sl (.int .i64)) (.sh true)), (2, .val .reg (.int .i64) (.sh false)), (8, .val .reg (.sl (.int .i64)) (.own (.sh false))), (9, .val .reg (.sl (.int .i64)) (.own (.sh false))), (33, .ref .ali 9 [] (.sl (.int .i64))), (34, .val .reg (.int .i64) (.sh false)), (35, .val .reg (.int .i64) (.sh false))])], [], false⟩
noncomputable def s68 : Sig := ⟨22, Go.Proofs.Tryz.f22, [.val (.cons (.int .i64) (.sl (.cons (.int .i64) (.int .i64)))), .val (.sl (.int .i64)), .val (.int .i64)], [.val .str (.sh false)], false, [], [], false⟩
noncomputable def s69 : Sig := ⟨59, Go.Proofs.Tryz.f59, [.val (.cons (.int .i64) (.sl (.cons (.int .i64) (.int .i64)))), .val (.int .i64)], [.val .bool (.sh false)], false, [], [], false⟩
noncomputable def s70 : Sig := ⟨106, Go.Proofs.Tryz.f106, [.val (.cons (.int .i64) (.sl (.cons (.int .i64) (.int .i64))))], [.val (.sl (.sl (.int .i64))) (.own (.own (.sh false)))], false, [(0, [(1, .val .box (.cons (.int .i64) (.sl (.cons (.int .i64) (.int .i64)))) (.sh true)), (3, .val .reg (.sl (.sl (.int .i64))) (.own (.own (.sh false)))), (4, .val .reg (.int .i64) (.sh false))]), (2, [(1, .val .box (.cons (.int .i64) (.sl (.cons (.int .i64) (.int .i64)))) (.sh true)), (3, .val .reg (.sl (.sl (.int .i64))) (.own (.own (.sh false)))), (4, .val .reg (.int .i64) (.sh false)), (5, .val .reg (.sl (.int .i64)) (.own (.sh false))), (20, .val .reg (.int .i64) (.sh false)), (21, .val .reg (.int .i64) (.sh false))])], [(14, 2, 2)], false⟩
noncomputable def s71 : Sig := ⟨82, Go.Proofs.Tryz.f82, [.val (.cons (.int .i64) (.sl (.cons (.int .i64) (.int .i64)))), .val (.int .i64)], [.val (.sl (.sl (.int .i64))) (.own (.own (.sh false)))], false, [], [], false⟩
noncomputable def s72 : Sig := ⟨102, Go.Proofs.Tryz.f102, [.val (.sl (.sl (.int .i64)))], [.val .bool (.sh false)], false, [(0, [(0, .val .reg (.sl (.sl (.int .i64))) (.sh true)), (8, .val .reg (.sl (.sl (.int .i64))) (.sh true)), (9, .val .reg (.int .i64) (.sh false)), (10, .val .reg (.int .i64) (.sh false))])], [], false⟩
noncomputable def s73 : Sig := ⟨103, Go.Proofs.Tryz.f103, [.val (.int .i64)], [.val (.sl (.int .i64)) (.own (.sh false))], false, [(0, [(0, .val .reg (.int .i64) (.sh false)), (3, .val .reg (.sl (.int .i64)) (.own (.sh false))), (4, .val .reg (.int .i64) (.sh false))])], [], false⟩
noncomputable def s74 : Sig := ⟨105, Go.Proofs.Tryz.f105, [.val (.sl (.sl (.int .i64))), .val (.sl (.int .i64)), .val (.int .i64)], [.val (.int .i64) (.sh false)], false, [(0, [(0, .val .reg (.sl (.sl (.int .i64))) (.sh true)), (1, .val .reg (.sl (.int .i64)) (.sh true)), (2, .val .reg (.int .i64) (.sh false)), (7, .val .reg (.int .i64) (.sh false)), (8, .val .reg (.int .i64) (.sh false)), (19, .val .reg (.sl (.int .i64)) (.sh true)), (20, .val .reg (.int .i64) (.sh false)), (21, .val .reg (.int .i64) (.sh false))])], [], false⟩
noncomputable def s75 : Sig := ⟨129, Go.Proofs.Tryz.f129, [.val (.int .i64)], [.val (.int .i64) (.sh false)], false, [], [], false⟩
noncomputable def s76 : Sig := ⟨104, Go.Proofs.Tryz.f104, [.val (.int .i64), .val (.int .i64)], [.val (.int .i64) (.sh false)], false, [(0, [(0, .val .reg (.int .i64) (.sh false)), (1, .val .reg (.int .i64) (.sh false))])], [], false⟩
noncomputable def s77 : Sig := ⟨81, Go.Proofs.Tryz.f81, [.val (.sl (.sl (.int .i64)))], [.val (.sl (.int .i64)) (.own (.sh false))], false, [(0, [(0, .val .reg (.sl (.sl (.int .i64))) (.sh true)), (3, .val .reg (.sl (.int .i64)) (.own (.sh false))), (4, .val .reg (.int .i64) (.sh false))]), (2, [(0, .val .reg (.sl (.sl (.int .i64))) (.sh true)), (3, .val .reg (.sl (.int .i64)) (.own (.sh false))), (4, .val .reg (.int .i64) (.sh false)), (5, .val .reg (.sl (.int .i64)) (.own (.sh false))), (6, .val .reg (.int .i64) (.sh false))]), (4, [(3, .val .reg (.sl (.int .i64)) (.own (.sh false))), (7, .val .reg (.sl (.int .i64)) (.own (.sh false))), (58, .val .reg (.int .i64) (.sh false)), (59, .val .reg (.int .i64) (.sh false))])], [], false⟩
noncomputable def s78 : Sig := ⟨51, Go.Proofs.Tryz.f51, [.val (.cons (.int .i64) (.sl (.cons (.int .i64) (.int .i64))))], [.val (.sl (.int .i64)) (.own (.sh false))], false, [(0, [(3, .val .reg (.sl (.int .i64)) (.own (.sh false))), (11, .val .reg (.sl (.int .i64)) (.own (.sh false))), (12, .val .reg (.int .i64) (.sh false)), (13, .val .reg (.int .i64) (.sh false))])], [], false⟩
noncomputable def s79 : Sig := ⟨36, Go.Proofs.Tryz.f36, [.val (.cons (.int .i64) (.sl (.cons (.int .i64) (.int .i64))))], [.val (.int .i64) (.sh false)], false, [], [], false⟩
noncomputable def s80 : Sig := ⟨83, Go.Proofs.Tryz.f83, [.val (.sl (.sl (.int .i64)))], [.val (.int .i64) (.sh false)], false, [], [], false⟩
noncomputable def s81 : Sig := ⟨52, Go.Proofs.Tryz.f52, [.val (.cons (.int .i64) (.sl (.cons (.int .i64) (.int .i64))))], [.val (.int .i64) (.sh false)], false, [], [], false⟩
noncomputable def s82 : Sig := ⟨23, Go.Proofs.Tryz.f23, [.val (.cons (.int .i64) (.sl (.cons (.int .i64) (.int .i64))))], [.val .str (.sh false)], false, [], [], false⟩
noncomputable def s83 : Sig := ⟨4, Go.Proofs.Tryz.f4, [.val (.sl (.int .u8))], [.val .bool (.sh false)], false, [(100010, [(3, .val .box (.cons (.int .i64) (.sl (.cons (.int .i64) (.int .i64)))) (.pr (.sh false) (.own (.pr (.sh false) (.sh false))))), (4, .val .reg (.sl (.int .i64)) (.sh false)), (5, .val .reg (.int .i64) (.sh false)), (6, .val .reg (.sl (.int .i64)) (.own (.sh false))), (7, .val .reg (.int .i64) (.sh false)), (8, .val .reg .bool (.sh false)), (9, .val .reg (.sl (.int .i64)) (.sh false)), (10, .val .reg .bool (.sh false)), (11, .val .reg (.sl .str) (.own (.sh false)))])], [], false⟩
noncomputable def sigs : List Sig := [s0, s1, s2, s3, s4, s5, s6, s7, s8, s9, s10, s11, s12, s13, s14, s15, s16, s17, s18, s19, s20, s21, s22, s23, s24, s25, s26, s27, s28, s29, s30, s31, s32, s33, s34, s35, s36, s37, s38, s39, s40, s41, s42, s43, s44, s45, s46, s47, s48, s49, s50, s51, s52, s53, s54, s55, s56, s57, s58, s59, s60, s61, s62, s63, s64, s65, s66, s67, s68, s69, s70, s71, s72, s73, s74, s75, s76, s77, s78, s79, s80, s81, s82, s83]
noncomputable def Γ : Ctx := ⟨tys, sigs, [123]⟩
noncomputable def Xf (O : Fun Γ) : Fun Γ := fun n => match n with
  | 42 => fun (a : Int) => (Lb.itoa a : Option ByteArray)
  | 44 => fun (a : ((List ByteArray) × ByteArray)) => (Lb.join a.1 a.2 : Option ByteArray)
  | 48 => fun (a : (List (List Int))) => (Lb.sortRows a : Option (List (List Int)))
  | 71 => fun (a : ((Int × (List (Int × Int))) × Int)) => (Lb.redLap (fun (z0 : (Int × (List (Int × Int)))) (z1 : Int) => (O 69 ((z0, z1) : ((Int × (List (Int × Int))) × Int)) : Option Bool)) (fun (z0 : (Int × (List (Int × Int)))) => (O 70 ((z0) : (Int × (List (Int × Int)))) : Option (List (List Int)))) a.1 a.2 : Option (List (List Int)))
  | _ => fun _ => none
theorem Xlim (O : Nat → Fun Γ) (P : Fun Γ) (hO : ∀ n a, Lim (fun j => O j n a) (P n a)) (n : Nat) (a : (prodTy (Γ.insL n)).den) (h : (n == 42 || n == 44 || n == 48 || n == 71) = true) : Lim (fun j => Xf (O j) n a) (Xf P n a) := by
  simp only [Bool.or_eq_true, beq_iff_eq] at h
  rcases h with ((rfl | rfl) | rfl) | rfl
  · exact Lim.const (Xf P 42 a)
  · exact Lim.const (Xf P 44 a)
  · exact Lim.const (Xf P 48 a)
  · exact Lb.redLap_lim (hO 69) (hO 70) a
noncomputable def X : Ext Γ := ⟨fun n => n == 42 || n == 44 || n == 48 || n == 71, Xf, Xlim⟩
noncomputable def spec_l01New (a0 : (List Int)) : Option ((List Int) × (Int × Int)) := den Γ X 0 a0
noncomputable def spec_l01New_l0 (x0 : (List Int)) (x3 : Int) (x4 : Int) : Option ((List Int) × (Int × Int)) := atF Γ (den Γ X) 0 [1, 1, 0, 1, 0] [(0, ⟨0, 0, 0, .val .reg (.sl (.int .u8)) (.sh true) x0⟩), (3, ⟨0, 0, 0, .val .reg (.int .i64) (.sh false) x3⟩), (4, ⟨0, 0, 0, .val .reg (.int .i64) (.sh false) x4⟩)]
noncomputable def spec_l01Byte (a0 : ((List Int) × (Int × Int))) : Option (Int × ((List Int) × (Int × Int))) := den Γ X 1 a0
noncomputable def spec_l01Byte_c5 (x0 : ((List Int) × (Int × Int))) (x3 : Int) : Option (Int × ((List Int) × (Int × Int))) := atF Γ (den Γ X) 1 [1, 1, 1, 0, 1, 0, 1] [(0, ⟨0, 0, 0, .val .box (.cons (.sl (.int .u8)) (.cons (.int .i64) (.int .i64))) (.pr (.sh true) (.pr (.sh false) (.sh false))) x0⟩), (3, ⟨0, 0, 0, .val .reg (.int .i64) (.sh false) x3⟩)]
noncomputable def spec_l01Below (a0 : ((List Int) × (Int × Int))) (a1 : Int) : Option (Int × ((List Int) × (Int × Int))) := den Γ X 2 (a0, a1)
noncomputable def spec_l02Vert (a0 : (Int × (List (Int × Int)))) (a1 : Int) : Option Bool := den Γ X 3 (a0, a1)
noncomputable def spec_Multiplicity (a0 : (Int × (List (Int × Int)))) (a1 : Int) (a2 : Int) : Option Int := den Γ X 4 (a0, a1, a2)
noncomputable def spec_Multiplicity_l0 (x1 : Int) (x2 : Int) (x7 : Int) (x26 : (List (Int × Int))) (x27 : Int) (x28 : Int) : Option Int := atF Γ (den Γ X) 4 [1, 1, 1, 0, 1, 0] [(1, ⟨0, 0, 0, .val .reg (.int .i64) (.sh false) x1⟩), (2, ⟨0, 0, 0, .val .reg (.int .i64) (.sh false) x2⟩), (7, ⟨0, 0, 0, .val .reg (.int .i64) (.sh false) x7⟩), (26, ⟨0, 0, 0, .val .reg (.sl (.cons (.int .i64) (.int .i64))) (.sh true) x26⟩), (27, ⟨0, 0, 0, .val .reg (.int .i64) (.sh false) x27⟩), (28, ⟨0, 0, 0, .val .reg (.int .i64) (.sh false) x28⟩)]
noncomputable def spec_l01In (a0 : Int) (a1 : Int) (a2 : Int) : Option Bool := den Γ X 5 (a0, a1, a2)
noncomputable def spec_EdgesOk (a0 : (Int × (List (Int × Int)))) : Option Bool := den Γ X 6 a0
noncomputable def spec_EdgesOk_l0 (x1 : (Int × (List (Int × Int)))) (x16 : (List (Int × Int))) (x17 : Int) (x18 : Int) : Option Bool := atF Γ (den Γ X) 6 [1, 1, 0, 1, 0] [(1, ⟨0, 0, 0, .val .box (.cons (.int .i64) (.sl (.cons (.int .i64) (.int .i64)))) (.sh true) x1⟩), (16, ⟨0, 0, 0, .val .reg (.sl (.cons (.int .i64) (.int .i64))) (.sh true) x16⟩), (17, ⟨0, 0, 0, .val .reg (.int .i64) (.sh false) x17⟩), (18, ⟨0, 0, 0, .val .reg (.int .i64) (.sh false) x18⟩)]
noncomputable def spec_l02Has (a0 : (List Int)) (a1 : Int) : Option Bool := den Γ X 7 (a0, a1)
noncomputable def spec_l02Has_l0 (x1 : Int) (x7 : (List Int)) (x8 : Int) (x9 : Int) : Option Bool := atF Γ (den Γ X) 7 [1, 0, 1, 0] [(1, ⟨0, 0, 0, .val .reg (.int .i64) (.sh false) x1⟩), (7, ⟨0, 0, 0, .val .reg (.sl (.int .i64)) (.sh true) x7⟩), (8, ⟨0, 0, 0, .val .reg (.int .i64) (.sh false) x8⟩), (9, ⟨0, 0, 0, .val .reg (.int .i64) (.sh false) x9⟩)]
noncomputable def spec_l02Reach (a0 : (Int × (List (Int × Int)))) : Option (List Int) := den Γ X 8 a0
noncomputable def spec_l02Reach_l0 (x1 : (Int × (List (Int × Int)))) (x3 : (List Int)) (x4 : Int) : Option (List Int) := atF Γ (den Γ X) 8 [1, 1, 0, 1, 0] [(1, ⟨0, 0, 0, .val .box (.cons (.int .i64) (.sl (.cons (.int .i64) (.int .i64)))) (.sh true) x1⟩), (3, ⟨0, 0, 0, .val .reg (.sl (.int .i64)) (.own (.sh false)) x3⟩), (4, ⟨0, 0, 0, .val .reg (.int .i64) (.sh false) x4⟩)]
noncomputable def spec_l02Reach_l2 (x1 : (Int × (List (Int × Int)))) (x3 : (List Int)) (x4 : Int) (x15 : (List (Int × Int))) (x16 : Int) (x17 : Int) : Option (List Int) := atF Γ (den Γ X) 8 [1, 1, 0, 1, 0, 0, 1, 0, 0, 1, 0] [(1, ⟨0, 0, 0, .val .box (.cons (.int .i64) (.sl (.cons (.int .i64) (.int .i64)))) (.sh true) x1⟩), (3, ⟨0, 0, 0, .val .reg (.sl (.int .i64)) (.own (.sh false)) x3⟩), (4, ⟨0, 0, 0, .val .reg (.int .i64) (.sh false) x4⟩), (15, ⟨0, 0, 0, .val .reg (.sl (.cons (.int .i64) (.int .i64))) (.sh true) x15⟩), (16, ⟨0, 0, 0, .val .reg (.int .i64) (.sh false) x16⟩), (17, ⟨0, 0, 0, .val .reg (.int .i64) (.sh false) x17⟩)]
noncomputable def spec_l02Reach_c11 (x1 : (Int × (List (Int × Int)))) (x3 : (List Int)) (x4 : Int) (x6 : (Int × Int)) (x15 : (List (Int × Int))) (x16 : Int) (x17 : Int) : Option (List Int) := atF Γ (den Γ X) 8 [1, 1, 0, 1, 0, 0, 1, 0, 0, 1, 0, 0, 1, 1, 0, 0, 1, 1, 1, 0] [(1, ⟨0, 0, 0, .val .box (.cons (.int .i64) (.sl (.cons (.int .i64) (.int .i64)))) (.sh true) x1⟩), (3, ⟨0, 0, 0, .val .reg (.sl (.int .i64)) (.own (.sh false)) x3⟩), (4, ⟨0, 0, 0, .val .reg (.int .i64) (.sh false) x4⟩), (6, ⟨0, 0, 0, .val .box (.cons (.int .i64) (.int .i64)) (.pr (.sh false) (.sh false)) x6⟩), (15, ⟨0, 0, 0, .val .reg (.sl (.cons (.int .i64) (.int .i64))) (.sh true) x15⟩), (16, ⟨0, 0, 0, .val .reg (.int .i64) (.sh false) x16⟩), (17, ⟨0, 0, 0, .val .reg (.int .i64) (.sh false) x17⟩)]
noncomputable def spec_l02Reach_c12 (x1 : (Int × (List (Int × Int)))) (x3 : (List Int)) (x4 : Int) (x15 : (List (Int × Int))) (x16 : Int) (x17 : Int) : Option (List Int) := atF Γ (den Γ X) 8 [1, 1, 0, 1, 0, 0, 1, 0, 0, 1, 0, 0, 1, 1, 1] [(1, ⟨0, 0, 0, .val .box (.cons (.int .i64) (.sl (.cons (.int .i64) (.int .i64)))) (.sh true) x1⟩), (3, ⟨0, 0, 0, .val .reg (.sl (.int .i64)) (.own (.sh false)) x3⟩), (4, ⟨0, 0, 0, .val .reg (.int .i64) (.sh false) x4⟩), (15, ⟨0, 0, 0, .val .reg (.sl (.cons (.int .i64) (.int .i64))) (.sh true) x15⟩), (16, ⟨0, 0, 0, .val .reg (.int .i64) (.sh false) x16⟩), (17, ⟨0, 0, 0, .val .reg (.int .i64) (.sh false) x17⟩)]
noncomputable def spec_GraphOk (a0 : (Int × (List (Int × Int)))) : Option Bool := den Γ X 9 a0
noncomputable def spec_GraphOk_l0 (x1 : (Int × (List (Int × Int)))) (x9 : (List (Int × Int))) (x10 : Int) (x11 : Int) : Option Bool := atF Γ (den Γ X) 9 [1, 1, 0, 1, 0] [(1, ⟨0, 0, 0, .val .box (.cons (.int .i64) (.sl (.cons (.int .i64) (.int .i64)))) (.sh true) x1⟩), (9, ⟨0, 0, 0, .val .reg (.sl (.cons (.int .i64) (.int .i64))) (.sh true) x9⟩), (10, ⟨0, 0, 0, .val .reg (.int .i64) (.sh false) x10⟩), (11, ⟨0, 0, 0, .val .reg (.int .i64) (.sh false) x11⟩)]
noncomputable def spec_GraphOk_c8 (x1 : (Int × (List (Int × Int)))) (x9 : (List (Int × Int))) (x10 : Int) (x11 : Int) : Option Bool := atF Γ (den Γ X) 9 [1, 1, 0, 1, 0, 0, 1, 1, 1] [(1, ⟨0, 0, 0, .val .box (.cons (.int .i64) (.sl (.cons (.int .i64) (.int .i64)))) (.sh true) x1⟩), (9, ⟨0, 0, 0, .val .reg (.sl (.cons (.int .i64) (.int .i64))) (.sh true) x9⟩), (10, ⟨0, 0, 0, .val .reg (.int .i64) (.sh false) x10⟩), (11, ⟨0, 0, 0, .val .reg (.int .i64) (.sh false) x11⟩)]
noncomputable def spec_AddEdge (a0 : (Int × (List (Int × Int)))) (a1 : Int) (a2 : Int) : Option ((Int × (List (Int × Int))) × Bool) := den Γ X 10 (a0, a1, a2)
noncomputable def spec_AddEdge_l0 (x6 : (Int × (List (Int × Int)))) (x8 : (Int × Int)) (x9 : (Int × (List (Int × Int)))) (x10 : Bool) (x55 : (List (Int × Int))) (x56 : Int) (x57 : Int) : Option ((Int × (List (Int × Int))) × Bool) := atF Γ (den Γ X) 10 [1, 1, 1, 1, 1, 0, 1, 0] [(6, ⟨0, 0, 0, .val .box (.cons (.int .i64) (.sl (.cons (.int .i64) (.int .i64)))) (.pr (.sh false) (.own (.pr (.sh false) (.sh false)))) x6⟩), (8, ⟨0, 0, 0, .val .box (.cons (.int .i64) (.int .i64)) (.pr (.sh false) (.sh false)) x8⟩), (9, ⟨0, 0, 0, .val .box (.cons (.int .i64) (.sl (.cons (.int .i64) (.int .i64)))) (.pr (.sh false) (.own (.pr (.sh false) (.sh false)))) x9⟩), (10, ⟨0, 0, 0, .val .reg .bool (.sh false) x10⟩), (55, ⟨0, 0, 0, .val .reg (.sl (.cons (.int .i64) (.int .i64))) (.sh true) x55⟩), (56, ⟨0, 0, 0, .val .reg (.int .i64) (.sh false) x56⟩), (57, ⟨0, 0, 0, .val .reg (.int .i64) (.sh false) x57⟩)]
noncomputable def spec_AddEdge_c4 (x3 : (Int × (List (Int × Int)))) (x6 : (Int × (List (Int × Int)))) (x8 : (Int × Int)) : Option ((Int × (List (Int × Int))) × Bool) := atF Γ (den Γ X) 10 [1, 1, 1, 0] [(3, ⟨0, 0, 0, .val .box (.cons (.int .i64) (.sl (.cons (.int .i64) (.int .i64)))) (.sh true) x3⟩), (6, ⟨0, 0, 0, .val .box (.cons (.int .i64) (.sl (.cons (.int .i64) (.int .i64)))) (.pr (.sh false) (.own (.pr (.sh false) (.sh false)))) x6⟩), (8, ⟨0, 0, 0, .val .box (.cons (.int .i64) (.int .i64)) (.pr (.sh false) (.sh false)) x8⟩)]
noncomputable def spec_AddEdge_c13 (x6 : (Int × (List (Int × Int)))) (x8 : (Int × Int)) (x9 : (Int × (List (Int × Int)))) (x10 : Bool) (x55 : (List (Int × Int))) (x56 : Int) (x57 : Int) : Option ((Int × (List (Int × Int))) × Bool) := atF Γ (den Γ X) 10 [1, 1, 1, 1, 1, 0, 1, 0, 0, 1, 1, 1] [(6, ⟨0, 0, 0, .val .box (.cons (.int .i64) (.sl (.cons (.int .i64) (.int .i64)))) (.pr (.sh false) (.own (.pr (.sh false) (.sh false)))) x6⟩), (8, ⟨0, 0, 0, .val .box (.cons (.int .i64) (.int .i64)) (.pr (.sh false) (.sh false)) x8⟩), (9, ⟨0, 0, 0, .val .box (.cons (.int .i64) (.sl (.cons (.int .i64) (.int .i64)))) (.pr (.sh false) (.own (.sh false))) x9⟩), (10, ⟨0, 0, 0, .val .reg .bool (.sh false) x10⟩), (55, ⟨0, 0, 0, .val .reg (.sl (.cons (.int .i64) (.int .i64))) (.sh true) x55⟩), (56, ⟨0, 0, 0, .val .reg (.int .i64) (.sh false) x56⟩), (57, ⟨0, 0, 0, .val .reg (.int .i64) (.sh false) x57⟩)]
noncomputable def spec_l02Draw (a0 : ((List Int) × (Int × Int))) (a1 : Int) : Option ((Int × (List (Int × Int))) × ((List Int) × (Int × Int))) := den Γ X 11 (a0, a1)
noncomputable def spec_l02Draw_l0 (x0 : ((List Int) × (Int × Int))) (x4 : (Int × (List (Int × Int)))) (x5 : (Int × (List (Int × Int)))) (x6 : Int) (x7 : Int) : Option ((Int × (List (Int × Int))) × ((List Int) × (Int × Int))) := atF Γ (den Γ X) 11 [1, 1, 1, 0, 1, 0] [(0, ⟨0, 0, 0, .val .box (.cons (.sl (.int .u8)) (.cons (.int .i64) (.int .i64))) (.pr (.sh true) (.pr (.sh false) (.sh false))) x0⟩), (4, ⟨0, 0, 0, .val .box (.cons (.int .i64) (.sl (.cons (.int .i64) (.int .i64)))) (.pr (.sh false) (.own (.pr (.sh false) (.sh false)))) x4⟩), (5, ⟨0, 0, 0, .val .box (.cons (.int .i64) (.sl (.cons (.int .i64) (.int .i64)))) (.pr (.sh false) (.own (.pr (.sh false) (.sh false)))) x5⟩), (6, ⟨0, 0, 0, .val .reg (.int .i64) (.sh false) x6⟩), (7, ⟨0, 0, 0, .val .reg (.int .i64) (.sh false) x7⟩)]
noncomputable def spec_l02Draw_l2 (x0 : ((List Int) × (Int × Int))) (x4 : (Int × (List (Int × Int)))) (x5 : (Int × (List (Int × Int)))) (x6 : Int) (x9 : (Int × (List (Int × Int)))) (x10 : Int) : Option ((Int × (List (Int × Int))) × ((List Int) × (Int × Int))) := atF Γ (den Γ X) 11 [1, 1, 1, 1, 1, 0, 1, 0] [(0, ⟨0, 0, 0, .val .box (.cons (.sl (.int .u8)) (.cons (.int .i64) (.int .i64))) (.pr (.sh true) (.pr (.sh false) (.sh false))) x0⟩), (4, ⟨0, 0, 0, .val .box (.cons (.int .i64) (.sl (.cons (.int .i64) (.int .i64)))) (.pr (.sh false) (.own (.pr (.sh false) (.sh false)))) x4⟩), (5, ⟨0, 0, 0, .val .box (.cons (.int .i64) (.sl (.cons (.int .i64) (.int .i64)))) (.pr (.sh false) (.own (.pr (.sh false) (.sh false)))) x5⟩), (6, ⟨0, 0, 0, .val .reg (.int .i64) (.sh false) x6⟩), (9, ⟨0, 0, 0, .val .box (.cons (.int .i64) (.sl (.cons (.int .i64) (.int .i64)))) (.pr (.sh false) (.own (.pr (.sh false) (.sh false)))) x9⟩), (10, ⟨0, 0, 0, .val .reg (.int .i64) (.sh false) x10⟩)]
noncomputable def spec_l02Draw_l4 (x0 : ((List Int) × (Int × Int))) (x4 : (Int × (List (Int × Int)))) (x5 : (Int × (List (Int × Int)))) (x6 : Int) (x9 : (Int × (List (Int × Int)))) (x10 : Int) (x11 : Int) : Option ((Int × (List (Int × Int))) × ((List Int) × (Int × Int))) := atF Γ (den Γ X) 11 [1, 1, 1, 1, 1, 0, 1, 0, 0, 1, 0, 0, 1, 0] [(0, ⟨0, 0, 0, .val .box (.cons (.sl (.int .u8)) (.cons (.int .i64) (.int .i64))) (.pr (.sh true) (.pr (.sh false) (.sh false))) x0⟩), (4, ⟨0, 0, 0, .val .box (.cons (.int .i64) (.sl (.cons (.int .i64) (.int .i64)))) (.pr (.sh false) (.own (.pr (.sh false) (.sh false)))) x4⟩), (5, ⟨0, 0, 0, .val .box (.cons (.int .i64) (.sl (.cons (.int .i64) (.int .i64)))) (.pr (.sh false) (.own (.pr (.sh false) (.sh false)))) x5⟩), (6, ⟨0, 0, 0, .val .reg (.int .i64) (.sh false) x6⟩), (9, ⟨0, 0, 0, .val .box (.cons (.int .i64) (.sl (.cons (.int .i64) (.int .i64)))) (.pr (.sh false) (.own (.pr (.sh false) (.sh false)))) x9⟩), (10, ⟨0, 0, 0, .val .reg (.int .i64) (.sh false) x10⟩), (11, ⟨0, 0, 0, .val .reg (.int .i64) (.sh false) x11⟩)]
noncomputable def spec_l02Draw_l6 (x0 : ((List Int) × (Int × Int))) (x4 : (Int × (List (Int × Int)))) (x5 : (Int × (List (Int × Int)))) (x6 : Int) (x9 : (Int × (List (Int × Int)))) (x10 : Int) (x11 : Int) (x12 : Int) : Option ((Int × (List (Int × Int))) × ((List Int) × (Int × Int))) := atF Γ (den Γ X) 11 [1, 1, 1, 1, 1, 0, 1, 0, 0, 1, 0, 0, 1, 0, 0, 1, 0, 0, 1, 0] [(0, ⟨0, 0, 0, .val .box (.cons (.sl (.int .u8)) (.cons (.int .i64) (.int .i64))) (.pr (.sh true) (.pr (.sh false) (.sh false))) x0⟩), (4, ⟨0, 0, 0, .val .box (.cons (.int .i64) (.sl (.cons (.int .i64) (.int .i64)))) (.pr (.sh false) (.own (.pr (.sh false) (.sh false)))) x4⟩), (5, ⟨0, 0, 0, .val .box (.cons (.int .i64) (.sl (.cons (.int .i64) (.int .i64)))) (.pr (.sh false) (.own (.pr (.sh false) (.sh false)))) x5⟩), (6, ⟨0, 0, 0, .val .reg (.int .i64) (.sh false) x6⟩), (9, ⟨0, 0, 0, .val .box (.cons (.int .i64) (.sl (.cons (.int .i64) (.int .i64)))) (.pr (.sh false) (.own (.pr (.sh false) (.sh false)))) x9⟩), (10, ⟨0, 0, 0, .val .reg (.int .i64) (.sh false) x10⟩), (11, ⟨0, 0, 0, .val .reg (.int .i64) (.sh false) x11⟩), (12, ⟨0, 0, 0, .val .reg (.int .i64) (.sh false) x12⟩)]
noncomputable def spec_l02Draw_l8 (x0 : ((List Int) × (Int × Int))) (x4 : (Int × (List (Int × Int)))) (x6 : Int) (x9 : (Int × (List (Int × Int)))) (x13 : Int) : Option ((Int × (List (Int × Int))) × ((List Int) × (Int × Int))) := atF Γ (den Γ X) 11 [1, 1, 1, 1, 1, 1, 0, 1, 0] [(0, ⟨0, 0, 0, .val .box (.cons (.sl (.int .u8)) (.cons (.int .i64) (.int .i64))) (.pr (.sh true) (.pr (.sh false) (.sh false))) x0⟩), (4, ⟨0, 0, 0, .val .box (.cons (.int .i64) (.sl (.cons (.int .i64) (.int .i64)))) (.pr (.sh false) (.own (.pr (.sh false) (.sh false)))) x4⟩), (6, ⟨0, 0, 0, .val .reg (.int .i64) (.sh false) x6⟩), (9, ⟨0, 0, 0, .val .box (.cons (.int .i64) (.sl (.cons (.int .i64) (.int .i64)))) (.pr (.sh false) (.own (.pr (.sh false) (.sh false)))) x9⟩), (13, ⟨0, 0, 0, .val .reg (.int .i64) (.sh false) x13⟩)]
noncomputable def spec_MakeSmall (a0 : (List Int)) : Option (Int × (List (Int × Int))) := den Γ X 12 a0
noncomputable def spec_l21New (a0 : (List Int)) (a1 : Int) : Option ((List Int) × (Int × Int)) := den Γ X 13 (a0, a1)
noncomputable def spec_l21New_l0 (x1 : Int) (x6 : Int) (x8 : ((List Int) × (Int × Int))) : Option ((List Int) × (Int × Int)) := atF Γ (den Γ X) 13 [1, 1, 0, 1, 0] [(1, ⟨0, 0, 0, .val .reg (.int .i64) (.sh false) x1⟩), (5, ⟨0, 0, 0, .ref .plc 8 0 0 0 [] (.cons (.sl (.int .u8)) (.cons (.int .i64) (.int .i64)))⟩), (6, ⟨0, 0, 0, .val .reg (.int .i64) (.sh false) x6⟩), (8, ⟨0, 0, 0, .val .box (.cons (.sl (.int .u8)) (.cons (.int .i64) (.int .i64))) (.pr (.sh true) (.pr (.sh false) (.sh false))) x8⟩)]
noncomputable def spec_l01Pick (a0 : ((List Int) × (Int × Int))) (a1 : (List Int)) : Option (Int × ((List Int) × (Int × Int))) := den Γ X 14 (a0, a1)
noncomputable def spec_l04Draw (a0 : ((List Int) × (Int × Int))) (a1 : (Int × (List (Int × Int)))) : Option ((List Int) × ((List Int) × (Int × Int))) := den Γ X 15 (a0, a1)
noncomputable def spec_l04Draw_l0 (x0 : ((List Int) × (Int × Int))) (x3 : (Int × (List (Int × Int)))) (x5 : (List Int)) (x6 : Int) : Option ((List Int) × ((List Int) × (Int × Int))) := atF Γ (den Γ X) 15 [1, 1, 0, 1, 0] [(0, ⟨0, 0, 0, .val .box (.cons (.sl (.int .u8)) (.cons (.int .i64) (.int .i64))) (.pr (.sh true) (.pr (.sh false) (.sh false))) x0⟩), (3, ⟨0, 0, 0, .val .box (.cons (.int .i64) (.sl (.cons (.int .i64) (.int .i64)))) (.sh true) x3⟩), (5, ⟨0, 0, 0, .val .reg (.sl (.int .i64)) (.own (.sh false)) x5⟩), (6, ⟨0, 0, 0, .val .reg (.int .i64) (.sh false) x6⟩)]
noncomputable def spec_DegreeOf (a0 : (List Int)) : Option Int := den Γ X 16 a0
noncomputable def spec_DegreeOf_l0 (x3 : Int) (x6 : (List Int)) (x7 : Int) (x8 : Int) : Option Int := atF Γ (den Γ X) 16 [1, 1, 0, 1, 0] [(3, ⟨0, 0, 0, .val .reg (.int .i64) (.sh false) x3⟩), (6, ⟨0, 0, 0, .val .reg (.sl (.int .i64)) (.sh true) x6⟩), (7, ⟨0, 0, 0, .val .reg (.int .i64) (.sh false) x7⟩), (8, ⟨0, 0, 0, .val .reg (.int .i64) (.sh false) x8⟩)]
noncomputable def spec_MakeFew (a0 : (List Int)) (a1 : Int) (a2 : (Int × (List (Int × Int)))) : Option (List Int) := den Γ X 17 (a0, a1, a2)
noncomputable def spec_MakeFew_l0 (x8 : (List Int)) (x11 : ((List Int) × (Int × Int))) : Option (List Int) := atF Γ (den Γ X) 17 [1, 1, 1, 0, 0] [(7, ⟨0, 0, 0, .ref .plc 11 0 0 0 [] (.cons (.sl (.int .u8)) (.cons (.int .i64) (.int .i64)))⟩), (8, ⟨0, 0, 0, .val .reg (.sl (.int .i64)) (.own (.sh false)) x8⟩), (11, ⟨0, 0, 0, .val .box (.cons (.sl (.int .u8)) (.cons (.int .i64) (.int .i64))) (.pr (.sh true) (.pr (.sh false) (.sh false))) x11⟩)]
noncomputable def spec_MakeNum (a0 : (List Int)) (a1 : Int) : Option Int := den Γ X 18 (a0, a1)
noncomputable def spec_l10Draw (a0 : ((List Int) × (Int × Int))) (a1 : (Int × (List (Int × Int)))) (a2 : Int) : Option ((List Int) × ((List Int) × (Int × Int))) := den Γ X 19 (a0, a1, a2)
noncomputable def spec_l10Draw_l0 (x0 : ((List Int) × (Int × Int))) (x2 : Int) (x4 : (Int × (List (Int × Int)))) (x7 : (List Int)) (x8 : Int) : Option ((List Int) × ((List Int) × (Int × Int))) := atF Γ (den Γ X) 19 [1, 1, 0, 1, 0] [(0, ⟨0, 0, 0, .val .box (.cons (.sl (.int .u8)) (.cons (.int .i64) (.int .i64))) (.pr (.sh true) (.pr (.sh false) (.sh false))) x0⟩), (2, ⟨0, 0, 0, .val .reg (.int .i64) (.sh false) x2⟩), (4, ⟨0, 0, 0, .val .box (.cons (.int .i64) (.sl (.cons (.int .i64) (.int .i64)))) (.sh true) x4⟩), (7, ⟨0, 0, 0, .val .reg (.sl (.int .i64)) (.own (.sh false)) x7⟩), (8, ⟨0, 0, 0, .val .reg (.int .i64) (.sh false) x8⟩)]
noncomputable def spec_MakePile (a0 : (List Int)) (a1 : Int) (a2 : (Int × (List (Int × Int)))) (a3 : Int) : Option (List Int) := den Γ X 20 (a0, a1, a2, a3)
noncomputable def impl_within (a0 : Int) (a1 : Int) (a2 : Int) : Option Bool := den Γ X 21 (a0, a1, a2)
noncomputable def impl_EdgesOk (a0 : (Int × (List (Int × Int)))) : Option Bool := den Γ X 22 a0
noncomputable def impl_EdgesOk_l0 (x1 : (Int × (List (Int × Int)))) (x16 : (List (Int × Int))) (x17 : Int) (x18 : Int) : Option Bool := atF Γ (den Γ X) 22 [1, 1, 0, 1, 0] [(1, ⟨0, 0, 0, .val .box (.cons (.int .i64) (.sl (.cons (.int .i64) (.int .i64)))) (.sh true) x1⟩), (16, ⟨0, 0, 0, .val .reg (.sl (.cons (.int .i64) (.int .i64))) (.sh true) x16⟩), (17, ⟨0, 0, 0, .val .reg (.int .i64) (.sh false) x17⟩), (18, ⟨0, 0, 0, .val .reg (.int .i64) (.sh false) x18⟩)]
noncomputable def cmp_isNaN_int (a0 : Int) : Option Bool := den Γ X 23 a0
noncomputable def cmp_Compare_int (a0 : Int) (a1 : Int) : Option Int := den Γ X 24 (a0, a1)
noncomputable def impl_compareEdges (a0 : (Int × Int)) (a1 : (Int × Int)) : Option Int := den Γ X 25 (a0, a1)
noncomputable def impl_Edge__compareEdges (a0 : (List (Int × Int))) : Option Bool := den Γ X 26 a0
noncomputable def impl_Edge__compareEdges_l0 (x0 : (List (Int × Int))) (x5 : Int) : Option Bool := atF Γ (den Γ X) 26 [1, 0, 1, 0] [(0, ⟨0, 0, 0, .val .reg (.sl (.cons (.int .i64) (.int .i64))) (.sh true) x0⟩), (1, ⟨0, 0, 0, .fn 33 []⟩), (5, ⟨0, 0, 0, .val .reg (.int .i64) (.sh false) x5⟩)]
noncomputable def impl_connected (a0 : Int) (a1 : (List (Int × Int))) : Option Bool := den Γ X 27 (a0, a1)
noncomputable def impl_connected_l0 (x0 : Int) (x1 : (List (Int × Int))) (x5 : Int) (x8 : Int) (x9 : Int) : Option Bool := atF Γ (den Γ X) 27 [1, 1, 0, 1, 0] [(0, ⟨0, 0, 0, .val .reg (.int .i64) (.sh false) x0⟩), (1, ⟨0, 0, 0, .val .reg (.sl (.cons (.int .i64) (.int .i64))) (.sh true) x1⟩), (5, ⟨0, 0, 0, .val .reg (.int .i64) (.sh false) x5⟩), (8, ⟨0, 0, 0, .val .reg (.int .i64) (.sh false) x8⟩), (9, ⟨0, 0, 0, .val .reg (.int .i64) (.sh false) x9⟩)]
noncomputable def impl_connected_l2 (x0 : Int) (x1 : (List (Int × Int))) (x5 : Int) (x8 : Int) (x9 : Int) (x11 : (List (Int × Int))) (x12 : Int) (x13 : Int) : Option Bool := atF Γ (den Γ X) 27 [1, 1, 0, 1, 0, 0, 1, 1, 0, 0, 1, 0] [(0, ⟨0, 0, 0, .val .reg (.int .i64) (.sh false) x0⟩), (1, ⟨0, 0, 0, .val .reg (.sl (.cons (.int .i64) (.int .i64))) (.sh true) x1⟩), (5, ⟨0, 0, 0, .val .reg (.int .i64) (.sh false) x5⟩), (8, ⟨0, 0, 0, .val .reg (.int .i64) (.sh false) x8⟩), (9, ⟨0, 0, 0, .val .reg (.int .i64) (.sh false) x9⟩), (11, ⟨0, 0, 0, .val .reg (.sl (.cons (.int .i64) (.int .i64))) (.sh true) x11⟩), (12, ⟨0, 0, 0, .val .reg (.int .i64) (.sh false) x12⟩), (13, ⟨0, 0, 0, .val .reg (.int .i64) (.sh false) x13⟩)]
noncomputable def impl_GraphOk (a0 : (Int × (List (Int × Int)))) : Option Bool := den Γ X 28 a0
noncomputable def impl_allWithin (a0 : (List Int)) (a1 : Int) (a2 : Int) : Option Bool := den Γ X 29 (a0, a1, a2)
noncomputable def impl_allWithin_l0 (x1 : Int) (x2 : Int) (x9 : (List Int)) (x10 : Int) (x11 : Int) : Option Bool := atF Γ (den Γ X) 29 [1, 0, 1, 0] [(1, ⟨0, 0, 0, .val .reg (.int .i64) (.sh false) x1⟩), (2, ⟨0, 0, 0, .val .reg (.int .i64) (.sh false) x2⟩), (9, ⟨0, 0, 0, .val .reg (.sl (.int .i64)) (.sh true) x9⟩), (10, ⟨0, 0, 0, .val .reg (.int .i64) (.sh false) x10⟩), (11, ⟨0, 0, 0, .val .reg (.int .i64) (.sh false) x11⟩)]
noncomputable def impl_DivisorOk (a0 : (Int × (List (Int × Int)))) (a1 : (List Int)) : Option Bool := den Γ X 30 (a0, a1)
noncomputable def impl_sumOf (a0 : (List Int)) : Option Int := den Γ X 31 a0
noncomputable def impl_sumOf_l0 (x3 : Int) (x6 : (List Int)) (x7 : Int) (x8 : Int) : Option Int := atF Γ (den Γ X) 31 [1, 1, 0, 1, 0] [(3, ⟨0, 0, 0, .val .reg (.int .i64) (.sh false) x3⟩), (6, ⟨0, 0, 0, .val .reg (.sl (.int .i64)) (.sh true) x6⟩), (7, ⟨0, 0, 0, .val .reg (.int .i64) (.sh false) x7⟩), (8, ⟨0, 0, 0, .val .reg (.int .i64) (.sh false) x8⟩)]
noncomputable def impl_DegreeOf (a0 : (List Int)) : Option Int := den Γ X 32 a0
noncomputable def impl_copyInts (a0 : (List Int)) : Option (List Int) := den Γ X 33 a0
noncomputable def impl_inDebt (a0 : (List Int)) (a1 : Int) : Option Int := den Γ X 34 (a0, a1)
noncomputable def impl_inDebt_l0 (x1 : Int) (x7 : (List Int)) (x8 : Int) (x9 : Int) : Option Int := atF Γ (den Γ X) 34 [1, 0, 1, 0] [(1, ⟨0, 0, 0, .val .reg (.int .i64) (.sh false) x1⟩), (7, ⟨0, 0, 0, .val .reg (.sl (.int .i64)) (.sh true) x7⟩), (8, ⟨0, 0, 0, .val .reg (.int .i64) (.sh false) x8⟩), (9, ⟨0, 0, 0, .val .reg (.int .i64) (.sh false) x9⟩)]
noncomputable def impl_Valence (a0 : (Int × (List (Int × Int)))) (a1 : Int) : Option Int := den Γ X 35 (a0, a1)
noncomputable def impl_Valence_l0 (x1 : Int) (x5 : Int) (x17 : (List (Int × Int))) (x18 : Int) (x19 : Int) : Option Int := atF Γ (den Γ X) 35 [1, 1, 1, 0, 1, 0] [(1, ⟨0, 0, 0, .val .reg (.int .i64) (.sh false) x1⟩), (5, ⟨0, 0, 0, .val .reg (.int .i64) (.sh false) x5⟩), (17, ⟨0, 0, 0, .val .reg (.sl (.cons (.int .i64) (.int .i64))) (.sh true) x17⟩), (18, ⟨0, 0, 0, .val .reg (.int .i64) (.sh false) x18⟩), (19, ⟨0, 0, 0, .val .reg (.int .i64) (.sh false) x19⟩)]
noncomputable def impl_fire (a0 : (Int × (List (Int × Int)))) (a1 : (List Int)) (a2 : Int) (a3 : Int) : Option (List Int) := den Γ X 36 (a0, a1, a2, a3)
noncomputable def impl_fire_l0 (x1 : (List Int)) (x2 : Int) (x3 : Int) (x11 : (List (Int × Int))) (x12 : Int) (x13 : Int) : Option (List Int) := atF Γ (den Γ X) 36 [1, 1, 0] [(1, ⟨0, 0, 0, .val .reg (.sl (.int .i64)) (.own (.sh false)) x1⟩), (2, ⟨0, 0, 0, .val .reg (.int .i64) (.sh false) x2⟩), (3, ⟨0, 0, 0, .val .reg (.int .i64) (.sh false) x3⟩), (11, ⟨0, 0, 0, .val .reg (.sl (.cons (.int .i64) (.int .i64))) (.sh true) x11⟩), (12, ⟨0, 0, 0, .val .reg (.int .i64) (.sh false) x12⟩), (13, ⟨0, 0, 0, .val .reg (.int .i64) (.sh false) x13⟩)]
noncomputable def impl_Multiplicity (a0 : (Int × (List (Int × Int)))) (a1 : Int) (a2 : Int) : Option Int := den Γ X 37 (a0, a1, a2)
noncomputable def impl_Multiplicity_l0 (x1 : Int) (x2 : Int) (x7 : Int) (x28 : (List (Int × Int))) (x29 : Int) (x30 : Int) : Option Int := atF Γ (den Γ X) 37 [1, 1, 1, 0, 1, 0] [(1, ⟨0, 0, 0, .val .reg (.int .i64) (.sh false) x1⟩), (2, ⟨0, 0, 0, .val .reg (.int .i64) (.sh false) x2⟩), (7, ⟨0, 0, 0, .val .reg (.int .i64) (.sh false) x7⟩), (28, ⟨0, 0, 0, .val .reg (.sl (.cons (.int .i64) (.int .i64))) (.sh true) x28⟩), (29, ⟨0, 0, 0, .val .reg (.int .i64) (.sh false) x29⟩), (30, ⟨0, 0, 0, .val .reg (.int .i64) (.sh false) x30⟩)]
noncomputable def slices_Index_int_int (a0 : (List Int)) (a1 : Int) : Option Int := den Γ X 38 (a0, a1)
noncomputable def slices_Index_int_int_l0 (x0 : (List Int)) (x1 : Int) (x7 : Int) (x8 : Int) : Option Int := atF Γ (den Γ X) 38 [1, 0, 1, 0] [(0, ⟨0, 0, 0, .val .reg (.sl (.int .i64)) (.sh true) x0⟩), (1, ⟨0, 0, 0, .val .reg (.int .i64) (.sh false) x1⟩), (7, ⟨0, 0, 0, .val .reg (.int .i64) (.sh false) x7⟩), (8, ⟨0, 0, 0, .val .reg (.int .i64) (.sh false) x8⟩)]
noncomputable def slices_Contains_int_int (a0 : (List Int)) (a1 : Int) : Option Bool := den Γ X 39 (a0, a1)
noncomputable def impl_burn (a0 : (Int × (List (Int × Int)))) (a1 : (List Int)) (a2 : Int) : Option (List Int) := den Γ X 40 (a0, a1, a2)
noncomputable def impl_burn_l0 (x1 : (List Int)) (x3 : (Int × (List (Int × Int)))) (x7 : (List Int)) : Option (List Int) := atF Γ (den Γ X) 40 [1, 1, 0] [(1, ⟨0, 0, 0, .val .reg (.sl (.int .i64)) (.sh true) x1⟩), (3, ⟨0, 0, 0, .val .box (.cons (.int .i64) (.sl (.cons (.int .i64) (.int .i64)))) (.sh true) x3⟩), (7, ⟨0, 0, 0, .val .reg (.sl (.int .i64)) (.own (.sh false)) x7⟩)]
noncomputable def impl_burn_l2 (x1 : (List Int)) (x3 : (Int × (List (Int × Int)))) (x7 : (List Int)) (x8 : Int) (x9 : Int) : Option (List Int) := atF Γ (den Γ X) 40 [1, 1, 0, 0, 0, 1, 0, 1, 0] [(1, ⟨0, 0, 0, .val .reg (.sl (.int .i64)) (.sh true) x1⟩), (3, ⟨0, 0, 0, .val .box (.cons (.int .i64) (.sl (.cons (.int .i64) (.int .i64)))) (.sh true) x3⟩), (7, ⟨0, 0, 0, .val .reg (.sl (.int .i64)) (.own (.sh false)) x7⟩), (8, ⟨0, 0, 0, .val .reg (.int .i64) (.sh false) x8⟩), (9, ⟨0, 0, 0, .val .reg (.int .i64) (.sh false) x9⟩)]
noncomputable def impl_burn_l4 (x1 : (List Int)) (x3 : (Int × (List (Int × Int)))) (x7 : (List Int)) (x8 : Int) (x9 : Int) (x10 : Int) (x26 : Int) (x27 : Int) : Option (List Int) := atF Γ (den Γ X) 40 [1, 1, 0, 0, 0, 1, 0, 1, 0, 0, 1, 0, 0, 1, 0, 1, 0] [(1, ⟨0, 0, 0, .val .reg (.sl (.int .i64)) (.sh true) x1⟩), (3, ⟨0, 0, 0, .val .box (.cons (.int .i64) (.sl (.cons (.int .i64) (.int .i64)))) (.sh true) x3⟩), (7, ⟨0, 0, 0, .val .reg (.sl (.int .i64)) (.own (.sh false)) x7⟩), (8, ⟨0, 0, 0, .val .reg (.int .i64) (.sh false) x8⟩), (9, ⟨0, 0, 0, .val .reg (.int .i64) (.sh false) x9⟩), (10, ⟨0, 0, 0, .val .reg (.int .i64) (.sh false) x10⟩), (25, ⟨0, 0, 0, .ref .ali 7 0 0 0 [] (.sl (.int .i64))⟩), (26, ⟨0, 0, 0, .val .reg (.int .i64) (.sh false) x26⟩), (27, ⟨0, 0, 0, .val .reg (.int .i64) (.sh false) x27⟩)]
noncomputable def impl_reduce (a0 : (Int × (List (Int × Int)))) (a1 : (List Int)) (a2 : Int) : Option ((List Int) × (List Int)) := den Γ X 41 (a0, a1, a2)
noncomputable def impl_reduce_l0 (x2 : Int) (x3 : (Int × (List (Int × Int)))) (x8 : (List Int)) (x9 : (List Int)) (x10 : Int) : Option ((List Int) × (List Int)) := atF Γ (den Γ X) 41 [1, 1, 1, 0, 1, 0] [(2, ⟨0, 0, 0, .val .reg (.int .i64) (.sh false) x2⟩), (3, ⟨0, 0, 0, .val .box (.cons (.int .i64) (.sl (.cons (.int .i64) (.int .i64)))) (.sh true) x3⟩), (8, ⟨0, 0, 0, .val .reg (.sl (.int .i64)) (.own (.sh false)) x8⟩), (9, ⟨0, 0, 0, .val .reg (.sl (.int .i64)) (.own (.sh false)) x9⟩), (10, ⟨0, 0, 0, .val .reg (.int .i64) (.sh false) x10⟩)]
noncomputable def impl_reduce_l2 (x2 : Int) (x3 : (Int × (List (Int × Int)))) (x8 : (List Int)) (x9 : (List Int)) : Option ((List Int) × (List Int)) := atF Γ (den Γ X) 41 [1, 1, 1, 1, 0] [(2, ⟨0, 0, 0, .val .reg (.int .i64) (.sh false) x2⟩), (3, ⟨0, 0, 0, .val .box (.cons (.int .i64) (.sl (.cons (.int .i64) (.int .i64)))) (.sh true) x3⟩), (8, ⟨0, 0, 0, .val .reg (.sl (.int .i64)) (.own (.sh false)) x8⟩), (9, ⟨0, 0, 0, .val .reg (.sl (.int .i64)) (.own (.sh false)) x9⟩)]
noncomputable def impl_reduce_l4 (x2 : Int) (x3 : (Int × (List (Int × Int)))) (x8 : (List Int)) (x9 : (List Int)) (x13 : (List Int)) (x65 : Int) (x66 : Int) : Option ((List Int) × (List Int)) := atF Γ (den Γ X) 41 [1, 1, 1, 1, 0, 0, 0, 1, 1, 1, 0] [(2, ⟨0, 0, 0, .val .reg (.int .i64) (.sh false) x2⟩), (3, ⟨0, 0, 0, .val .box (.cons (.int .i64) (.sl (.cons (.int .i64) (.int .i64)))) (.sh true) x3⟩), (8, ⟨0, 0, 0, .val .reg (.sl (.int .i64)) (.own (.sh false)) x8⟩), (9, ⟨0, 0, 0, .val .reg (.sl (.int .i64)) (.own (.sh false)) x9⟩), (13, ⟨0, 0, 0, .val .reg (.sl (.int .i64)) (.own (.sh false)) x13⟩), (65, ⟨0, 0, 0, .val .reg (.int .i64) (.sh false) x65⟩), (66, ⟨0, 0, 0, .val .reg (.int .i64) (.sh false) x66⟩)]
noncomputable def strconv_Itoa (a0 : Int) : Option ByteArray := den Γ X 42 a0
noncomputable def impl_FormatInt (a0 : Int) : Option ByteArray := den Γ X 43 a0
noncomputable def strings_Join (a0 : (List ByteArray)) (a1 : ByteArray) : Option ByteArray := den Γ X 44 (a0, a1)
noncomputable def impl_Join (a0 : (List ByteArray)) (a1 : ByteArray) : Option ByteArray := den Γ X 45 (a0, a1)
noncomputable def impl_FormatDivisor (a0 : (List Int)) : Option ByteArray := den Γ X 46 a0
noncomputable def impl_FormatDivisor_l0 (x3 : (List ByteArray)) (x9 : (List Int)) (x10 : Int) (x11 : Int) : Option ByteArray := atF Γ (den Γ X) 46 [1, 1, 1, 0, 1, 0] [(3, ⟨0, 0, 0, .val .reg (.sl .str) (.own (.sh false)) x3⟩), (9, ⟨0, 0, 0, .val .reg (.sl (.int .i64)) (.sh true) x9⟩), (10, ⟨0, 0, 0, .val .reg (.int .i64) (.sh false) x10⟩), (11, ⟨0, 0, 0, .val .reg (.int .i64) (.sh false) x11⟩)]
noncomputable def impl_IsEffective (a0 : (List Int)) : Option Bool := den Γ X 47 a0
noncomputable def impl_IsEffective_l0 (x5 : (List Int)) (x6 : Int) (x7 : Int) : Option Bool := atF Γ (den Γ X) 47 [1, 0, 1, 0] [(5, ⟨0, 0, 0, .val .reg (.sl (.int .i64)) (.sh true) x5⟩), (6, ⟨0, 0, 0, .val .reg (.int .i64) (.sh false) x6⟩), (7, ⟨0, 0, 0, .val .reg (.int .i64) (.sh false) x7⟩)]
noncomputable def slices_SortFunc_int_int__Compare_int_int (a0 : (List (List Int))) : Option (List (List Int)) := den Γ X 48 a0
noncomputable def impl_effectiveIn (a0 : (Int × (List (Int × Int)))) (a1 : (List Int)) : Option (List (List Int)) := den Γ X 49 (a0, a1)
noncomputable def impl_effectiveIn_l0 (x2 : (Int × (List (Int × Int)))) (x8 : (List (List Int))) (x10 : Int) (x32 : (List (ByteArray × Int))) : Option (List (List Int)) := atF Γ (den Γ X) 49 [1, 1, 1, 1, 1, 1, 0, 1, 0] [(2, ⟨0, 0, 0, .val .box (.cons (.int .i64) (.sl (.cons (.int .i64) (.int .i64)))) (.sh true) x2⟩), (8, ⟨0, 0, 0, .val .reg (.sl (.sl (.int .i64))) (.own (.sh false)) x8⟩), (9, ⟨0, 0, 0, .ref .ali 32 0 0 0 [] (.sl (.cons .str (.int .i64)))⟩), (10, ⟨0, 0, 0, .val .reg (.int .i64) (.sh false) x10⟩), (32, ⟨0, 0, 0, .val .map (.sl (.cons .str (.int .i64))) .gone x32⟩)]
noncomputable def impl_effectiveIn_l2 (x2 : (Int × (List (Int × Int)))) (x8 : (List (List Int))) (x10 : Int) (x11 : Int) (x32 : (List (ByteArray × Int))) : Option (List (List Int)) := atF Γ (den Γ X) 49 [1, 1, 1, 1, 1, 1, 0, 1, 0, 0, 1, 0, 0, 1, 0] [(2, ⟨0, 0, 0, .val .box (.cons (.int .i64) (.sl (.cons (.int .i64) (.int .i64)))) (.sh true) x2⟩), (8, ⟨0, 0, 0, .val .reg (.sl (.sl (.int .i64))) (.own (.sh false)) x8⟩), (9, ⟨0, 0, 0, .ref .ali 32 0 0 0 [] (.sl (.cons .str (.int .i64)))⟩), (10, ⟨0, 0, 0, .val .reg (.int .i64) (.sh false) x10⟩), (11, ⟨0, 0, 0, .val .reg (.int .i64) (.sh false) x11⟩), (32, ⟨0, 0, 0, .val .map (.sl (.cons .str (.int .i64))) .gone x32⟩)]
noncomputable def impl_effectiveIn_l4 (x2 : (Int × (List (Int × Int)))) (x8 : (List (List Int))) (x10 : Int) (x11 : Int) (x12 : (List Int)) (x32 : (List (ByteArray × Int))) (x56 : Int) (x57 : Int) : Option (List (List Int)) := atF Γ (den Γ X) 49 [1, 1, 1, 1, 1, 1, 0, 1, 0, 0, 1, 0, 0, 1, 0, 0, 1, 0, 0, 1, 0, 1, 0] [(2, ⟨0, 0, 0, .val .box (.cons (.int .i64) (.sl (.cons (.int .i64) (.int .i64)))) (.sh true) x2⟩), (8, ⟨0, 0, 0, .val .reg (.sl (.sl (.int .i64))) (.own (.sh false)) x8⟩), (9, ⟨0, 0, 0, .ref .ali 32 0 0 0 [] (.sl (.cons .str (.int .i64)))⟩), (10, ⟨0, 0, 0, .val .reg (.int .i64) (.sh false) x10⟩), (11, ⟨0, 0, 0, .val .reg (.int .i64) (.sh false) x11⟩), (12, ⟨0, 0, 0, .val .reg (.sl (.int .i64)) (.own (.sh false)) x12⟩), (32, ⟨0, 0, 0, .val .map (.sl (.cons .str (.int .i64))) .gone x32⟩), (56, ⟨0, 0, 0, .val .reg (.int .i64) (.sh false) x56⟩), (57, ⟨0, 0, 0, .val .reg (.int .i64) (.sh false) x57⟩)]
noncomputable def impl_effective (a0 : Int) (a1 : Int) : Option (List (List Int)) := den Γ X 50 (a0, a1)
noncomputable def impl_effective_l0 (x0 : Int) (x1 : Int) (x5 : (List (List Int))) (x6 : Int) : Option (List (List Int)) := atF Γ (den Γ X) 50 [1, 1, 1, 0, 1, 0] [(0, ⟨0, 0, 0, .val .reg (.int .i64) (.sh false) x0⟩), (1, ⟨0, 0, 0, .val .reg (.int .i64) (.sh false) x1⟩), (5, ⟨0, 0, 0, .val .reg (.sl (.sl (.int .i64))) (.own (.sh false)) x5⟩), (6, ⟨0, 0, 0, .val .reg (.int .i64) (.sh false) x6⟩)]
noncomputable def impl_effective_l2 (x0 : Int) (x1 : Int) (x5 : (List (List Int))) (x6 : Int) (x24 : (List (List Int))) (x25 : Int) (x26 : Int) : Option (List (List Int)) := atF Γ (den Γ X) 50 [1, 1, 1, 0, 1, 0, 0, 1, 0, 0, 1, 0] [(0, ⟨0, 0, 0, .val .reg (.int .i64) (.sh false) x0⟩), (1, ⟨0, 0, 0, .val .reg (.int .i64) (.sh false) x1⟩), (5, ⟨0, 0, 0, .val .reg (.sl (.sl (.int .i64))) (.own (.sh false)) x5⟩), (6, ⟨0, 0, 0, .val .reg (.int .i64) (.sh false) x6⟩), (24, ⟨0, 0, 0, .val .reg (.sl (.sl (.int .i64))) (.own (.sh false)) x24⟩), (25, ⟨0, 0, 0, .val .reg (.int .i64) (.sh false) x25⟩), (26, ⟨0, 0, 0, .val .reg (.int .i64) (.sh false) x26⟩)]
noncomputable def impl_covers (a0 : (List Int)) (a1 : (List Int)) : Option Bool := den Γ X 51 (a0, a1)
noncomputable def impl_covers_l0 (x0 : (List Int)) (x7 : (List Int)) (x8 : Int) (x9 : Int) : Option Bool := atF Γ (den Γ X) 51 [1, 0, 1, 0] [(0, ⟨0, 0, 0, .val .reg (.sl (.int .i64)) (.sh true) x0⟩), (7, ⟨0, 0, 0, .val .reg (.sl (.int .i64)) (.sh true) x7⟩), (8, ⟨0, 0, 0, .val .reg (.int .i64) (.sh false) x8⟩), (9, ⟨0, 0, 0, .val .reg (.int .i64) (.sh false) x9⟩)]
noncomputable def impl_rank_1 (a0 : (List Int)) (a1 : (List Int)) : Option Bool := den Γ X 52 (a0, a1)
noncomputable def slices_IndexFunc_int_int__rank_1 (a0 : (List (List Int))) (a1 : (List Int)) : Option Int := den Γ X 53 (a0, a1)
noncomputable def slices_IndexFunc_int_int__rank_1_l0 (x0 : (List (List Int))) (x1 : (List Int)) (x7 : Int) (x8 : Int) : Option Int := atF Γ (den Γ X) 53 [1, 0, 1, 0] [(0, ⟨0, 0, 0, .val .reg (.sl (.sl (.int .i64))) (.sh true) x0⟩), (1, ⟨0, 0, 0, .val (.pin (some 73)) (.sl (.int .i64)) (.sh true) x1⟩), (7, ⟨0, 0, 0, .val .reg (.int .i64) (.sh false) x7⟩), (8, ⟨0, 0, 0, .val .reg (.int .i64) (.sh false) x8⟩)]
noncomputable def slices_ContainsFunc_int_int__rank_1 (a0 : (List (List Int))) (a1 : (List Int)) : Option Bool := den Γ X 54 (a0, a1)
noncomputable def impl_rank (a0 : (Int × (List (Int × Int)))) (a1 : (List Int)) : Option (Int × (List Int)) := den Γ X 55 (a0, a1)
noncomputable def impl_rank_l0 (x2 : (Int × (List (Int × Int)))) (x6 : (List (List Int))) (x7 : Int) : Option (Int × (List Int)) := atF Γ (den Γ X) 55 [1, 1, 1, 0] [(2, ⟨0, 0, 0, .val .box (.cons (.int .i64) (.sl (.cons (.int .i64) (.int .i64)))) (.sh true) x2⟩), (6, ⟨0, 0, 0, .val .reg (.sl (.sl (.int .i64))) (.own (.sh false)) x6⟩), (7, ⟨0, 0, 0, .val .reg (.int .i64) (.sh false) x7⟩)]
noncomputable def impl_rank_l2 (x2 : (Int × (List (Int × Int)))) (x6 : (List (List Int))) (x7 : Int) (x18 : (List (List Int))) (x19 : Int) (x20 : Int) : Option (Int × (List Int)) := atF Γ (den Γ X) 55 [1, 1, 1, 0, 0, 0, 0, 1, 0] [(2, ⟨0, 0, 0, .val .box (.cons (.int .i64) (.sl (.cons (.int .i64) (.int .i64)))) (.sh true) x2⟩), (6, ⟨0, 0, 0, .val .reg (.sl (.sl (.int .i64))) (.own (.sh false)) x6⟩), (7, ⟨0, 0, 0, .val .reg (.int .i64) (.sh false) x7⟩), (18, ⟨0, 0, 0, .val .reg (.sl (.sl (.int .i64))) (.own (.sh false)) x18⟩), (19, ⟨0, 0, 0, .val .reg (.int .i64) (.sh false) x19⟩), (20, ⟨0, 0, 0, .val .reg (.int .i64) (.sh false) x20⟩)]
noncomputable def impl_RankOf (a0 : (Int × (List (Int × Int)))) (a1 : (List Int)) : Option (Int × Bool) := den Γ X 56 (a0, a1)
noncomputable def impl_RankWitness (a0 : (Int × (List (Int × Int)))) (a1 : (List Int)) : Option ((List Int) × Bool) := den Γ X 57 (a0, a1)
noncomputable def impl_ListLines (a0 : (List (List Int))) : Option (List ByteArray) := den Γ X 58 a0
noncomputable def impl_ListLines_l0 (x3 : (List ByteArray)) (x6 : (List (List Int))) (x7 : Int) (x8 : Int) : Option (List ByteArray) := atF Γ (den Γ X) 58 [1, 1, 0, 1, 0] [(3, ⟨0, 0, 0, .val .reg (.sl .str) (.own (.sh false)) x3⟩), (6, ⟨0, 0, 0, .val .reg (.sl (.sl (.int .i64))) (.sh true) x6⟩), (7, ⟨0, 0, 0, .val .reg (.int .i64) (.sh false) x7⟩), (8, ⟨0, 0, 0, .val .reg (.int .i64) (.sh false) x8⟩)]
noncomputable def impl_RankLine (a0 : (Int × (List (Int × Int)))) (a1 : (List Int)) : Option ByteArray := den Γ X 59 (a0, a1)
noncomputable def impl_PileOk (a0 : (Int × (List (Int × Int)))) (a1 : (List Int)) (a2 : Int) : Option Bool := den Γ X 60 (a0, a1, a2)
noncomputable def impl_unstable (a0 : (Int × (List (Int × Int)))) (a1 : (List Int)) (a2 : Int) : Option Int := den Γ X 61 (a0, a1, a2)
noncomputable def impl_unstable_l0 (x2 : Int) (x3 : (Int × (List (Int × Int)))) (x9 : (List Int)) (x10 : Int) (x11 : Int) : Option Int := atF Γ (den Γ X) 61 [1, 0, 1, 0] [(2, ⟨0, 0, 0, .val .reg (.int .i64) (.sh false) x2⟩), (3, ⟨0, 0, 0, .val .box (.cons (.int .i64) (.sl (.cons (.int .i64) (.int .i64)))) (.sh true) x3⟩), (9, ⟨0, 0, 0, .val .reg (.sl (.int .i64)) (.sh true) x9⟩), (10, ⟨0, 0, 0, .val .reg (.int .i64) (.sh false) x10⟩), (11, ⟨0, 0, 0, .val .reg (.int .i64) (.sh false) x11⟩)]
noncomputable def impl_stabilize (a0 : (Int × (List (Int × Int)))) (a1 : (List Int)) (a2 : Int) : Option ((List Int) × (List Int)) := den Γ X 62 (a0, a1, a2)
noncomputable def impl_stabilize_l0 (x2 : Int) (x3 : (Int × (List (Int × Int)))) (x8 : (List Int)) (x9 : (List Int)) (x10 : Int) : Option ((List Int) × (List Int)) := atF Γ (den Γ X) 62 [1, 1, 1, 0, 1, 0] [(2, ⟨0, 0, 0, .val .reg (.int .i64) (.sh false) x2⟩), (3, ⟨0, 0, 0, .val .box (.cons (.int .i64) (.sl (.cons (.int .i64) (.int .i64)))) (.sh true) x3⟩), (8, ⟨0, 0, 0, .val .reg (.sl (.int .i64)) (.own (.sh false)) x8⟩), (9, ⟨0, 0, 0, .val .reg (.sl (.int .i64)) (.own (.sh false)) x9⟩), (10, ⟨0, 0, 0, .val .reg (.int .i64) (.sh false) x10⟩)]
noncomputable def impl_Stabilize (a0 : (Int × (List (Int × Int)))) (a1 : (List Int)) (a2 : Int) : Option ((List Int) × ((List Int) × Bool)) := den Γ X 63 (a0, a1, a2)
noncomputable def impl_IsStable (a0 : (Int × (List (Int × Int)))) (a1 : (List Int)) (a2 : Int) : Option Bool := den Γ X 64 (a0, a1, a2)
noncomputable def slices_Equal_int_int (a0 : (List Int)) (a1 : (List Int)) : Option Bool := den Γ X 65 (a0, a1)
noncomputable def slices_Equal_int_int_l0 (x0 : (List Int)) (x1 : (List Int)) (x12 : Int) (x13 : Int) : Option Bool := atF Γ (den Γ X) 65 [1, 1, 0, 1, 0] [(0, ⟨0, 0, 0, .val .reg (.sl (.int .i64)) (.sh true) x0⟩), (1, ⟨0, 0, 0, .val .reg (.sl (.int .i64)) (.sh true) x1⟩), (12, ⟨0, 0, 0, .val .reg (.int .i64) (.sh false) x12⟩), (13, ⟨0, 0, 0, .val .reg (.int .i64) (.sh false) x13⟩)]
noncomputable def impl_SameDivisor (a0 : (List Int)) (a1 : (List Int)) : Option Bool := den Γ X 66 (a0, a1)
noncomputable def impl_IsRecurrent (a0 : (Int × (List (Int × Int)))) (a1 : (List Int)) (a2 : Int) : Option Bool := den Γ X 67 (a0, a1, a2)
noncomputable def impl_IsRecurrent_l0 (x1 : (List Int)) (x2 : Int) (x8 : (List Int)) (x9 : (List Int)) (x34 : Int) (x35 : Int) : Option Bool := atF Γ (den Γ X) 67 [1, 1, 1, 1, 1, 1, 0, 1, 0] [(1, ⟨0, 0, 0, .val .reg (.sl (.int .i64)) (.sh true) x1⟩), (2, ⟨0, 0, 0, .val .reg (.int .i64) (.sh false) x2⟩), (8, ⟨0, 0, 0, .val .reg (.sl (.int .i64)) (.own (.sh false)) x8⟩), (9, ⟨0, 0, 0, .val .reg (.sl (.int .i64)) (.own (.sh false)) x9⟩), (33, ⟨0, 0, 0, .ref .ali 9 0 0 0 [] (.sl (.int .i64))⟩), (34, ⟨0, 0, 0, .val .reg (.int .i64) (.sh false) x34⟩), (35, ⟨0, 0, 0, .val .reg (.int .i64) (.sh false) x35⟩)]
noncomputable def impl_PileLine (a0 : (Int × (List (Int × Int)))) (a1 : (List Int)) (a2 : Int) : Option ByteArray := den Γ X 68 (a0, a1, a2)
noncomputable def impl_isVertex (a0 : (Int × (List (Int × Int)))) (a1 : Int) : Option Bool := den Γ X 69 (a0, a1)
noncomputable def impl_LaplacianOf (a0 : (Int × (List (Int × Int)))) : Option (List (List Int)) := den Γ X 70 a0
noncomputable def impl_LaplacianOf_l0 (x1 : (Int × (List (Int × Int)))) (x3 : (List (List Int))) (x4 : Int) : Option (List (List Int)) := atF Γ (den Γ X) 70 [1, 1, 1, 0, 1, 0] [(1, ⟨0, 0, 0, .val .box (.cons (.int .i64) (.sl (.cons (.int .i64) (.int .i64)))) (.sh true) x1⟩), (3, ⟨0, 0, 0, .val .reg (.sl (.sl (.int .i64))) (.own (.own (.sh false))) x3⟩), (4, ⟨0, 0, 0, .val .reg (.int .i64) (.sh false) x4⟩)]
noncomputable def impl_LaplacianOf_l2 (x1 : (Int × (List (Int × Int)))) (x3 : (List (List Int))) (x4 : Int) (x5 : (List Int)) (x20 : Int) (x21 : Int) : Option (List (List Int)) := atF Γ (den Γ X) 70 [1, 1, 1, 0, 1, 0, 0, 1, 0, 0, 1, 0, 1, 0] [(1, ⟨0, 0, 0, .val .box (.cons (.int .i64) (.sl (.cons (.int .i64) (.int .i64)))) (.sh true) x1⟩), (3, ⟨0, 0, 0, .val .reg (.sl (.sl (.int .i64))) (.own (.own (.sh false))) x3⟩), (4, ⟨0, 0, 0, .val .reg (.int .i64) (.sh false) x4⟩), (5, ⟨0, 0, 0, .val .reg (.sl (.int .i64)) (.own (.sh false)) x5⟩), (20, ⟨0, 0, 0, .val .reg (.int .i64) (.sh false) x20⟩), (21, ⟨0, 0, 0, .val .reg (.int .i64) (.sh false) x21⟩)]
noncomputable def impl_ReducedLaplacian (a0 : (Int × (List (Int × Int)))) (a1 : Int) : Option (List (List Int)) := den Γ X 71 (a0, a1)
noncomputable def impl_MatrixOk (a0 : (List (List Int))) : Option Bool := den Γ X 72 a0
noncomputable def impl_MatrixOk_l0 (x0 : (List (List Int))) (x8 : (List (List Int))) (x9 : Int) (x10 : Int) : Option Bool := atF Γ (den Γ X) 72 [1, 1, 0, 1, 0] [(0, ⟨0, 0, 0, .val .reg (.sl (.sl (.int .i64))) (.sh true) x0⟩), (8, ⟨0, 0, 0, .val .reg (.sl (.sl (.int .i64))) (.sh true) x8⟩), (9, ⟨0, 0, 0, .val .reg (.int .i64) (.sh false) x9⟩), (10, ⟨0, 0, 0, .val .reg (.int .i64) (.sh false) x10⟩)]
noncomputable def impl_bitsOf (a0 : Int) : Option (List Int) := den Γ X 73 a0
noncomputable def impl_bitsOf_l0 (x0 : Int) (x3 : (List Int)) (x4 : Int) : Option (List Int) := atF Γ (den Γ X) 73 [1, 1, 0, 1, 0] [(0, ⟨0, 0, 0, .val .reg (.int .i64) (.sh false) x0⟩), (3, ⟨0, 0, 0, .val .reg (.sl (.int .i64)) (.own (.sh false)) x3⟩), (4, ⟨0, 0, 0, .val .reg (.int .i64) (.sh false) x4⟩)]
noncomputable def impl_determinant (a0 : (List (List Int))) (a1 : (List Int)) (a2 : Int) : Option Int := den Γ X 74 (a0, a1, a2)
noncomputable def impl_determinant_l0 (x0 : (List (List Int))) (x1 : (List Int)) (x2 : Int) (x7 : Int) (x8 : Int) (x19 : (List Int)) (x20 : Int) (x21 : Int) : Option Int := atF Γ (den Γ X) 74 [1, 1, 1, 0, 1, 0] [(0, ⟨0, 0, 0, .val .reg (.sl (.sl (.int .i64))) (.sh true) x0⟩), (1, ⟨0, 0, 0, .val .reg (.sl (.int .i64)) (.sh true) x1⟩), (2, ⟨0, 0, 0, .val .reg (.int .i64) (.sh false) x2⟩), (7, ⟨0, 0, 0, .val .reg (.int .i64) (.sh false) x7⟩), (8, ⟨0, 0, 0, .val .reg (.int .i64) (.sh false) x8⟩), (19, ⟨0, 0, 0, .val .reg (.sl (.int .i64)) (.sh true) x19⟩), (20, ⟨0, 0, 0, .val .reg (.int .i64) (.sh false) x20⟩), (21, ⟨0, 0, 0, .val .reg (.int .i64) (.sh false) x21⟩)]
noncomputable def impl_magnitude (a0 : Int) : Option Int := den Γ X 75 a0
noncomputable def impl_divisor (a0 : Int) (a1 : Int) : Option Int := den Γ X 76 (a0, a1)
noncomputable def impl_divisor_l0 (x0 : Int) (x1 : Int) : Option Int := atF Γ (den Γ X) 76 [1, 0, 0] [(0, ⟨0, 0, 0, .val .reg (.int .i64) (.sh false) x0⟩), (1, ⟨0, 0, 0, .val .reg (.int .i64) (.sh false) x1⟩)]
noncomputable def impl_InvariantFactors (a0 : (List (List Int))) : Option (List Int) := den Γ X 77 a0
noncomputable def impl_InvariantFactors_l0 (x0 : (List (List Int))) (x3 : (List Int)) (x4 : Int) : Option (List Int) := atF Γ (den Γ X) 77 [1, 1, 1, 0, 1, 0] [(0, ⟨0, 0, 0, .val .reg (.sl (.sl (.int .i64))) (.sh true) x0⟩), (3, ⟨0, 0, 0, .val .reg (.sl (.int .i64)) (.own (.sh false)) x3⟩), (4, ⟨0, 0, 0, .val .reg (.int .i64) (.sh false) x4⟩)]
noncomputable def impl_InvariantFactors_l2 (x0 : (List (List Int))) (x3 : (List Int)) (x4 : Int) (x5 : (List Int)) (x6 : Int) : Option (List Int) := atF Γ (den Γ X) 77 [1, 1, 1, 0, 1, 0, 0, 1, 0, 0, 1, 1, 0] [(0, ⟨0, 0, 0, .val .reg (.sl (.sl (.int .i64))) (.sh true) x0⟩), (3, ⟨0, 0, 0, .val .reg (.sl (.int .i64)) (.own (.sh false)) x3⟩), (4, ⟨0, 0, 0, .val .reg (.int .i64) (.sh false) x4⟩), (5, ⟨0, 0, 0, .val .reg (.sl (.int .i64)) (.own (.sh false)) x5⟩), (6, ⟨0, 0, 0, .val .reg (.int .i64) (.sh false) x6⟩)]
noncomputable def impl_InvariantFactors_l4 (x3 : (List Int)) (x7 : (List Int)) (x58 : Int) (x59 : Int) : Option (List Int) := atF Γ (den Γ X) 77 [1, 1, 1, 1, 1, 0, 1, 0] [(3, ⟨0, 0, 0, .val .reg (.sl (.int .i64)) (.own (.sh false)) x3⟩), (7, ⟨0, 0, 0, .val .reg (.sl (.int .i64)) (.own (.sh false)) x7⟩), (58, ⟨0, 0, 0, .val .reg (.int .i64) (.sh false) x58⟩), (59, ⟨0, 0, 0, .val .reg (.int .i64) (.sh false) x59⟩)]
noncomputable def impl_GroupFactors (a0 : (Int × (List (Int × Int)))) : Option (List Int) := den Γ X 78 a0
noncomputable def impl_GroupFactors_l0 (x3 : (List Int)) (x11 : (List Int)) (x12 : Int) (x13 : Int) : Option (List Int) := atF Γ (den Γ X) 78 [1, 1, 1, 0, 1, 0] [(3, ⟨0, 0, 0, .val .reg (.sl (.int .i64)) (.own (.sh false)) x3⟩), (11, ⟨0, 0, 0, .val .reg (.sl (.int .i64)) (.own (.sh false)) x11⟩), (12, ⟨0, 0, 0, .val .reg (.int .i64) (.sh false) x12⟩), (13, ⟨0, 0, 0, .val .reg (.int .i64) (.sh false) x13⟩)]
noncomputable def impl_GenusOf (a0 : (Int × (List (Int × Int)))) : Option Int := den Γ X 79 a0
noncomputable def impl_Determinant (a0 : (List (List Int))) : Option Int := den Γ X 80 a0
noncomputable def impl_CountTrees (a0 : (Int × (List (Int × Int)))) : Option Int := den Γ X 81 a0
noncomputable def impl_GraphLine (a0 : (Int × (List (Int × Int)))) : Option ByteArray := den Γ X 82 a0
noncomputable def laws_FnReports (a0 : (List Int)) : Option Bool := den Γ X 83 a0
noncomputable def laws_FnReports_c10 (x3 : (Int × (List (Int × Int)))) (x4 : (List Int)) (x5 : Int) (x6 : (List Int)) (x7 : Int) (x8 : Bool) (x9 : (List Int)) (x10 : Bool) (x11 : (List ByteArray)) : Option Bool := atF Γ (den Γ X) 83 [1, 1, 1, 1, 1, 1, 1, 1, 1, 0] [(3, ⟨0, 0, 0, .val .box (.cons (.int .i64) (.sl (.cons (.int .i64) (.int .i64)))) (.pr (.sh false) (.own (.pr (.sh false) (.sh false)))) x3⟩), (4, ⟨0, 0, 0, .val .reg (.sl (.int .i64)) (.sh false) x4⟩), (5, ⟨0, 0, 0, .val .reg (.int .i64) (.sh false) x5⟩), (6, ⟨0, 0, 0, .val .reg (.sl (.int .i64)) (.own (.sh false)) x6⟩), (7, ⟨0, 0, 0, .val .reg (.int .i64) (.sh false) x7⟩), (8, ⟨0, 0, 0, .val .reg .bool (.sh false) x8⟩), (9, ⟨0, 0, 0, .val .reg (.sl (.int .i64)) (.sh false) x9⟩), (10, ⟨0, 0, 0, .val .reg .bool (.sh false) x10⟩), (11, ⟨0, 0, 0, .val .reg (.sl .str) (.own (.sh false)) x11⟩)]
end Go.Proofs.YtgncajnfphlgeaaGreatDoor.D

/-
  What the evaluator is told of this program: its types, the functions that the laws reach; each function as a plain Lean function.
-/
import Derived.Test.YthhogfhffpfkdaaGreatDoorProg
import Derived.Test.YthhogfhffpfkdaaGreatDoorLb
import Derived.KernelRfl
namespace Go.Proofs.YthhogfhffpfkdaaGreatDoor.D
open Go Go.Den
set_option linter.unusedVariables false
set_option maxRecDepth 100000
abbrev YZ : Ty := (.sl .str)
abbrev YI : Ty := (.int .i64)
abbrev YL : Ty := (.sl YI)
abbrev YM : Ty := (.sl YL)
abbrev YE : Ty := (.cons YI YI)
abbrev YS : Ty := (.sl YE)
abbrev YG : Ty := (.cons YI YS)
abbrev YC : Ty := (.cons YG (.cons YL YI))
abbrev MT : Md := (.sh true)
abbrev MF : Md := (.sh false)
abbrev MO : Md := (.own MF)
abbrev MP : Md := (.pr MF MF)
abbrev MG : Md := (.pr MF (.own MP))
abbrev ZS : Type := (List (Int × Int))
abbrev ZG : Type := (Int × ZS)
abbrev ZC : Type := (ZG × ((List Int) × Int))
abbrev A139 : Ty := (.cons YI (.cons YI (.cons YI (.cons YI (.cons YI (.cons YI (.cons YI (.cons YI (.cons YI (.cons YI (.cons YI (.cons YI (.cons YI (.cons YI YE))))))))))))))
abbrev A140 : Ty := (.cons A139 (.cons A139 (.cons A139 (.cons A139 (.cons A139 (.cons A139 (.cons A139 (.cons A139 (.cons A139 (.cons A139 (.cons A139 (.cons A139 (.cons A139 (.cons A139 (.cons A139 A139)))))))))))))))
def tys : List (Option TInfo) := [
  none,
  none,
  some ⟨YI, [], false⟩,
  some ⟨YI, [], false⟩,
  some ⟨.bool, [], false⟩,
  some ⟨(.int .u8), [], false⟩,
  some ⟨(.int .u8), [], false⟩,
  some ⟨(.cons YI (.cons YI (.cons .bool (.int .u8)))), [([.l], YI), ([.r, .l], YI), ([.r, .r, .l], .bool), ([.r, .r, .r], (.int .u8))], true⟩,
  some ⟨(.cons YI (.cons YI (.cons .bool (.int .u8)))), [([.l], YI), ([.r, .l], YI), ([.r, .r, .l], .bool), ([.r, .r, .r], (.int .u8))], true⟩,
  some ⟨.str, [], false⟩,
  some ⟨.str, [], false⟩,
  some ⟨.str, [], false⟩,
  some ⟨(.int .u64), [], false⟩,
  some ⟨(.cons .str (.int .u64)), [([.l], .str), ([.r], (.int .u64))], false⟩,
  some ⟨(.cons .str (.int .u64)), [([.l], .str), ([.r], (.int .u64))], false⟩,
  none,
  none,
  none,
  none,
  none,
  none,
  some ⟨(.int .i32), [], false⟩,
  some ⟨(.sl (.int .u8)), [], false⟩,
  none,
  none,
  none,
  none,
  some ⟨YZ, [], false⟩,
  none,
  none,
  none,
  some ⟨YS, [], false⟩,
  some ⟨YG, [([.l], YI), ([.r], YS)], false⟩,
  some ⟨YG, [([.l], YI), ([.r], YS)], false⟩,
  some ⟨YL, [], false⟩,
  some ⟨YC, [([.l], YG), ([.r, .l], YL), ([.r, .r], YI)], false⟩,
  some ⟨YC, [([.l], YG), ([.r, .l], YL), ([.r, .r], YI)], false⟩,
  none,
  none,
  none,
  none,
  none,
  some ⟨YS, [], false⟩,
  some ⟨YG, [([.l], YI), ([.r], YS)], false⟩,
  some ⟨YG, [([.l], YI), ([.r], YS)], false⟩,
  some ⟨YC, [([.l], YG), ([.r, .l], YL), ([.r, .r], YI)], false⟩,
  some ⟨YC, [([.l], YG), ([.r, .l], YL), ([.r, .r], YI)], false⟩,
  none,
  none,
  none,
  none,
  none,
  none,
  none,
  none,
  none,
  none,
  none,
  none,
  none,
  none,
  none,
  none,
  none,
  none,
  none,
  none,
  none,
  none,
  none,
  none,
  some ⟨YM, [], false⟩,
  none,
  none,
  none,
  none,
  none,
  none,
  none,
  none,
  none,
  none,
  none,
  none,
  none,
  none,
  none,
  none,
  none,
  none,
  none,
  none,
  none,
  none,
  none,
  none,
  some ⟨(.cons (.sl (.int .u8)) YE), [([.l], (.sl (.int .u8))), ([.r, .l], YI), ([.r, .r], YI)], false⟩,
  some ⟨(.cons (.sl (.int .u8)) YE), [([.l], (.sl (.int .u8))), ([.r, .l], YI), ([.r, .r], YI)], false⟩,
  some ⟨(.int .u64), [], false⟩,
  none,
  none,
  none,
  none,
  none,
  none,
  none,
  none,
  none,
  none,
  some ⟨YE, [([.l], YI), ([.r], YI)], true⟩,
  some ⟨YE, [([.l], YI), ([.r], YI)], true⟩,
  none,
  none,
  none,
  none,
  none,
  none,
  none,
  none,
  none,
  none,
  none,
  none,
  none,
  none,
  none,
  none,
  none,
  none,
  none,
  none,
  none,
  none,
  none,
  none,
  none,
  none,
  none,
  none,
  some ⟨A139, [], false⟩,
  some ⟨A140, [], false⟩,
  none,
  none,
  none,
  none,
  none,
  none,
  none,
  none,
  none,
  none,
  none,
  none,
  none,
  none,
  none,
  none,
  none,
  none,
  none,
  none,
  none,
  none,
  none,
  none,
  none,
  none,
  none,
  none,
  none,
  none,
  none,
  none,
  none,
  none,
  none,
  none,
  none,
  none,
  none,
  none,
  none,
  none,
  none,
  none,
  none,
  some ⟨YE, [([.l], YI), ([.r], YI)], true⟩,
  none,
  none,
  some ⟨(.int .u64), [], false⟩,
  none,
  none,
  none,
  none,
  none,
  none,
  none,
  none,
  none,
  none,
  none,
  some ⟨YI, [], false⟩,
  none,
  none,
  none,
  none,
  none,
  none,
  none,
  none,
  some ⟨YI, [], false⟩,
  none,
  none,
  none,
  none,
  none,
  none,
  some ⟨(.int .u32), [], false⟩,
  none,
  none,
  none,
  none,
  none,
  none,
  none,
  none,
  none,
  none,
  none,
  none,
  none,
  none,
  none,
  none,
  none,
  some ⟨(.int .u64), [], false⟩,
  none,
  none,
  none,
  none,
  none,
  some ⟨(.sl .bool), [], false⟩,
  none,
  none,
  none,
  none,
  none,
  none,
  none,
  none,
  none,
  some ⟨(.one .str), [([.l], .str)], false⟩,
  some ⟨(.one .str), [([.l], .str)], false⟩,
  none,
  none,
  none,
  none,
  none,
  none,
  none,
  none,
  none,
  none,
  none,
  some ⟨(.int .u8), [], false⟩,
  some ⟨(.int .u8), [], false⟩,
  none,
  some ⟨(.int .i32), [], false⟩,
  some ⟨(.int .i32), [], false⟩,
  none,
  none]
noncomputable def s0 : Sig := ⟨27, Go.Proofs.Tryz.f27, [.val (.sl (.int .u8))], [.ptr (.cons (.sl (.int .u8)) YE) (.pr MT MP)], true, [(0, [(0, .val .reg (.sl (.int .u8)) MT), (3, .val .reg YI MF), (4, .val .reg YI MF)])], [], false, []⟩
noncomputable def s1 : Sig := ⟨23, Go.Proofs.Tryz.f23, [.pio (.cons (.sl (.int .u8)) YE) (.pr MT MP) (.pr MT MP)], [.val YI MF], true, [(100005, [(0, .val .box (.cons (.sl (.int .u8)) YE) (.pr MT MP)), (3, .val .reg YI MF)])], [], false, []⟩
noncomputable def s2 : Sig := ⟨22, Go.Proofs.Tryz.f22, [.val (.sl (.int .u8)), .val YI], [.ptr (.cons (.sl (.int .u8)) YE) (.pr MT MP)], true, [(0, [(1, .val .reg YI MF), (5, .ref .plc 8 [] (.cons (.sl (.int .u8)) YE)), (6, .val .reg YI MF), (8, .val .box (.cons (.sl (.int .u8)) YE) (.pr MT MP))])], [], false, []⟩
noncomputable def s3 : Sig := ⟨7, Go.Proofs.Tryz.f7, [.val (.sl (.int .u8)), .val YI], [.val YI MF], false, [], [], false, []⟩
noncomputable def s4 : Sig := ⟨24, Go.Proofs.Tryz.f24, [.val YI], [.val .str MF], false, [], [], false, []⟩
noncomputable def s5 : Sig := ⟨8, Go.Proofs.Tryz.f8, [.val YI], [.val .str MF], false, [], [], false, []⟩
noncomputable def s6 : Sig := ⟨77, Go.Proofs.Tryz.f77, [.val .str, .val (.int .u8)], [.val YI MF], false, [], [], false, []⟩
noncomputable def s7 : Sig := ⟨25, Go.Proofs.Tryz.f25, [.val .str, .val .str], [.val YZ MO], false, [(0, [(0, .val .reg .str MF), (1, .val .reg .str MF), (5, .val .reg YZ MO), (6, .val .reg YI MF), (7, .val .reg YI MF)])], [], false, []⟩
noncomputable def s8 : Sig := ⟨10, Go.Proofs.Tryz.f10, [.val .str], [.val YZ MF], false, [], [], false, []⟩
noncomputable def s9 : Sig := ⟨12, Go.Proofs.Tryz.f12, [], [.val YC (.pr MG (.pr MO MF))], false, [], [], false, []⟩
noncomputable def s10 : Sig := ⟨81, Go.Proofs.Tryz.f81, [.val YG], [.val YG MG], false, [], [], false, []⟩
noncomputable def s11 : Sig := ⟨31, Go.Proofs.Tryz.f31, [.val YL], [.val YL MO], false, [], [], false, []⟩
noncomputable def s12 : Sig := ⟨28, Go.Proofs.Tryz.f28, [.val YC], [.val YC (.pr MG (.pr MO MF))], false, [], [], false, []⟩
noncomputable def s13 : Sig := ⟨33, Go.Proofs.Tryz.f33, [.val YI, .val YI, .val YI], [.val .bool MF], false, [], [], false, []⟩
noncomputable def s14 : Sig := ⟨57, Go.Proofs.Tryz.f57, [.val YZ, .val .str], [.val .str MF], false, [], [], false, []⟩
noncomputable def s15 : Sig := ⟨14, Go.Proofs.Tryz.f14, [.val YZ, .val .str], [.val .str MF], false, [], [], false, []⟩
noncomputable def s16 : Sig := ⟨84, Go.Proofs.Tryz.f84, [.val .str, .val .str], [.val .str MF], false, [], [], false, []⟩
noncomputable def s17 : Sig := ⟨36, Go.Proofs.Tryz.f36, [.val .str], [.val YI MF, .val .bool MF], false, [], [], false, []⟩
noncomputable def s18 : Sig := ⟨85, Go.Proofs.Tryz.f85, [.val .str, .val .str], [.val .str MF, .val .str MF, .val .bool MF], false, [], [], false, []⟩
noncomputable def s19 : Sig := ⟨158, Go.Proofs.Tryz.f158, [.val YG], [.val .bool MF], false, [(0, [(1, .val .box YG MT), (16, .val .reg YS MT), (17, .val .reg YI MF), (18, .val .reg YI MF)])], [], false, []⟩
noncomputable def s20 : Sig := ⟨268, Go.Proofs.Tryz.f268, [.val YI], [.val .bool MF], false, [], [], false, []⟩
noncomputable def s21 : Sig := ⟨189, Go.Proofs.Tryz.f189, [.val YI, .val YI], [.val YI MF], false, [], [], false, []⟩
noncomputable def s22 : Sig := ⟨160, Go.Proofs.Tryz.f160, [.val YE, .val YE], [.val YI MF], false, [], [], false, []⟩
noncomputable def s23 : Sig := ⟨159, Go.Proofs.Tryz.f159, [.val YS, .fn 160 []], [.val .bool MF], false, [(0, [(0, .val .reg YS MT), (1, .fn 160 []), (5, .val .reg YI MF)])], [], false, []⟩
noncomputable def s24 : Sig := ⟨161, Go.Proofs.Tryz.f161, [.val YI, .val YS], [.val .bool MF], false, [(0, [(0, .val .reg YI MF), (1, .val .reg YS MT), (5, .val .reg YI MF), (8, .val .reg YI MF), (9, .val .reg YI MF)]), (2, [(0, .val .reg YI MF), (1, .val .reg YS MT), (5, .val .reg YI MF), (8, .val .reg YI MF), (9, .val .reg YI MF), (11, .val .reg YS MT), (12, .val .reg YI MF), (13, .val .reg YI MF)])], [], false, []⟩
noncomputable def s25 : Sig := ⟨82, Go.Proofs.Tryz.f82, [.val YG], [.val .bool MF], false, [], [], false, []⟩
noncomputable def s26 : Sig := ⟨86, Go.Proofs.Tryz.f86, [.val YG], [.val .str MF], false, [(0, [(3, .val .reg .str MF), (14, .val .reg YS MT), (15, .val .reg YI MF), (16, .val .reg YI MF)])], [], false, []⟩
noncomputable def s27 : Sig := ⟨34, Go.Proofs.Tryz.f34, [.val .str], [.val YG MG, .val .bool MF], false, [(0, [(0, .val .reg .str MF), (2, .val .box YG MG), (7, .val .box YG MG), (33, .val .reg YZ MF), (34, .val .reg YI MF), (35, .val .reg YI MF)]), (100015, [(0, .val .reg .str MF), (2, .val .box YG MG), (7, .val .box YG (.pr MF MO)), (33, .val .reg YZ MF), (34, .val .reg YI MF), (35, .val .reg YI MF)])], [], false, []⟩
noncomputable def s28 : Sig := ⟨99, Go.Proofs.Tryz.f99, [.val YG, .val YI], [.val .bool MF], false, [], [], false, []⟩
noncomputable def s29 : Sig := ⟨250, Go.Proofs.Tryz.f250, [.val YG, .val YI, .val YI], [.val YI MF], false, [(0, [(1, .val .reg YI MF), (2, .val .reg YI MF), (7, .val .reg YI MF), (28, .val .reg YS MT), (29, .val .reg YI MF), (30, .val .reg YI MF)])], [], false, []⟩
noncomputable def s30 : Sig := ⟨173, Go.Proofs.Tryz.f173, [.val YG, .val YI], [.val YI MF], false, [(0, [(1, .val .reg YI MF), (5, .val .reg YI MF), (17, .val .reg YS MT), (18, .val .reg YI MF), (19, .val .reg YI MF)])], [], false, []⟩
noncomputable def s31 : Sig := ⟨243, Go.Proofs.Tryz.f243, [.val YG], [.val YM (.own MO)], false, [(0, [(1, .val .box YG MT), (3, .val .reg YM (.own MO)), (4, .val .reg YI MF)]), (2, [(1, .val .box YG MT), (3, .val .reg YM (.own MO)), (4, .val .reg YI MF), (5, .val .reg YL MO), (20, .val .reg YI MF), (21, .val .reg YI MF)])], [(14, 2, 2)], false, []⟩
noncomputable def s32 : Sig := ⟨165, Go.Proofs.Tryz.f165, [.val YG, .val YI], [.val YM (.own MO)], false, [], [], false, []⟩
noncomputable def s33 : Sig := ⟨83, Go.Proofs.Tryz.f83, [.val YL, .val YI, .val YI], [.val .bool MF], false, [(0, [(1, .val .reg YI MF), (2, .val .reg YI MF), (9, .val .reg YL MT), (10, .val .reg YI MF), (11, .val .reg YI MF)])], [], false, []⟩
noncomputable def s34 : Sig := ⟨239, Go.Proofs.Tryz.f239, [.val YM], [.val .bool MF], false, [(0, [(0, .val .reg YM MT), (8, .val .reg YM MT), (9, .val .reg YI MF), (10, .val .reg YI MF)])], [], false, []⟩
noncomputable def s35 : Sig := ⟨240, Go.Proofs.Tryz.f240, [.val YI], [.val YL MO], false, [(0, [(0, .val .reg YI MF), (3, .val .reg YL MO), (4, .val .reg YI MF)])], [], false, []⟩
noncomputable def s36 : Sig := ⟨242, Go.Proofs.Tryz.f242, [.val YM, .val YL, .val YI], [.val YI MF], false, [(0, [(0, .val .reg YM MT), (1, .val .reg YL MT), (2, .val .reg YI MF), (7, .val .reg YI MF), (8, .val .reg YI MF), (19, .val .reg YL MT), (20, .val .reg YI MF), (21, .val .reg YI MF)])], [], false, []⟩
noncomputable def s37 : Sig := ⟨318, Go.Proofs.Tryz.f318, [.val YI], [.val YI MF], false, [], [], false, []⟩
noncomputable def s38 : Sig := ⟨241, Go.Proofs.Tryz.f241, [.val YI, .val YI], [.val YI MF], false, [(0, [(0, .val .reg YI MF), (1, .val .reg YI MF)])], [], false, []⟩
noncomputable def s39 : Sig := ⟨164, Go.Proofs.Tryz.f164, [.val YM], [.val YL MO], false, [(0, [(0, .val .reg YM MT), (3, .val .reg YL MO), (4, .val .reg YI MF)]), (2, [(0, .val .reg YM MT), (3, .val .reg YL MO), (4, .val .reg YI MF), (5, .val .reg YL MO), (6, .val .reg YI MF)]), (4, [(3, .val .reg YL MO), (7, .val .reg YL MO), (58, .val .reg YI MF), (59, .val .reg YI MF)])], [], false, []⟩
noncomputable def s40 : Sig := ⟨87, Go.Proofs.Tryz.f87, [.val YG], [.val YL MO], false, [(0, [(3, .val .reg YL MO), (11, .val .reg YL MO), (12, .val .reg YI MF), (13, .val .reg YI MF)])], [], false, []⟩
noncomputable def s41 : Sig := ⟨32, Go.Proofs.Tryz.f32, [.val YL], [.val .str MF], false, [(0, [(3, .val .reg YZ MO), (9, .val .reg YL MT), (10, .val .reg YI MF), (11, .val .reg YI MF)])], [], false, []⟩
noncomputable def s42 : Sig := ⟨88, Go.Proofs.Tryz.f88, [.val YG], [.val YI MF], false, [], [], false, []⟩
noncomputable def s43 : Sig := ⟨166, Go.Proofs.Tryz.f166, [.val YM], [.val YI MF], false, [], [], false, []⟩
noncomputable def s44 : Sig := ⟨89, Go.Proofs.Tryz.f89, [.val YG], [.val YI MF], false, [], [], false, []⟩
noncomputable def s45 : Sig := ⟨35, Go.Proofs.Tryz.f35, [.val YG], [.val .str MF], false, [], [], false, []⟩
noncomputable def s46 : Sig := ⟨30, Go.Proofs.Tryz.f30, [.val YG, .val YL], [.val .bool MF], false, [], [], false, []⟩
noncomputable def s47 : Sig := ⟨169, Go.Proofs.Tryz.f169, [.val YG, .io YL MO, .val YI, .val YI], [], false, [(0, [(1, .val .reg YL MO), (2, .val .reg YI MF), (3, .val .reg YI MF), (11, .val .reg YS MT), (12, .val .reg YI MF), (13, .val .reg YI MF)])], [], false, []⟩
noncomputable def s48 : Sig := ⟨91, Go.Proofs.Tryz.f91, [.val YG, .val YL, .val YL], [.val YL MO], false, [(0, [(3, .val .box YG MT), (7, .val .reg YL MO), (12, .val .reg YL MT), (13, .val .reg YI MF), (14, .val .reg YI MF)])], [], false, []⟩
noncomputable def s49 : Sig := ⟨37, Go.Proofs.Tryz.f37, [.val YG, .val YL, .val YL], [.val YL MO, .val .bool MF], false, [(0, [(1, .val .reg YL MT), (3, .val .box YG MT), (8, .val .reg YL MO), (18, .val .reg YL MT), (19, .val .reg YI MF), (20, .val .reg YI MF)])], [], false, []⟩
noncomputable def s50 : Sig := ⟨29, Go.Proofs.Tryz.f29, [.val YL, .val .bool, .pin none YC, .pio YC (.pr MG (.pr MO MF)) .gone], [.val YC (.pr MG (.pr MO MF)), .val .str MF], false, [], [], false, []⟩
noncomputable def s51 : Sig := ⟨170, Go.Proofs.Tryz.f170, [.val YG, .val YL], [.val YS (.own MP)], false, [(0, [(2, .val .box YG MT), (5, .val .reg YS (.own MP)), (8, .val .reg YL MT), (9, .val .reg YI MF), (10, .val .reg YI MF)])], [], false, []⟩
noncomputable def s52 : Sig := ⟨93, Go.Proofs.Tryz.f93, [.val YG, .val YL], [.val .bool MF], false, [(0, [(1, .val .reg YL MT), (2, .val .box YG MT), (5, .val .reg YI MF)])], [], false, []⟩
noncomputable def s53 : Sig := ⟨38, Go.Proofs.Tryz.f38, [.val YG], [.val YM (.own MO), .val .bool MF], false, [], [], false, []⟩
noncomputable def s54 : Sig := ⟨94, Go.Proofs.Tryz.f94, [.val YG, .val YI, .val YI], [.val .bool MF], false, [], [], false, []⟩
noncomputable def s55 : Sig := ⟨95, Go.Proofs.Tryz.f95, [.val YG, .val YI, .val YI], [.val YI MF], false, [], [], false, []⟩
noncomputable def s56 : Sig := ⟨171, Go.Proofs.Tryz.f171, [.val YL, .val YI], [.val YI MF], false, [(0, [(0, .val .reg YL MT), (1, .val .reg YI MF), (7, .val .reg YI MF), (8, .val .reg YI MF)])], [], false, []⟩
noncomputable def s57 : Sig := ⟨96, Go.Proofs.Tryz.f96, [.val YL, .val YI], [.val .bool MF], false, [], [], false, []⟩
noncomputable def s58 : Sig := ⟨39, Go.Proofs.Tryz.f39, [.val YG, .val YL, .val YI], [.val YL MO, .val .bool MF], false, [(0, [(1, .val .reg YL MT), (2, .val .reg YI MF), (3, .val .box YG MT), (8, .val .reg YL MO), (31, .val .reg YI MF), (32, .val .reg YI MF)]), (2, [(1, .val .reg YL MT), (3, .val .box YG MT), (8, .val .reg YL MO), (10, .val .reg YL MO), (11, .val .reg YI MF)]), (4, [(1, .val .reg YL MT), (3, .val .box YG MT), (8, .val .reg YL MO), (10, .val .reg YL MO), (11, .val .reg YI MF), (47, .val .reg YL MT), (48, .val .reg YI MF), (49, .val .reg YI MF)])], [], false, []⟩
noncomputable def s59 : Sig := ⟨97, Go.Proofs.Tryz.f97, [.val YG, .val YL, .val YI], [.val .bool MF], false, [(0, [(2, .val .reg YI MF), (3, .val .box YG MT), (27, .val .reg YL MT), (28, .val .reg YI MF), (29, .val .reg YI MF)])], [], false, []⟩
noncomputable def s60 : Sig := ⟨98, Go.Proofs.Tryz.f98, [.val YG, .val YI, .val YI], [.val YI MF], false, [(0, [(1, .val .reg YI MF), (3, .val .box YG MT), (7, .val .reg YI MF), (8, .val .reg YI MF)])], [], false, []⟩
noncomputable def s61 : Sig := ⟨40, Go.Proofs.Tryz.f40, [.val YG, .val YL, .val YI, .val YI], [.val YL MO, .val YI MF, .val .bool MF], false, [(0, [(2, .val .reg YI MF), (3, .val .reg YI MF), (4, .val .box YG MT), (11, .val .reg YL MO), (12, .val .reg YI MF)])], [], false, []⟩
noncomputable def s62 : Sig := ⟨172, Go.Proofs.Tryz.f172, [.val YL, .val YI], [.val YI MF], false, [(0, [(1, .val .reg YI MF), (7, .val .reg YL MT), (8, .val .reg YI MF), (9, .val .reg YI MF)])], [], false, []⟩
noncomputable def s63 : Sig := ⟨174, Go.Proofs.Tryz.f174, [.val YG, .val YL, .val YI], [.val YL MO], false, [(0, [(1, .val .reg YL MT), (3, .val .box YG MT), (7, .val .reg YL MO)]), (2, [(1, .val .reg YL MT), (3, .val .box YG MT), (7, .val .reg YL MO), (8, .val .reg YI MF), (9, .val .reg YI MF)]), (4, [(1, .val .reg YL MT), (3, .val .box YG MT), (7, .val .reg YL MO), (8, .val .reg YI MF), (9, .val .reg YI MF), (10, .val .reg YI MF), (25, .ref .ali 7 [] YL), (26, .val .reg YI MF), (27, .val .reg YI MF)])], [], false, []⟩
noncomputable def s64 : Sig := ⟨100, Go.Proofs.Tryz.f100, [.val YG, .val YL, .val YI], [.val YL MO, .val YL MO], false, [(0, [(2, .val .reg YI MF), (3, .val .box YG MT), (8, .val .reg YL MO), (9, .val .reg YL MO), (10, .val .reg YI MF)]), (2, [(2, .val .reg YI MF), (3, .val .box YG MT), (8, .val .reg YL MO), (9, .val .reg YL MO)]), (4, [(2, .val .reg YI MF), (3, .val .box YG MT), (8, .val .reg YL MO), (9, .val .reg YL MO), (13, .val .reg YL MO), (65, .val .reg YI MF), (66, .val .reg YI MF)])], [], false, []⟩
noncomputable def s65 : Sig := ⟨41, Go.Proofs.Tryz.f41, [.val YG, .val YL, .val YI], [.val YL MO, .val .bool MF], false, [], [], false, []⟩
noncomputable def s66 : Sig := ⟨175, Go.Proofs.Tryz.f175, [.val YL], [.val .bool MF], false, [(0, [(5, .val .reg YL MT), (6, .val .reg YI MF), (7, .val .reg YI MF)])], [], false, []⟩
noncomputable def s67 : Sig := ⟨101, Go.Proofs.Tryz.f101, [.val YG, .val YL, .val YI], [.val .bool MF], false, [], [], false, []⟩
noncomputable def s68 : Sig := ⟨176, Go.Proofs.Tryz.f176, [.val YG, .val YL, .val YI], [.val YI MF], false, [(0, [(2, .val .reg YI MF), (3, .val .box YG MT), (9, .val .reg YL MT), (10, .val .reg YI MF), (11, .val .reg YI MF)])], [], false, []⟩
noncomputable def s69 : Sig := ⟨102, Go.Proofs.Tryz.f102, [.val YG, .val YL, .val YI], [.val YL MO, .val YL MO], false, [(0, [(2, .val .reg YI MF), (3, .val .box YG MT), (8, .val .reg YL MO), (9, .val .reg YL MO), (10, .val .reg YI MF)])], [], false, []⟩
noncomputable def s70 : Sig := ⟨42, Go.Proofs.Tryz.f42, [.val YG, .val YL, .val YI], [.val YL MO, .val YL MO, .val .bool MF], false, [], [], false, []⟩
noncomputable def s71 : Sig := ⟨109, Go.Proofs.Tryz.f109, [.val YL], [.val YI MF], false, [(0, [(3, .val .reg YI MF), (6, .val .reg YL MT), (7, .val .reg YI MF), (8, .val .reg YI MF)])], [], false, []⟩
noncomputable def s72 : Sig := ⟨179, Go.Proofs.Tryz.f179, [.val YG, .val YL], [.val .bool MF], false, [], [], false, []⟩
noncomputable def s73 : Sig := ⟨177, Go.Proofs.Tryz.f177, [.val YG, .val YL], [.val .bool MF], false, [], [], false, []⟩
noncomputable def s74 : Sig := ⟨251, Go.Proofs.Tryz.f251, [.val YL], [.val YI MF], false, [(0, [(0, .val .reg YL MT), (3, .val .reg YI MF), (4, .val .reg YI MF)])], [], false, []⟩
noncomputable def s75 : Sig := ⟨178, Go.Proofs.Tryz.f178, [.val YL], [.val YL MO], false, [(0, [(3, .val .reg YL MO), (4, .val .reg YI MF), (11, .val .reg YI MF), (12, .val .reg YI MF)])], [], false, []⟩
noncomputable def s76 : Sig := ⟨103, Go.Proofs.Tryz.f103, [.val YG, .val YL], [.val YL MO, .val .bool MF], false, [], [], false, []⟩
noncomputable def s77 : Sig := ⟨180, Go.Proofs.Tryz.f180, [.val YG, .val YL], [.val YL MO], false, [(0, [(1, .val .reg YL MT), (5, .val .reg YL MO), (9, .val .reg YS MT), (10, .val .reg YI MF), (11, .val .reg YI MF)])], [], false, []⟩
noncomputable def s78 : Sig := ⟨104, Go.Proofs.Tryz.f104, [.val YG, .val YL], [.val YL MO, .val .bool MF], false, [], [], false, []⟩
noncomputable def s79 : Sig := ⟨44, Go.Proofs.Tryz.f44, [.val YG, .val YL], [.val .str MF], false, [], [], false, []⟩
noncomputable def s80 : Sig := ⟨43, Go.Proofs.Tryz.f43, [.val .str], [.val .str MF], false, [], [], false, []⟩
noncomputable def s81 : Sig := ⟨108, Go.Proofs.Tryz.f108, [.val YL], [.val YI MF], false, [], [], false, []⟩
noncomputable def s82 : Sig := ⟨119, Go.Proofs.Tryz.f119, [.io YM MO, .fn 120 []], [], false, [], [], false, []⟩
noncomputable def s83 : Sig := ⟨112, Go.Proofs.Tryz.f112, [.val YG, .val YL], [.val YM MO], false, [(0, [(2, .val .box YG MT), (8, .val .reg YM MO), (9, .ref .ali 32 [] (.sl (.cons .str YI))), (10, .val .reg YI MF), (32, .val .map (.sl (.cons .str YI)) .gone)]), (2, [(2, .val .box YG MT), (8, .val .reg YM MO), (9, .ref .ali 32 [] (.sl (.cons .str YI))), (10, .val .reg YI MF), (11, .val .reg YI MF), (32, .val .map (.sl (.cons .str YI)) .gone)]), (4, [(2, .val .box YG MT), (8, .val .reg YM MO), (9, .ref .ali 32 [] (.sl (.cons .str YI))), (10, .val .reg YI MF), (11, .val .reg YI MF), (12, .val .reg YL MO), (32, .val .map (.sl (.cons .str YI)) .gone), (56, .val .reg YI MF), (57, .val .reg YI MF)])], [], false, []⟩
noncomputable def s84 : Sig := ⟨192, Go.Proofs.Tryz.f192, [.val YI, .val YI], [.val YM MO], false, [(0, [(0, .val .reg YI MF), (1, .val .reg YI MF), (5, .val .reg YM MO), (6, .val .reg YI MF)]), (2, [(0, .val .reg YI MF), (1, .val .reg YI MF), (5, .val .reg YM MO), (6, .val .reg YI MF), (24, .val .reg YM MO), (25, .val .reg YI MF), (26, .val .reg YI MF)])], [], false, []⟩
noncomputable def s85 : Sig := ⟨254, Go.Proofs.Tryz.f254, [.val YL, .val YL], [.val .bool MF], false, [(0, [(0, .val .reg YL MT), (7, .val .reg YL MT), (8, .val .reg YI MF), (9, .val .reg YI MF)])], [], false, []⟩
noncomputable def s86 : Sig := ⟨253, Go.Proofs.Tryz.f253, [.val YL, .pin none YL], [.val .bool MF], false, [], [], false, []⟩
noncomputable def s87 : Sig := ⟨257, Go.Proofs.Tryz.f257, [.val YM, .pin (some 253) YL], [.val YI MF], false, [(0, [(0, .val .reg YM MT), (1, .val (.pin (some 253)) YL MT), (7, .val .reg YI MF), (8, .val .reg YI MF)])], [], false, []⟩
noncomputable def s88 : Sig := ⟨252, Go.Proofs.Tryz.f252, [.val YM, .pin (some 253) YL], [.val .bool MF], false, [], [], false, []⟩
noncomputable def s89 : Sig := ⟨181, Go.Proofs.Tryz.f181, [.val YG, .val YL], [.val YI MF, .val YL MF], false, [(0, [(2, .val .box YG MT), (6, .val .reg YM MO), (7, .val .reg YI MF)]), (2, [(2, .val .box YG MT), (6, .val .reg YM MO), (7, .val .reg YI MF), (18, .val .reg YM MO), (19, .val .reg YI MF), (20, .val .reg YI MF)])], [], false, []⟩
noncomputable def s90 : Sig := ⟨105, Go.Proofs.Tryz.f105, [.val YG, .val YL], [.val YI MF, .val .bool MF], false, [], [], false, []⟩
noncomputable def s91 : Sig := ⟨106, Go.Proofs.Tryz.f106, [.val YG, .val YL], [.val YL MF, .val .bool MF], false, [], [], false, []⟩
noncomputable def s92 : Sig := ⟨45, Go.Proofs.Tryz.f45, [.val YG, .val YL], [.val .str MF], false, [], [], false, []⟩
noncomputable def s93 : Sig := ⟨255, Go.Proofs.Tryz.f255, [.val YG], [.val YL MO], false, [(0, [(1, .val .box YG MT), (3, .val .reg YL MO), (4, .val .reg YI MF)])], [], false, []⟩
noncomputable def s94 : Sig := ⟨118, Go.Proofs.Tryz.f118, [.val YL], [.val YL MO], false, [(0, [(3, .val .reg YL MO), (8, .val .reg YI MF), (9, .val .reg YI MF)])], [], false, []⟩
noncomputable def s95 : Sig := ⟨117, Go.Proofs.Tryz.f117, [.val YL, .val YL], [.val YL MO], false, [(0, [(1, .val .reg YL MT), (5, .val .reg YL MO), (10, .val .reg YI MF), (11, .val .reg YI MF)])], [], false, []⟩
noncomputable def s96 : Sig := ⟨182, Go.Proofs.Tryz.f182, [.val YG, .val YL], [.val YL MO, .val .bool MF], false, [], [], false, []⟩
noncomputable def s97 : Sig := ⟨107, Go.Proofs.Tryz.f107, [.val YG, .val YL], [.val YI MF, .val YI MF, .val .bool MF], false, [], [], false, []⟩
noncomputable def s98 : Sig := ⟨46, Go.Proofs.Tryz.f46, [.val YG, .val YL], [.val .str MF], false, [], [], false, []⟩
noncomputable def s99 : Sig := ⟨183, Go.Proofs.Tryz.f183, [.val YG, .val YL, .val YI], [.val .bool MF], false, [], [], false, []⟩
noncomputable def s100 : Sig := ⟨256, Go.Proofs.Tryz.f256, [.val YL, .val YL], [.val .bool MF], false, [(0, [(0, .val .reg YL MT), (1, .val .reg YL MT), (12, .val .reg YI MF), (13, .val .reg YI MF)])], [], false, []⟩
noncomputable def s101 : Sig := ⟨184, Go.Proofs.Tryz.f184, [.val YL, .val YL], [.val .bool MF], false, [], [], false, []⟩
noncomputable def s102 : Sig := ⟨110, Go.Proofs.Tryz.f110, [.val YG, .val YL, .val YI], [.val .bool MF], false, [(0, [(1, .val .reg YL MT), (2, .val .reg YI MF), (8, .val .reg YL MO), (9, .val .reg YL MO), (33, .ref .ali 9 [] YL), (34, .val .reg YI MF), (35, .val .reg YI MF)])], [], false, []⟩
noncomputable def s103 : Sig := ⟨47, Go.Proofs.Tryz.f47, [.val YG, .val YL, .val YI], [.val .str MF], false, [], [], false, []⟩
noncomputable def s104 : Sig := ⟨49, Go.Proofs.Tryz.f49, [.val YG, .val YL], [.val YM MO, .val .bool MF], false, [], [], false, []⟩
noncomputable def s105 : Sig := ⟨111, Go.Proofs.Tryz.f111, [.val YM], [.val YZ MO], false, [(0, [(3, .val .reg YZ MO), (6, .val .reg YM MT), (7, .val .reg YI MF), (8, .val .reg YI MF)])], [], false, []⟩
noncomputable def s106 : Sig := ⟨48, Go.Proofs.Tryz.f48, [.val YM, .val .bool], [.val .str MF], false, [], [], false, []⟩
noncomputable def s107 : Sig := ⟨115, Go.Proofs.Tryz.f115, [.val YG, .val YI], [.val YL MO], false, [(0, [(1, .val .reg YI MF), (2, .val .box YG MT), (5, .val .reg YL MO), (15, .val .reg YI MF), (16, .val .reg YI MF)])], [], false, []⟩
noncomputable def s108 : Sig := ⟨113, Go.Proofs.Tryz.f113, [.val YG, .val YL, .val YI], [.val YL MO], false, [], [(2, 10, 4), (2, 11, 4)], false, []⟩
noncomputable def s109 : Sig := ⟨50, Go.Proofs.Tryz.f50, [.val YG, .val YI], [.val YL MO, .val .bool MF], false, [], [], false, []⟩
noncomputable def s110 : Sig := ⟨114, Go.Proofs.Tryz.f114, [.val YG], [.val YI MF], false, [], [], false, []⟩
noncomputable def s111 : Sig := ⟨186, Go.Proofs.Tryz.f186, [.val YL, .pin none YG, .pin none YI], [.val .bool MF], false, [], [], false, []⟩
noncomputable def s112 : Sig := ⟨185, Go.Proofs.Tryz.f185, [.mv YM (.own MO), .pin none YG, .pin none YI], [.val YM (.own MO)], false, [], [], false, [none, some (186, 2)]⟩
noncomputable def s113 : Sig := ⟨116, Go.Proofs.Tryz.f116, [.val YG, .val YI], [.val YM (.own MO)], false, [(0, [(2, .val .box YG MT), (3, .val .box YI MF), (5, .val .reg YM (.own MO)), (6, .val .reg YI MF)]), (2, [(2, .val .box YG MT), (3, .val .box YI MF), (5, .val .reg YM (.own MO)), (6, .val .reg YI MF), (7, .val .reg YI MF), (8, .val .reg YM (.own MO)), (26, .ref .ali 5 [] YM), (27, .val .reg YI MF), (28, .val .reg YI MF)]), (4, [(2, .val .box YG MT), (3, .val .box YI MF), (5, .val .reg YM (.own MO)), (6, .val .reg YI MF), (7, .val .reg YI MF), (8, .val .reg YM (.own MO)), (10, .row .ali 5 YL), (11, .val .reg YI MF), (26, .ref .ali 5 [] YM), (27, .val .reg YI MF), (28, .val .reg YI MF)])], [(15, 6, 2)], false, []⟩
noncomputable def s114 : Sig := ⟨51, Go.Proofs.Tryz.f51, [.val YG, .val YI], [.val YM MO, .val .bool MF], false, [(0, [(6, .val .reg YL MO), (7, .val .reg YM MO), (24, .val .reg YM (.own MO)), (25, .val .reg YI MF), (26, .val .reg YI MF)])], [], false, []⟩
noncomputable def s115 : Sig := ⟨52, Go.Proofs.Tryz.f52, [.val YG, .val YI], [.val YM (.own MO), .val .bool MF], false, [(0, [(1, .val .reg YI MF), (6, .val .reg YM (.own MO)), (21, .ref .ali 6 [] YM), (22, .val .reg YI MF), (23, .val .reg YI MF)])], [], false, []⟩
noncomputable def s116 : Sig := ⟨190, Go.Proofs.Tryz.f190, [.pio A140 (Ty.mine A140) (Ty.mine A140), .val A140, .val YI, .val YI], [], false, [], [], false, []⟩
noncomputable def s117 : Sig := ⟨191, Go.Proofs.Tryz.f191, [.val YS, .val YI, .val YI], [.val .bool MF], false, [(0, [(0, .val .reg YS MT), (2, .val .reg YI MF), (7, .val .reg YI MF), (13, .val .reg YI MF), (14, .val .reg YI MF)]), (2, [(0, .val .reg YS MT), (2, .val .reg YI MF), (7, .val .reg YI MF), (13, .val .reg YI MF), (14, .val .reg YI MF), (16, .val .reg YS MT), (17, .val .reg YI MF), (18, .val .reg YI MF)])], [], false, []⟩
noncomputable def s118 : Sig := ⟨121, Go.Proofs.Tryz.f121, [.val YS], [.val A140 (Ty.mine A140)], false, [(0, [(2, .val .box A140 (Ty.mine A140)), (3, .val .box A140 (Ty.mine A140)), (4, .val .box YE MP), (5, .val .reg YS MT), (6, .val .reg YS (.own MP)), (29, .val .reg YS MT), (30, .val .reg YI MF), (31, .val .reg YI MF)])], [], false, []⟩
noncomputable def s119 : Sig := ⟨122, Go.Proofs.Tryz.f122, [.val YL], [.val YL MT], true, [(0, [(0, .val .reg YL MT)])], [], false, []⟩
noncomputable def s120 : Sig := ⟨53, Go.Proofs.Tryz.f53, [.val YG], [.val YM (.own MO), .val .bool MF], false, [], [], false, []⟩
noncomputable def s121 : Sig := ⟨123, Go.Proofs.Tryz.f123, [.val .str, .val YI], [.val .str MF], false, [], [], false, []⟩
noncomputable def s122 : Sig := ⟨54, Go.Proofs.Tryz.f54, [.val YM], [.val .str MF], false, [(0, [(3, .val .reg YZ MO), (9, .val .reg YM MT), (10, .val .reg YI MF), (11, .val .reg YI MF)]), (2, [(3, .val .reg YZ MO), (4, .val .reg YI MF), (9, .val .reg YM MT), (10, .val .reg YI MF), (11, .val .reg YI MF), (16, .val .reg YL MT), (17, .val .reg YI MF), (18, .val .reg YI MF)])], [], false, []⟩
noncomputable def s123 : Sig := ⟨194, Go.Proofs.Tryz.f194, [.val YG, .val YI, .val YI], [.val YL MO], false, [], [], false, []⟩
noncomputable def s124 : Sig := ⟨193, Go.Proofs.Tryz.f193, [.val YG, .val YL], [.val .bool MF], false, [(0, [(1, .val .reg YL MT), (2, .val .box YG MT), (7, .val .reg YI MF), (8, .val .reg YI MF)])], [], false, []⟩
noncomputable def s125 : Sig := ⟨124, Go.Proofs.Tryz.f124, [.val YG], [.val YL MF, .val .bool MF], false, [(0, [(1, .val .box YG MT), (4, .val .reg YI MF)]), (2, [(1, .val .box YG MT), (4, .val .reg YI MF), (25, .val .reg YM MO), (26, .val .reg YI MF), (27, .val .reg YI MF)])], [], false, []⟩
noncomputable def s126 : Sig := ⟨55, Go.Proofs.Tryz.f55, [.val YG], [.val YI MF, .val .bool MF], false, [], [], false, []⟩
noncomputable def s127 : Sig := ⟨125, Go.Proofs.Tryz.f125, [.val YG, .val YI], [.val YL MO, .val .bool MF], false, [(0, [(1, .val .reg YI MF), (2, .val .box YG MT), (6, .val .reg YL MO), (7, .val .reg YI MF)])], [], false, []⟩
noncomputable def s128 : Sig := ⟨56, Go.Proofs.Tryz.f56, [.val YG, .val YI], [.val YL MO, .val .bool MF], false, [(0, [(2, .val .box YG MT), (6, .val .reg YL MO), (8, .val .reg YL MO), (9, .val .reg YI MF)])], [], false, []⟩
noncomputable def s129 : Sig := ⟨13, Go.Proofs.Tryz.f13, [.val YC, .val .str], [.val YC (.pr MP MP), .val .str MF], false, [(0, [(2, .val .box YC MT), (4, .val .box YC (.pr MG (.pr MO MF))), (6, .val .box YC (.pr MG (.pr MO MF))), (7, .val .reg YZ MF), (8, .val .reg YZ MF), (9, .clo 29 [2, 6]), (13, .val .reg YL MO), (87, .val .reg YZ MF), (88, .val .reg YI MF), (89, .val .reg YI MF)]), (100011, [(2, .val .box YC MT), (4, .val .box YC (.pr MG (.pr MO MF))), (6, .val .box YC (.pr MG (.pr MO MF))), (7, .val .reg YZ MF), (8, .val .reg YZ MF), (9, .clo 29 [2, 6])]), (100040, [(2, .val .box YC MT), (4, .val .box YC (.pr MG (.pr MO MF))), (6, .val .box YC (.pr MG (.pr MO MF))), (13, .val .reg YL MO), (18, .val .reg YM (.own MO))]), (100048, [(2, .val .box YC MT), (4, .val .box YC (.pr MG (.pr MO MF))), (6, .val .box YC (.pr MG (.pr MO MF))), (7, .val .reg YZ MF), (9, .clo 29 [2, 6]), (10, .val .reg YL MO)]), (100087, [(4, .val .box YC (.pr MG (.pr MO MF))), (6, .val .box YC (.pr MG (.pr MO MF))), (34, .val .reg YL MO)])], [(14, 4, 1), (42, 11, 4), (43, 13, 4)], false, []⟩
noncomputable def s130 : Sig := ⟨9, Go.Proofs.Tryz.f9, [.val .str], [.val .str MF, .val YI MF], false, [(0, [(4, .val .reg YZ MF), (5, .val .box YC (.pr MP MP)), (6, .val .reg .str MF), (17, .val .reg YZ MF), (18, .val .reg YI MF), (19, .val .reg YI MF)])], [], false, []⟩
noncomputable def s131 : Sig := ⟨3, Go.Proofs.Tryz.f3, [.val (.sl (.int .u8))], [.val .bool MF], false, [], [], false, []⟩
noncomputable def s132 : Sig := ⟨79, Go.Proofs.Tryz.f79, [.pio (.cons (.sl (.int .u8)) YE) (.pr MT MP) (.pr MT MP), .val YI], [.val YI MF], true, [], [], false, []⟩
noncomputable def s133 : Sig := ⟨78, Go.Proofs.Tryz.f78, [.pio (.cons (.sl (.int .u8)) YE) (.pr MT MP) (.pr MT MP), .val YZ], [.val .str MF], true, [], [], false, []⟩
noncomputable def s134 : Sig := ⟨80, Go.Proofs.Tryz.f80, [.pio (.cons (.sl (.int .u8)) YE) (.pr MT MP) (.pr MT MP)], [.val .str MF], true, [], [], false, []⟩
noncomputable def s135 : Sig := ⟨26, Go.Proofs.Tryz.f26, [.pio (.cons (.sl (.int .u8)) YE) (.pr MT MP) (.pr MT MP), .val YI], [.val YZ MO], true, [(0, [(0, .val .box (.cons (.sl (.int .u8)) YE) (.pr MT MP)), (5, .val .reg YZ MO), (6, .val .reg YI MF)])], [], false, []⟩
noncomputable def s136 : Sig := ⟨11, Go.Proofs.Tryz.f11, [.val (.sl (.int .u8))], [.val YZ MO], false, [], [], false, []⟩
noncomputable def s137 : Sig := ⟨4, Go.Proofs.Tryz.f4, [.val (.sl (.int .u8))], [.val .bool MF], false, [(0, [(3, .val .reg YZ MO), (4, .val .box YC (.pr MP MP)), (5, .val .reg .str MF), (18, .ref .ali 3 [] YZ), (19, .val .reg YI MF), (20, .val .reg YI MF)])], [], false, []⟩
noncomputable def sigs : List Sig := [s0, s1, s2, s3, s4, s5, s6, s7, s8, s9, s10, s11, s12, s13, s14, s15, s16, s17, s18, s19, s20, s21, s22, s23, s24, s25, s26, s27, s28, s29, s30, s31, s32, s33, s34, s35, s36, s37, s38, s39, s40, s41, s42, s43, s44, s45, s46, s47, s48, s49, s50, s51, s52, s53, s54, s55, s56, s57, s58, s59, s60, s61, s62, s63, s64, s65, s66, s67, s68, s69, s70, s71, s72, s73, s74, s75, s76, s77, s78, s79, s80, s81, s82, s83, s84, s85, s86, s87, s88, s89, s90, s91, s92, s93, s94, s95, s96, s97, s98, s99, s100, s101, s102, s103, s104, s105, s106, s107, s108, s109, s110, s111, s112, s113, s114, s115, s116, s117, s118, s119, s120, s121, s122, s123, s124, s125, s126, s127, s128, s129, s130, s131, s132, s133, s134, s135, s136, s137]
def arr139 : List (List Step × Ty) := [([.l], YI), ([.r, .l], YI), ([.r, .r, .l], YI), ([.r, .r, .r, .l], YI), ([.r, .r, .r, .r, .l], YI), ([.r, .r, .r, .r, .r, .l], YI), ([.r, .r, .r, .r, .r, .r, .l], YI), ([.r, .r, .r, .r, .r, .r, .r, .l], YI), ([.r, .r, .r, .r, .r, .r, .r, .r, .l], YI), ([.r, .r, .r, .r, .r, .r, .r, .r, .r, .l], YI), ([.r, .r, .r, .r, .r, .r, .r, .r, .r, .r, .l], YI), ([.r, .r, .r, .r, .r, .r, .r, .r, .r, .r, .r, .l], YI), ([.r, .r, .r, .r, .r, .r, .r, .r, .r, .r, .r, .r, .l], YI), ([.r, .r, .r, .r, .r, .r, .r, .r, .r, .r, .r, .r, .r, .l], YI), ([.r, .r, .r, .r, .r, .r, .r, .r, .r, .r, .r, .r, .r, .r, .l], YI), ([.r, .r, .r, .r, .r, .r, .r, .r, .r, .r, .r, .r, .r, .r, .r], YI)]
def arr140 : List (List Step × Ty) := [([.l], A139), ([.r, .l], A139), ([.r, .r, .l], A139), ([.r, .r, .r, .l], A139), ([.r, .r, .r, .r, .l], A139), ([.r, .r, .r, .r, .r, .l], A139), ([.r, .r, .r, .r, .r, .r, .l], A139), ([.r, .r, .r, .r, .r, .r, .r, .l], A139), ([.r, .r, .r, .r, .r, .r, .r, .r, .l], A139), ([.r, .r, .r, .r, .r, .r, .r, .r, .r, .l], A139), ([.r, .r, .r, .r, .r, .r, .r, .r, .r, .r, .l], A139), ([.r, .r, .r, .r, .r, .r, .r, .r, .r, .r, .r, .l], A139), ([.r, .r, .r, .r, .r, .r, .r, .r, .r, .r, .r, .r, .l], A139), ([.r, .r, .r, .r, .r, .r, .r, .r, .r, .r, .r, .r, .r, .l], A139), ([.r, .r, .r, .r, .r, .r, .r, .r, .r, .r, .r, .r, .r, .r, .l], A139), ([.r, .r, .r, .r, .r, .r, .r, .r, .r, .r, .r, .r, .r, .r, .r], A139)]
noncomputable def Γ : Ctx := ⟨tys, sigs, [173], true, [(139, arr139), (140, arr140)]⟩
noncomputable def Xf (O : Fun Γ) : Fun Γ := fun n => match n with
  | 4 => fun (a : Int) => (Lb.itoa a : Option ByteArray)
  | 6 => fun (a : (ByteArray × Int)) => (Lb.indexByte a.1 a.2 : Option Int)
  | 14 => fun (a : ((List ByteArray) × ByteArray)) => (Lb.join a.1 a.2 : Option ByteArray)
  | 16 => fun (a : (ByteArray × ByteArray)) => (Lb.trimSuffix a.1 a.2 : Option ByteArray)
  | 17 => fun (a : ByteArray) => (Lb.pint a : Option (Int × Bool))
  | 18 => fun (a : (ByteArray × ByteArray)) => (Lb.cut a.1 a.2 : Option (ByteArray × (ByteArray × Bool)))
  | 32 => fun (a : (ZG × Int)) => (Lb.redLap (fun (z0 : ZG) (z1 : Int) => (O 28 ((z0, z1) : (ZG × Int)) : Option Bool)) (fun (z0 : ZG) => (O 31 ((z0) : ZG) : Option (List (List Int)))) a.1 a.2 : Option (List (List Int)))
  | 53 => fun (a : ZG) => (Lb.treesOf (fun (z0 : ZG) => (O 25 ((z0) : ZG) : Option Bool)) (fun (z0 : ZG) => (O 44 ((z0) : ZG) : Option Int)) (fun (z0 : ZG) (z1 : (List Int)) => (O 52 ((z0, z1) : (ZG × (List Int))) : Option Bool)) (fun (z0 : (List Int)) => (O 11 ((z0) : (List Int)) : Option (List Int))) a : Option ((List (List Int)) × Bool))
  | 82 => fun (a : (List (List Int))) => (Lb.sortRows a : Option (List (List Int)))
  | 112 => fun (a : ((List (List Int)) × (ZG × Int))) => (Lb.delRows (fun (z0 : (List Int)) (z1 : ZG) (z2 : Int) => (O 111 ((z0, z1, z2) : ((List Int) × (ZG × Int))) : Option Bool)) a.1 a.2.1 a.2.2 : Option (List (List Int)))
  | 116 => fun (a : ((Ty.den A140) × ((Ty.den A140) × (Int × Int)))) => (Lb.addTm A140 a.1 a.2.1 a.2.2.1 a.2.2.2 : Option (Ty.den A140))
  | 120 => fun (a : ZG) => (Lb.tutOf A140 (fun (z0 : ZG) => (O 25 ((z0) : ZG) : Option Bool)) (fun (z0 : ZS) => (O 118 ((z0) : ZS) : Option (Ty.den A140))) (fun (z0 : (List Int)) => (O 119 ((z0) : (List Int)) : Option (List Int))) (fun (z0 : (List Int)) => (O 11 ((z0) : (List Int)) : Option (List Int))) a : Option ((List (List Int)) × Bool))
  | _ => fun _ => none
theorem Xlim (O : Nat → Fun Γ) (P : Fun Γ) (hO : ∀ n a, Lim (fun j => O j n a) (P n a)) (n : Nat) (a : (prodTy (Γ.insL n)).den) (h : (n == 4 || n == 6 || n == 14 || n == 16 || n == 17 || n == 18 || n == 32 || n == 53 || n == 82 || n == 112 || n == 116 || n == 120) = true) : Lim (fun j => Xf (O j) n a) (Xf P n a) := by
  simp only [Bool.or_eq_true, beq_iff_eq] at h
  rcases h with ((((((((((rfl | rfl) | rfl) | rfl) | rfl) | rfl) | rfl) | rfl) | rfl) | rfl) | rfl) | rfl
  · exact Lim.const ((fun (a : Int) => (Lb.itoa a : Option ByteArray)) a)
  · exact Lim.const ((fun (a : (ByteArray × Int)) => (Lb.indexByte a.1 a.2 : Option Int)) a)
  · exact Lim.const ((fun (a : ((List ByteArray) × ByteArray)) => (Lb.join a.1 a.2 : Option ByteArray)) a)
  · exact Lim.const ((fun (a : (ByteArray × ByteArray)) => (Lb.trimSuffix a.1 a.2 : Option ByteArray)) a)
  · exact Lim.const ((fun (a : ByteArray) => (Lb.pint a : Option (Int × Bool))) a)
  · exact Lim.const ((fun (a : (ByteArray × ByteArray)) => (Lb.cut a.1 a.2 : Option (ByteArray × (ByteArray × Bool)))) a)
  · exact Lb.redLap_lim (hO 28) (hO 31) a
  · exact Lb.treesOf_lim (hO 25) (hO 44) (hO 52) (hO 11) a
  · exact Lim.const ((fun (a : (List (List Int))) => (Lb.sortRows a : Option (List (List Int)))) a)
  · exact Lb.delRows_lim (hO 111) a
  · exact Lim.const ((fun (a : ((Ty.den A140) × ((Ty.den A140) × (Int × Int)))) => (Lb.addTm A140 a.1 a.2.1 a.2.2.1 a.2.2.2 : Option (Ty.den A140))) a)
  · exact Lb.tutOf_lim (hO 25) (hO 118) (hO 119) (hO 11) a
noncomputable def X : Ext Γ := ⟨fun n => n == 4 || n == 6 || n == 14 || n == 16 || n == 17 || n == 18 || n == 32 || n == 53 || n == 82 || n == 112 || n == 116 || n == 120, Xf, Xlim⟩
noncomputable def spec_l01New (a0 : (List Int)) : Option ((List Int) × (Int × Int)) := den Γ X 0 a0
noncomputable def spec_l01New_l0 (x0 : (List Int)) (x3 : Int) (x4 : Int) : Option ((List Int) × (Int × Int)) := atF Γ (den Γ X) 0 [1, 1, 0, 1, 0] [(0, ⟨0, 0, 0, .val .reg (.sl (.int .u8)) MT x0⟩), (3, ⟨0, 0, 0, .val .reg YI MF x3⟩), (4, ⟨0, 0, 0, .val .reg YI MF x4⟩)]
noncomputable def spec_l01Byte (a0 : ((List Int) × (Int × Int))) : Option (Int × ((List Int) × (Int × Int))) := den Γ X 1 a0
noncomputable def spec_l01Byte_c5 (x0 : ((List Int) × (Int × Int))) (x3 : Int) : Option (Int × ((List Int) × (Int × Int))) := atF Γ (den Γ X) 1 [1, 1, 1, 0, 1, 0, 1] [(0, ⟨0, 0, 0, .val .box (.cons (.sl (.int .u8)) YE) (.pr MT MP) x0⟩), (3, ⟨0, 0, 0, .val .reg YI MF x3⟩)]
noncomputable def spec_l21New (a0 : (List Int)) (a1 : Int) : Option ((List Int) × (Int × Int)) := den Γ X 2 (a0, a1)
noncomputable def spec_l21New_l0 (x1 : Int) (x6 : Int) (x8 : ((List Int) × (Int × Int))) : Option ((List Int) × (Int × Int)) := atF Γ (den Γ X) 2 [1, 1, 0, 1, 0] [(1, ⟨0, 0, 0, .val .reg YI MF x1⟩), (5, ⟨0, 0, 0, .ref .plc 8 0 0 0 [] (.cons (.sl (.int .u8)) YE)⟩), (6, ⟨0, 0, 0, .val .reg YI MF x6⟩), (8, ⟨0, 0, 0, .val .box (.cons (.sl (.int .u8)) YE) (.pr MT MP) x8⟩)]
noncomputable def spec_MakeNum (a0 : (List Int)) (a1 : Int) : Option Int := den Γ X 3 (a0, a1)
noncomputable def strconv_Itoa (a0 : Int) : Option ByteArray := den Γ X 4 a0
noncomputable def impl_FormatInt (a0 : Int) : Option ByteArray := den Γ X 5 a0
noncomputable def strings_IndexByte (a0 : ByteArray) (a1 : Int) : Option Int := den Γ X 6 (a0, a1)
noncomputable def impl_SplitAny (a0 : ByteArray) (a1 : ByteArray) : Option (List ByteArray) := den Γ X 7 (a0, a1)
noncomputable def impl_SplitAny_l0 (x0 : ByteArray) (x1 : ByteArray) (x5 : (List ByteArray)) (x6 : Int) (x7 : Int) : Option (List ByteArray) := atF Γ (den Γ X) 7 [1, 1, 1, 0, 1, 0] [(0, ⟨0, 0, 0, .val .reg .str MF x0⟩), (1, ⟨0, 0, 0, .val .reg .str MF x1⟩), (5, ⟨0, 0, 0, .val .reg YZ MO x5⟩), (6, ⟨0, 0, 0, .val .reg YI MF x6⟩), (7, ⟨0, 0, 0, .val .reg YI MF x7⟩)]
noncomputable def impl_SplitLines (a0 : ByteArray) : Option (List ByteArray) := den Γ X 8 a0
noncomputable def impl_NewConsole : Option ZC := den Γ X 9 ()
noncomputable def impl_copyGraph (a0 : ZG) : Option ZG := den Γ X 10 a0
noncomputable def impl_copyInts (a0 : (List Int)) : Option (List Int) := den Γ X 11 a0
noncomputable def impl_copyConsole (a0 : ZC) : Option ZC := den Γ X 12 a0
noncomputable def impl_within (a0 : Int) (a1 : Int) (a2 : Int) : Option Bool := den Γ X 13 (a0, a1, a2)
noncomputable def strings_Join (a0 : (List ByteArray)) (a1 : ByteArray) : Option ByteArray := den Γ X 14 (a0, a1)
noncomputable def impl_Join (a0 : (List ByteArray)) (a1 : ByteArray) : Option ByteArray := den Γ X 15 (a0, a1)
noncomputable def strings_TrimSuffix (a0 : ByteArray) (a1 : ByteArray) : Option ByteArray := den Γ X 16 (a0, a1)
noncomputable def impl_ParseInt (a0 : ByteArray) : Option (Int × Bool) := den Γ X 17 a0
noncomputable def strings_Cut (a0 : ByteArray) (a1 : ByteArray) : Option (ByteArray × (ByteArray × Bool)) := den Γ X 18 (a0, a1)
noncomputable def impl_EdgesOk (a0 : ZG) : Option Bool := den Γ X 19 a0
noncomputable def impl_EdgesOk_l0 (x1 : ZG) (x16 : ZS) (x17 : Int) (x18 : Int) : Option Bool := atF Γ (den Γ X) 19 [1, 1, 0, 1, 0] [(1, ⟨0, 0, 0, .val .box YG MT x1⟩), (16, ⟨0, 0, 0, .val .reg YS MT x16⟩), (17, ⟨0, 0, 0, .val .reg YI MF x17⟩), (18, ⟨0, 0, 0, .val .reg YI MF x18⟩)]
noncomputable def cmp_isNaN_int (a0 : Int) : Option Bool := den Γ X 20 a0
noncomputable def cmp_Compare_int (a0 : Int) (a1 : Int) : Option Int := den Γ X 21 (a0, a1)
noncomputable def impl_compareEdges (a0 : (Int × Int)) (a1 : (Int × Int)) : Option Int := den Γ X 22 (a0, a1)
noncomputable def impl_Edge__compareEdges (a0 : ZS) : Option Bool := den Γ X 23 a0
noncomputable def impl_Edge__compareEdges_l0 (x0 : ZS) (x5 : Int) : Option Bool := atF Γ (den Γ X) 23 [1, 0, 1, 0] [(0, ⟨0, 0, 0, .val .reg YS MT x0⟩), (1, ⟨0, 0, 0, .fn 160 []⟩), (5, ⟨0, 0, 0, .val .reg YI MF x5⟩)]
noncomputable def impl_connected (a0 : Int) (a1 : ZS) : Option Bool := den Γ X 24 (a0, a1)
noncomputable def impl_connected_l0 (x0 : Int) (x1 : ZS) (x5 : Int) (x8 : Int) (x9 : Int) : Option Bool := atF Γ (den Γ X) 24 [1, 1, 0, 1, 0] [(0, ⟨0, 0, 0, .val .reg YI MF x0⟩), (1, ⟨0, 0, 0, .val .reg YS MT x1⟩), (5, ⟨0, 0, 0, .val .reg YI MF x5⟩), (8, ⟨0, 0, 0, .val .reg YI MF x8⟩), (9, ⟨0, 0, 0, .val .reg YI MF x9⟩)]
noncomputable def impl_connected_l2 (x0 : Int) (x1 : ZS) (x5 : Int) (x8 : Int) (x9 : Int) (x11 : ZS) (x12 : Int) (x13 : Int) : Option Bool := atF Γ (den Γ X) 24 [1, 1, 0, 1, 0, 0, 1, 1, 0, 0, 1, 0] [(0, ⟨0, 0, 0, .val .reg YI MF x0⟩), (1, ⟨0, 0, 0, .val .reg YS MT x1⟩), (5, ⟨0, 0, 0, .val .reg YI MF x5⟩), (8, ⟨0, 0, 0, .val .reg YI MF x8⟩), (9, ⟨0, 0, 0, .val .reg YI MF x9⟩), (11, ⟨0, 0, 0, .val .reg YS MT x11⟩), (12, ⟨0, 0, 0, .val .reg YI MF x12⟩), (13, ⟨0, 0, 0, .val .reg YI MF x13⟩)]
noncomputable def impl_GraphOk (a0 : ZG) : Option Bool := den Γ X 25 a0
noncomputable def impl_FormatGraph (a0 : ZG) : Option ByteArray := den Γ X 26 a0
noncomputable def impl_FormatGraph_l0 (x3 : ByteArray) (x14 : ZS) (x15 : Int) (x16 : Int) : Option ByteArray := atF Γ (den Γ X) 26 [1, 1, 1, 0, 1, 0] [(3, ⟨0, 0, 0, .val .reg .str MF x3⟩), (14, ⟨0, 0, 0, .val .reg YS MT x14⟩), (15, ⟨0, 0, 0, .val .reg YI MF x15⟩), (16, ⟨0, 0, 0, .val .reg YI MF x16⟩)]
noncomputable def impl_ParseGraph (a0 : ByteArray) : Option (ZG × Bool) := den Γ X 27 a0
noncomputable def impl_ParseGraph_l0 (x0 : ByteArray) (x2 : ZG) (x7 : ZG) (x33 : (List ByteArray)) (x34 : Int) (x35 : Int) : Option (ZG × Bool) := atF Γ (den Γ X) 27 [1, 1, 1, 1, 1, 0, 1, 0] [(0, ⟨0, 0, 0, .val .reg .str MF x0⟩), (2, ⟨0, 0, 0, .val .box YG MG x2⟩), (7, ⟨0, 0, 0, .val .box YG MG x7⟩), (33, ⟨0, 0, 0, .val .reg YZ MF x33⟩), (34, ⟨0, 0, 0, .val .reg YI MF x34⟩), (35, ⟨0, 0, 0, .val .reg YI MF x35⟩)]
noncomputable def impl_ParseGraph_c15 (x0 : ByteArray) (x2 : ZG) (x7 : ZG) (x33 : (List ByteArray)) (x34 : Int) (x35 : Int) : Option (ZG × Bool) := atF Γ (den Γ X) 27 [1, 1, 1, 1, 1, 0, 1, 0, 0, 1, 1, 1] [(0, ⟨0, 0, 0, .val .reg .str MF x0⟩), (2, ⟨0, 0, 0, .val .box YG MG x2⟩), (7, ⟨0, 0, 0, .val .box YG (.pr MF MO) x7⟩), (33, ⟨0, 0, 0, .val .reg YZ MF x33⟩), (34, ⟨0, 0, 0, .val .reg YI MF x34⟩), (35, ⟨0, 0, 0, .val .reg YI MF x35⟩)]
noncomputable def impl_isVertex (a0 : ZG) (a1 : Int) : Option Bool := den Γ X 28 (a0, a1)
noncomputable def impl_Multiplicity (a0 : ZG) (a1 : Int) (a2 : Int) : Option Int := den Γ X 29 (a0, a1, a2)
noncomputable def impl_Multiplicity_l0 (x1 : Int) (x2 : Int) (x7 : Int) (x28 : ZS) (x29 : Int) (x30 : Int) : Option Int := atF Γ (den Γ X) 29 [1, 1, 1, 0, 1, 0] [(1, ⟨0, 0, 0, .val .reg YI MF x1⟩), (2, ⟨0, 0, 0, .val .reg YI MF x2⟩), (7, ⟨0, 0, 0, .val .reg YI MF x7⟩), (28, ⟨0, 0, 0, .val .reg YS MT x28⟩), (29, ⟨0, 0, 0, .val .reg YI MF x29⟩), (30, ⟨0, 0, 0, .val .reg YI MF x30⟩)]
noncomputable def impl_Valence (a0 : ZG) (a1 : Int) : Option Int := den Γ X 30 (a0, a1)
noncomputable def impl_Valence_l0 (x1 : Int) (x5 : Int) (x17 : ZS) (x18 : Int) (x19 : Int) : Option Int := atF Γ (den Γ X) 30 [1, 1, 1, 0, 1, 0] [(1, ⟨0, 0, 0, .val .reg YI MF x1⟩), (5, ⟨0, 0, 0, .val .reg YI MF x5⟩), (17, ⟨0, 0, 0, .val .reg YS MT x17⟩), (18, ⟨0, 0, 0, .val .reg YI MF x18⟩), (19, ⟨0, 0, 0, .val .reg YI MF x19⟩)]
noncomputable def impl_LaplacianOf (a0 : ZG) : Option (List (List Int)) := den Γ X 31 a0
noncomputable def impl_LaplacianOf_l0 (x1 : ZG) (x3 : (List (List Int))) (x4 : Int) : Option (List (List Int)) := atF Γ (den Γ X) 31 [1, 1, 1, 0, 1, 0] [(1, ⟨0, 0, 0, .val .box YG MT x1⟩), (3, ⟨0, 0, 0, .val .reg YM (.own MO) x3⟩), (4, ⟨0, 0, 0, .val .reg YI MF x4⟩)]
noncomputable def impl_LaplacianOf_l2 (x1 : ZG) (x3 : (List (List Int))) (x4 : Int) (x5 : (List Int)) (x20 : Int) (x21 : Int) : Option (List (List Int)) := atF Γ (den Γ X) 31 [1, 1, 1, 0, 1, 0, 0, 1, 0, 0, 1, 0, 1, 0] [(1, ⟨0, 0, 0, .val .box YG MT x1⟩), (3, ⟨0, 0, 0, .val .reg YM (.own MO) x3⟩), (4, ⟨0, 0, 0, .val .reg YI MF x4⟩), (5, ⟨0, 0, 0, .val .reg YL MO x5⟩), (20, ⟨0, 0, 0, .val .reg YI MF x20⟩), (21, ⟨0, 0, 0, .val .reg YI MF x21⟩)]
noncomputable def impl_ReducedLaplacian (a0 : ZG) (a1 : Int) : Option (List (List Int)) := den Γ X 32 (a0, a1)
noncomputable def impl_allWithin (a0 : (List Int)) (a1 : Int) (a2 : Int) : Option Bool := den Γ X 33 (a0, a1, a2)
noncomputable def impl_allWithin_l0 (x1 : Int) (x2 : Int) (x9 : (List Int)) (x10 : Int) (x11 : Int) : Option Bool := atF Γ (den Γ X) 33 [1, 0, 1, 0] [(1, ⟨0, 0, 0, .val .reg YI MF x1⟩), (2, ⟨0, 0, 0, .val .reg YI MF x2⟩), (9, ⟨0, 0, 0, .val .reg YL MT x9⟩), (10, ⟨0, 0, 0, .val .reg YI MF x10⟩), (11, ⟨0, 0, 0, .val .reg YI MF x11⟩)]
noncomputable def impl_MatrixOk (a0 : (List (List Int))) : Option Bool := den Γ X 34 a0
noncomputable def impl_MatrixOk_l0 (x0 : (List (List Int))) (x8 : (List (List Int))) (x9 : Int) (x10 : Int) : Option Bool := atF Γ (den Γ X) 34 [1, 1, 0, 1, 0] [(0, ⟨0, 0, 0, .val .reg YM MT x0⟩), (8, ⟨0, 0, 0, .val .reg YM MT x8⟩), (9, ⟨0, 0, 0, .val .reg YI MF x9⟩), (10, ⟨0, 0, 0, .val .reg YI MF x10⟩)]
noncomputable def impl_bitsOf (a0 : Int) : Option (List Int) := den Γ X 35 a0
noncomputable def impl_bitsOf_l0 (x0 : Int) (x3 : (List Int)) (x4 : Int) : Option (List Int) := atF Γ (den Γ X) 35 [1, 1, 0, 1, 0] [(0, ⟨0, 0, 0, .val .reg YI MF x0⟩), (3, ⟨0, 0, 0, .val .reg YL MO x3⟩), (4, ⟨0, 0, 0, .val .reg YI MF x4⟩)]
noncomputable def impl_determinant (a0 : (List (List Int))) (a1 : (List Int)) (a2 : Int) : Option Int := den Γ X 36 (a0, a1, a2)
noncomputable def impl_determinant_l0 (x0 : (List (List Int))) (x1 : (List Int)) (x2 : Int) (x7 : Int) (x8 : Int) (x19 : (List Int)) (x20 : Int) (x21 : Int) : Option Int := atF Γ (den Γ X) 36 [1, 1, 1, 0, 1, 0] [(0, ⟨0, 0, 0, .val .reg YM MT x0⟩), (1, ⟨0, 0, 0, .val .reg YL MT x1⟩), (2, ⟨0, 0, 0, .val .reg YI MF x2⟩), (7, ⟨0, 0, 0, .val .reg YI MF x7⟩), (8, ⟨0, 0, 0, .val .reg YI MF x8⟩), (19, ⟨0, 0, 0, .val .reg YL MT x19⟩), (20, ⟨0, 0, 0, .val .reg YI MF x20⟩), (21, ⟨0, 0, 0, .val .reg YI MF x21⟩)]
noncomputable def impl_magnitude (a0 : Int) : Option Int := den Γ X 37 a0
noncomputable def impl_divisor (a0 : Int) (a1 : Int) : Option Int := den Γ X 38 (a0, a1)
noncomputable def impl_divisor_l0 (x0 : Int) (x1 : Int) : Option Int := atF Γ (den Γ X) 38 [1, 0, 0] [(0, ⟨0, 0, 0, .val .reg YI MF x0⟩), (1, ⟨0, 0, 0, .val .reg YI MF x1⟩)]
noncomputable def impl_InvariantFactors (a0 : (List (List Int))) : Option (List Int) := den Γ X 39 a0
noncomputable def impl_InvariantFactors_l0 (x0 : (List (List Int))) (x3 : (List Int)) (x4 : Int) : Option (List Int) := atF Γ (den Γ X) 39 [1, 1, 1, 0, 1, 0] [(0, ⟨0, 0, 0, .val .reg YM MT x0⟩), (3, ⟨0, 0, 0, .val .reg YL MO x3⟩), (4, ⟨0, 0, 0, .val .reg YI MF x4⟩)]
noncomputable def impl_InvariantFactors_l2 (x0 : (List (List Int))) (x3 : (List Int)) (x4 : Int) (x5 : (List Int)) (x6 : Int) : Option (List Int) := atF Γ (den Γ X) 39 [1, 1, 1, 0, 1, 0, 0, 1, 0, 0, 1, 1, 0] [(0, ⟨0, 0, 0, .val .reg YM MT x0⟩), (3, ⟨0, 0, 0, .val .reg YL MO x3⟩), (4, ⟨0, 0, 0, .val .reg YI MF x4⟩), (5, ⟨0, 0, 0, .val .reg YL MO x5⟩), (6, ⟨0, 0, 0, .val .reg YI MF x6⟩)]
noncomputable def impl_InvariantFactors_l4 (x3 : (List Int)) (x7 : (List Int)) (x58 : Int) (x59 : Int) : Option (List Int) := atF Γ (den Γ X) 39 [1, 1, 1, 1, 1, 0, 1, 0] [(3, ⟨0, 0, 0, .val .reg YL MO x3⟩), (7, ⟨0, 0, 0, .val .reg YL MO x7⟩), (58, ⟨0, 0, 0, .val .reg YI MF x58⟩), (59, ⟨0, 0, 0, .val .reg YI MF x59⟩)]
noncomputable def impl_GroupFactors (a0 : ZG) : Option (List Int) := den Γ X 40 a0
noncomputable def impl_GroupFactors_l0 (x3 : (List Int)) (x11 : (List Int)) (x12 : Int) (x13 : Int) : Option (List Int) := atF Γ (den Γ X) 40 [1, 1, 1, 0, 1, 0] [(3, ⟨0, 0, 0, .val .reg YL MO x3⟩), (11, ⟨0, 0, 0, .val .reg YL MO x11⟩), (12, ⟨0, 0, 0, .val .reg YI MF x12⟩), (13, ⟨0, 0, 0, .val .reg YI MF x13⟩)]
noncomputable def impl_FormatDivisor (a0 : (List Int)) : Option ByteArray := den Γ X 41 a0
noncomputable def impl_FormatDivisor_l0 (x3 : (List ByteArray)) (x9 : (List Int)) (x10 : Int) (x11 : Int) : Option ByteArray := atF Γ (den Γ X) 41 [1, 1, 1, 0, 1, 0] [(3, ⟨0, 0, 0, .val .reg YZ MO x3⟩), (9, ⟨0, 0, 0, .val .reg YL MT x9⟩), (10, ⟨0, 0, 0, .val .reg YI MF x10⟩), (11, ⟨0, 0, 0, .val .reg YI MF x11⟩)]
noncomputable def impl_GenusOf (a0 : ZG) : Option Int := den Γ X 42 a0
noncomputable def impl_Determinant (a0 : (List (List Int))) : Option Int := den Γ X 43 a0
noncomputable def impl_CountTrees (a0 : ZG) : Option Int := den Γ X 44 a0
noncomputable def impl_GraphLine (a0 : ZG) : Option ByteArray := den Γ X 45 a0
noncomputable def impl_DivisorOk (a0 : ZG) (a1 : (List Int)) : Option Bool := den Γ X 46 (a0, a1)
noncomputable def impl_fire (a0 : ZG) (a1 : (List Int)) (a2 : Int) (a3 : Int) : Option (List Int) := den Γ X 47 (a0, a1, a2, a3)
noncomputable def impl_fire_l0 (x1 : (List Int)) (x2 : Int) (x3 : Int) (x11 : ZS) (x12 : Int) (x13 : Int) : Option (List Int) := atF Γ (den Γ X) 47 [1, 1, 0] [(1, ⟨0, 0, 0, .val .reg YL MO x1⟩), (2, ⟨0, 0, 0, .val .reg YI MF x2⟩), (3, ⟨0, 0, 0, .val .reg YI MF x3⟩), (11, ⟨0, 0, 0, .val .reg YS MT x11⟩), (12, ⟨0, 0, 0, .val .reg YI MF x12⟩), (13, ⟨0, 0, 0, .val .reg YI MF x13⟩)]
noncomputable def impl_fired (a0 : ZG) (a1 : (List Int)) (a2 : (List Int)) : Option (List Int) := den Γ X 48 (a0, a1, a2)
noncomputable def impl_fired_l0 (x3 : ZG) (x7 : (List Int)) (x12 : (List Int)) (x13 : Int) (x14 : Int) : Option (List Int) := atF Γ (den Γ X) 48 [1, 1, 0, 1, 0] [(3, ⟨0, 0, 0, .val .box YG MT x3⟩), (7, ⟨0, 0, 0, .val .reg YL MO x7⟩), (12, ⟨0, 0, 0, .val .reg YL MT x12⟩), (13, ⟨0, 0, 0, .val .reg YI MF x13⟩), (14, ⟨0, 0, 0, .val .reg YI MF x14⟩)]
noncomputable def impl_FireSet (a0 : ZG) (a1 : (List Int)) (a2 : (List Int)) : Option ((List Int) × Bool) := den Γ X 49 (a0, a1, a2)
noncomputable def impl_FireSet_l0 (x1 : (List Int)) (x3 : ZG) (x8 : (List Int)) (x18 : (List Int)) (x19 : Int) (x20 : Int) : Option ((List Int) × Bool) := atF Γ (den Γ X) 49 [1, 1, 1, 0, 1, 0] [(1, ⟨0, 0, 0, .val .reg YL MT x1⟩), (3, ⟨0, 0, 0, .val .box YG MT x3⟩), (8, ⟨0, 0, 0, .val .reg YL MO x8⟩), (18, ⟨0, 0, 0, .val .reg YL MT x18⟩), (19, ⟨0, 0, 0, .val .reg YI MF x19⟩), (20, ⟨0, 0, 0, .val .reg YI MF x20⟩)]
noncomputable def impl_RunLine_1 (a0 : (List Int)) (a1 : Bool) (a2 : ZC) (a3 : ZC) : Option (ZC × (ByteArray × ZC)) := den Γ X 50 (a0, a1, a2, a3)
noncomputable def impl_edgesOf (a0 : ZG) (a1 : (List Int)) : Option ZS := den Γ X 51 (a0, a1)
noncomputable def impl_edgesOf_l0 (x2 : ZG) (x5 : ZS) (x8 : (List Int)) (x9 : Int) (x10 : Int) : Option ZS := atF Γ (den Γ X) 51 [1, 1, 0, 1, 0] [(2, ⟨0, 0, 0, .val .box YG MT x2⟩), (5, ⟨0, 0, 0, .val .reg YS (.own MP) x5⟩), (8, ⟨0, 0, 0, .val .reg YL MT x8⟩), (9, ⟨0, 0, 0, .val .reg YI MF x9⟩), (10, ⟨0, 0, 0, .val .reg YI MF x10⟩)]
noncomputable def impl_IsTree (a0 : ZG) (a1 : (List Int)) : Option Bool := den Γ X 52 (a0, a1)
noncomputable def impl_IsTree_l0 (x1 : (List Int)) (x2 : ZG) (x5 : Int) : Option Bool := atF Γ (den Γ X) 52 [1, 1, 0, 1, 0] [(1, ⟨0, 0, 0, .val .reg YL MT x1⟩), (2, ⟨0, 0, 0, .val .box YG MT x2⟩), (5, ⟨0, 0, 0, .val .reg YI MF x5⟩)]
noncomputable def impl_TreesOf (a0 : ZG) : Option ((List (List Int)) × Bool) := den Γ X 53 a0
noncomputable def impl_isAt (a0 : ZG) (a1 : Int) (a2 : Int) : Option Bool := den Γ X 54 (a0, a1, a2)
noncomputable def impl_across (a0 : ZG) (a1 : Int) (a2 : Int) : Option Int := den Γ X 55 (a0, a1, a2)
noncomputable def slices_Index_int_int (a0 : (List Int)) (a1 : Int) : Option Int := den Γ X 56 (a0, a1)
noncomputable def slices_Index_int_int_l0 (x0 : (List Int)) (x1 : Int) (x7 : Int) (x8 : Int) : Option Int := atF Γ (den Γ X) 56 [1, 0, 1, 0] [(0, ⟨0, 0, 0, .val .reg YL MT x0⟩), (1, ⟨0, 0, 0, .val .reg YI MF x1⟩), (7, ⟨0, 0, 0, .val .reg YI MF x7⟩), (8, ⟨0, 0, 0, .val .reg YI MF x8⟩)]
noncomputable def slices_Contains_int_int (a0 : (List Int)) (a1 : Int) : Option Bool := den Γ X 57 (a0, a1)
noncomputable def impl_StateOfTree (a0 : ZG) (a1 : (List Int)) (a2 : Int) : Option ((List Int) × Bool) := den Γ X 58 (a0, a1, a2)
noncomputable def impl_StateOfTree_l0 (x1 : (List Int)) (x2 : Int) (x3 : ZG) (x8 : (List Int)) (x31 : Int) (x32 : Int) : Option ((List Int) × Bool) := atF Γ (den Γ X) 58 [1, 1, 1, 0, 1, 0] [(1, ⟨0, 0, 0, .val .reg YL MT x1⟩), (2, ⟨0, 0, 0, .val .reg YI MF x2⟩), (3, ⟨0, 0, 0, .val .box YG MT x3⟩), (8, ⟨0, 0, 0, .val .reg YL MO x8⟩), (31, ⟨0, 0, 0, .val .reg YI MF x31⟩), (32, ⟨0, 0, 0, .val .reg YI MF x32⟩)]
noncomputable def impl_StateOfTree_l2 (x1 : (List Int)) (x3 : ZG) (x8 : (List Int)) (x10 : (List Int)) (x11 : Int) : Option ((List Int) × Bool) := atF Γ (den Γ X) 58 [1, 1, 1, 1, 1, 0, 1, 0] [(1, ⟨0, 0, 0, .val .reg YL MT x1⟩), (3, ⟨0, 0, 0, .val .box YG MT x3⟩), (8, ⟨0, 0, 0, .val .reg YL MO x8⟩), (10, ⟨0, 0, 0, .val .reg YL MO x10⟩), (11, ⟨0, 0, 0, .val .reg YI MF x11⟩)]
noncomputable def impl_StateOfTree_l4 (x1 : (List Int)) (x3 : ZG) (x8 : (List Int)) (x10 : (List Int)) (x11 : Int) (x47 : (List Int)) (x48 : Int) (x49 : Int) : Option ((List Int) × Bool) := atF Γ (den Γ X) 58 [1, 1, 1, 1, 1, 0, 1, 0, 0, 1, 0, 0, 1, 0] [(1, ⟨0, 0, 0, .val .reg YL MT x1⟩), (3, ⟨0, 0, 0, .val .box YG MT x3⟩), (8, ⟨0, 0, 0, .val .reg YL MO x8⟩), (10, ⟨0, 0, 0, .val .reg YL MO x10⟩), (11, ⟨0, 0, 0, .val .reg YI MF x11⟩), (47, ⟨0, 0, 0, .val .reg YL MT x47⟩), (48, ⟨0, 0, 0, .val .reg YI MF x48⟩), (49, ⟨0, 0, 0, .val .reg YI MF x49⟩)]
noncomputable def impl_RotorsOk (a0 : ZG) (a1 : (List Int)) (a2 : Int) : Option Bool := den Γ X 59 (a0, a1, a2)
noncomputable def impl_RotorsOk_l0 (x2 : Int) (x3 : ZG) (x27 : (List Int)) (x28 : Int) (x29 : Int) : Option Bool := atF Γ (den Γ X) 59 [1, 1, 0, 1, 0] [(2, ⟨0, 0, 0, .val .reg YI MF x2⟩), (3, ⟨0, 0, 0, .val .box YG MT x3⟩), (27, ⟨0, 0, 0, .val .reg YL MT x27⟩), (28, ⟨0, 0, 0, .val .reg YI MF x28⟩), (29, ⟨0, 0, 0, .val .reg YI MF x29⟩)]
noncomputable def impl_NextRotor (a0 : ZG) (a1 : Int) (a2 : Int) : Option Int := den Γ X 60 (a0, a1, a2)
noncomputable def impl_NextRotor_l0 (x1 : Int) (x3 : ZG) (x7 : Int) (x8 : Int) : Option Int := atF Γ (den Γ X) 60 [1, 1, 1, 1, 0, 0] [(1, ⟨0, 0, 0, .val .reg YI MF x1⟩), (3, ⟨0, 0, 0, .val .box YG MT x3⟩), (7, ⟨0, 0, 0, .val .reg YI MF x7⟩), (8, ⟨0, 0, 0, .val .reg YI MF x8⟩)]
noncomputable def impl_WalkToSink (a0 : ZG) (a1 : (List Int)) (a2 : Int) (a3 : Int) : Option ((List Int) × (Int × Bool)) := den Γ X 61 (a0, a1, a2, a3)
noncomputable def impl_WalkToSink_l0 (x2 : Int) (x3 : Int) (x4 : ZG) (x11 : (List Int)) (x12 : Int) : Option ((List Int) × (Int × Bool)) := atF Γ (den Γ X) 61 [1, 1, 1, 1, 0, 0] [(2, ⟨0, 0, 0, .val .reg YI MF x2⟩), (3, ⟨0, 0, 0, .val .reg YI MF x3⟩), (4, ⟨0, 0, 0, .val .box YG MT x4⟩), (11, ⟨0, 0, 0, .val .reg YL MO x11⟩), (12, ⟨0, 0, 0, .val .reg YI MF x12⟩)]
noncomputable def impl_inDebt (a0 : (List Int)) (a1 : Int) : Option Int := den Γ X 62 (a0, a1)
noncomputable def impl_inDebt_l0 (x1 : Int) (x7 : (List Int)) (x8 : Int) (x9 : Int) : Option Int := atF Γ (den Γ X) 62 [1, 0, 1, 0] [(1, ⟨0, 0, 0, .val .reg YI MF x1⟩), (7, ⟨0, 0, 0, .val .reg YL MT x7⟩), (8, ⟨0, 0, 0, .val .reg YI MF x8⟩), (9, ⟨0, 0, 0, .val .reg YI MF x9⟩)]
noncomputable def impl_burn (a0 : ZG) (a1 : (List Int)) (a2 : Int) : Option (List Int) := den Γ X 63 (a0, a1, a2)
noncomputable def impl_burn_l0 (x1 : (List Int)) (x3 : ZG) (x7 : (List Int)) : Option (List Int) := atF Γ (den Γ X) 63 [1, 1, 0] [(1, ⟨0, 0, 0, .val .reg YL MT x1⟩), (3, ⟨0, 0, 0, .val .box YG MT x3⟩), (7, ⟨0, 0, 0, .val .reg YL MO x7⟩)]
noncomputable def impl_burn_l2 (x1 : (List Int)) (x3 : ZG) (x7 : (List Int)) (x8 : Int) (x9 : Int) : Option (List Int) := atF Γ (den Γ X) 63 [1, 1, 0, 0, 0, 1, 0, 1, 0] [(1, ⟨0, 0, 0, .val .reg YL MT x1⟩), (3, ⟨0, 0, 0, .val .box YG MT x3⟩), (7, ⟨0, 0, 0, .val .reg YL MO x7⟩), (8, ⟨0, 0, 0, .val .reg YI MF x8⟩), (9, ⟨0, 0, 0, .val .reg YI MF x9⟩)]
noncomputable def impl_burn_l4 (x1 : (List Int)) (x3 : ZG) (x7 : (List Int)) (x8 : Int) (x9 : Int) (x10 : Int) (x26 : Int) (x27 : Int) : Option (List Int) := atF Γ (den Γ X) 63 [1, 1, 0, 0, 0, 1, 0, 1, 0, 0, 1, 0, 0, 1, 0, 1, 0] [(1, ⟨0, 0, 0, .val .reg YL MT x1⟩), (3, ⟨0, 0, 0, .val .box YG MT x3⟩), (7, ⟨0, 0, 0, .val .reg YL MO x7⟩), (8, ⟨0, 0, 0, .val .reg YI MF x8⟩), (9, ⟨0, 0, 0, .val .reg YI MF x9⟩), (10, ⟨0, 0, 0, .val .reg YI MF x10⟩), (25, ⟨0, 0, 0, .ref .ali 7 0 0 0 [] YL⟩), (26, ⟨0, 0, 0, .val .reg YI MF x26⟩), (27, ⟨0, 0, 0, .val .reg YI MF x27⟩)]
noncomputable def impl_reduce (a0 : ZG) (a1 : (List Int)) (a2 : Int) : Option ((List Int) × (List Int)) := den Γ X 64 (a0, a1, a2)
noncomputable def impl_reduce_l0 (x2 : Int) (x3 : ZG) (x8 : (List Int)) (x9 : (List Int)) (x10 : Int) : Option ((List Int) × (List Int)) := atF Γ (den Γ X) 64 [1, 1, 1, 0, 1, 0] [(2, ⟨0, 0, 0, .val .reg YI MF x2⟩), (3, ⟨0, 0, 0, .val .box YG MT x3⟩), (8, ⟨0, 0, 0, .val .reg YL MO x8⟩), (9, ⟨0, 0, 0, .val .reg YL MO x9⟩), (10, ⟨0, 0, 0, .val .reg YI MF x10⟩)]
noncomputable def impl_reduce_l2 (x2 : Int) (x3 : ZG) (x8 : (List Int)) (x9 : (List Int)) : Option ((List Int) × (List Int)) := atF Γ (den Γ X) 64 [1, 1, 1, 1, 0] [(2, ⟨0, 0, 0, .val .reg YI MF x2⟩), (3, ⟨0, 0, 0, .val .box YG MT x3⟩), (8, ⟨0, 0, 0, .val .reg YL MO x8⟩), (9, ⟨0, 0, 0, .val .reg YL MO x9⟩)]
noncomputable def impl_reduce_l4 (x2 : Int) (x3 : ZG) (x8 : (List Int)) (x9 : (List Int)) (x13 : (List Int)) (x65 : Int) (x66 : Int) : Option ((List Int) × (List Int)) := atF Γ (den Γ X) 64 [1, 1, 1, 1, 0, 0, 0, 1, 1, 1, 0] [(2, ⟨0, 0, 0, .val .reg YI MF x2⟩), (3, ⟨0, 0, 0, .val .box YG MT x3⟩), (8, ⟨0, 0, 0, .val .reg YL MO x8⟩), (9, ⟨0, 0, 0, .val .reg YL MO x9⟩), (13, ⟨0, 0, 0, .val .reg YL MO x13⟩), (65, ⟨0, 0, 0, .val .reg YI MF x65⟩), (66, ⟨0, 0, 0, .val .reg YI MF x66⟩)]
noncomputable def impl_ReducedOf (a0 : ZG) (a1 : (List Int)) (a2 : Int) : Option ((List Int) × Bool) := den Γ X 65 (a0, a1, a2)
noncomputable def impl_IsEffective (a0 : (List Int)) : Option Bool := den Γ X 66 a0
noncomputable def impl_IsEffective_l0 (x5 : (List Int)) (x6 : Int) (x7 : Int) : Option Bool := atF Γ (den Γ X) 66 [1, 0, 1, 0] [(5, ⟨0, 0, 0, .val .reg YL MT x5⟩), (6, ⟨0, 0, 0, .val .reg YI MF x6⟩), (7, ⟨0, 0, 0, .val .reg YI MF x7⟩)]
noncomputable def impl_PileOk (a0 : ZG) (a1 : (List Int)) (a2 : Int) : Option Bool := den Γ X 67 (a0, a1, a2)
noncomputable def impl_unstable (a0 : ZG) (a1 : (List Int)) (a2 : Int) : Option Int := den Γ X 68 (a0, a1, a2)
noncomputable def impl_unstable_l0 (x2 : Int) (x3 : ZG) (x9 : (List Int)) (x10 : Int) (x11 : Int) : Option Int := atF Γ (den Γ X) 68 [1, 0, 1, 0] [(2, ⟨0, 0, 0, .val .reg YI MF x2⟩), (3, ⟨0, 0, 0, .val .box YG MT x3⟩), (9, ⟨0, 0, 0, .val .reg YL MT x9⟩), (10, ⟨0, 0, 0, .val .reg YI MF x10⟩), (11, ⟨0, 0, 0, .val .reg YI MF x11⟩)]
noncomputable def impl_stabilize (a0 : ZG) (a1 : (List Int)) (a2 : Int) : Option ((List Int) × (List Int)) := den Γ X 69 (a0, a1, a2)
noncomputable def impl_stabilize_l0 (x2 : Int) (x3 : ZG) (x8 : (List Int)) (x9 : (List Int)) (x10 : Int) : Option ((List Int) × (List Int)) := atF Γ (den Γ X) 69 [1, 1, 1, 0, 1, 0] [(2, ⟨0, 0, 0, .val .reg YI MF x2⟩), (3, ⟨0, 0, 0, .val .box YG MT x3⟩), (8, ⟨0, 0, 0, .val .reg YL MO x8⟩), (9, ⟨0, 0, 0, .val .reg YL MO x9⟩), (10, ⟨0, 0, 0, .val .reg YI MF x10⟩)]
noncomputable def impl_Stabilize (a0 : ZG) (a1 : (List Int)) (a2 : Int) : Option ((List Int) × ((List Int) × Bool)) := den Γ X 70 (a0, a1, a2)
noncomputable def impl_sumOf (a0 : (List Int)) : Option Int := den Γ X 71 a0
noncomputable def impl_sumOf_l0 (x3 : Int) (x6 : (List Int)) (x7 : Int) (x8 : Int) : Option Int := atF Γ (den Γ X) 71 [1, 1, 0, 1, 0] [(3, ⟨0, 0, 0, .val .reg YI MF x3⟩), (6, ⟨0, 0, 0, .val .reg YL MT x6⟩), (7, ⟨0, 0, 0, .val .reg YI MF x7⟩), (8, ⟨0, 0, 0, .val .reg YI MF x8⟩)]
noncomputable def impl_winnable (a0 : ZG) (a1 : (List Int)) : Option Bool := den Γ X 72 (a0, a1)
noncomputable def impl_IsWinnable (a0 : ZG) (a1 : (List Int)) : Option Bool := den Γ X 73 (a0, a1)
noncomputable def slices_Min_int_int (a0 : (List Int)) : Option Int := den Γ X 74 a0
noncomputable def slices_Min_int_int_l0 (x0 : (List Int)) (x3 : Int) (x4 : Int) : Option Int := atF Γ (den Γ X) 74 [1, 1, 1, 0, 1, 0] [(0, ⟨0, 0, 0, .val .reg YL MT x0⟩), (3, ⟨0, 0, 0, .val .reg YI MF x3⟩), (4, ⟨0, 0, 0, .val .reg YI MF x4⟩)]
noncomputable def impl_fromZero (a0 : (List Int)) : Option (List Int) := den Γ X 75 a0
noncomputable def impl_fromZero_l0 (x3 : (List Int)) (x4 : Int) (x11 : Int) (x12 : Int) : Option (List Int) := atF Γ (den Γ X) 75 [1, 1, 1, 0, 1, 0] [(3, ⟨0, 0, 0, .val .reg YL MO x3⟩), (4, ⟨0, 0, 0, .val .reg YI MF x4⟩), (11, ⟨0, 0, 0, .val .reg YI MF x11⟩), (12, ⟨0, 0, 0, .val .reg YI MF x12⟩)]
noncomputable def impl_WinningScript (a0 : ZG) (a1 : (List Int)) : Option ((List Int) × Bool) := den Γ X 76 (a0, a1)
noncomputable def impl_burnt (a0 : ZG) (a1 : (List Int)) : Option (List Int) := den Γ X 77 (a0, a1)
noncomputable def impl_burnt_l0 (x1 : (List Int)) (x5 : (List Int)) (x9 : ZS) (x10 : Int) (x11 : Int) : Option (List Int) := atF Γ (den Γ X) 77 [1, 1, 0, 1, 0] [(1, ⟨0, 0, 0, .val .reg YL MT x1⟩), (5, ⟨0, 0, 0, .val .reg YL MO x5⟩), (9, ⟨0, 0, 0, .val .reg YS MT x9⟩), (10, ⟨0, 0, 0, .val .reg YI MF x10⟩), (11, ⟨0, 0, 0, .val .reg YI MF x11⟩)]
noncomputable def impl_OrientOfRank (a0 : ZG) (a1 : (List Int)) : Option ((List Int) × Bool) := den Γ X 78 (a0, a1)
noncomputable def impl_WinLine (a0 : ZG) (a1 : (List Int)) : Option ByteArray := den Γ X 79 (a0, a1)
noncomputable def impl_orNone (a0 : ByteArray) : Option ByteArray := den Γ X 80 a0
noncomputable def impl_DegreeOf (a0 : (List Int)) : Option Int := den Γ X 81 a0
noncomputable def slices_SortFunc_int_int__Compare_int_int (a0 : (List (List Int))) : Option (List (List Int)) := den Γ X 82 a0
noncomputable def impl_effectiveIn (a0 : ZG) (a1 : (List Int)) : Option (List (List Int)) := den Γ X 83 (a0, a1)
noncomputable def impl_effectiveIn_l0 (x2 : ZG) (x8 : (List (List Int))) (x10 : Int) (x32 : (List (ByteArray × Int))) : Option (List (List Int)) := atF Γ (den Γ X) 83 [1, 1, 1, 1, 1, 1, 0, 1, 0] [(2, ⟨0, 0, 0, .val .box YG MT x2⟩), (8, ⟨0, 0, 0, .val .reg YM MO x8⟩), (9, ⟨0, 0, 0, .ref .ali 32 0 0 0 [] (.sl (.cons .str YI))⟩), (10, ⟨0, 0, 0, .val .reg YI MF x10⟩), (32, ⟨0, 0, 0, .val .map (.sl (.cons .str YI)) .gone x32⟩)]
noncomputable def impl_effectiveIn_l2 (x2 : ZG) (x8 : (List (List Int))) (x10 : Int) (x11 : Int) (x32 : (List (ByteArray × Int))) : Option (List (List Int)) := atF Γ (den Γ X) 83 [1, 1, 1, 1, 1, 1, 0, 1, 0, 0, 1, 0, 0, 1, 0] [(2, ⟨0, 0, 0, .val .box YG MT x2⟩), (8, ⟨0, 0, 0, .val .reg YM MO x8⟩), (9, ⟨0, 0, 0, .ref .ali 32 0 0 0 [] (.sl (.cons .str YI))⟩), (10, ⟨0, 0, 0, .val .reg YI MF x10⟩), (11, ⟨0, 0, 0, .val .reg YI MF x11⟩), (32, ⟨0, 0, 0, .val .map (.sl (.cons .str YI)) .gone x32⟩)]
noncomputable def impl_effectiveIn_l4 (x2 : ZG) (x8 : (List (List Int))) (x10 : Int) (x11 : Int) (x12 : (List Int)) (x32 : (List (ByteArray × Int))) (x56 : Int) (x57 : Int) : Option (List (List Int)) := atF Γ (den Γ X) 83 [1, 1, 1, 1, 1, 1, 0, 1, 0, 0, 1, 0, 0, 1, 0, 0, 1, 0, 0, 1, 0, 1, 0] [(2, ⟨0, 0, 0, .val .box YG MT x2⟩), (8, ⟨0, 0, 0, .val .reg YM MO x8⟩), (9, ⟨0, 0, 0, .ref .ali 32 0 0 0 [] (.sl (.cons .str YI))⟩), (10, ⟨0, 0, 0, .val .reg YI MF x10⟩), (11, ⟨0, 0, 0, .val .reg YI MF x11⟩), (12, ⟨0, 0, 0, .val .reg YL MO x12⟩), (32, ⟨0, 0, 0, .val .map (.sl (.cons .str YI)) .gone x32⟩), (56, ⟨0, 0, 0, .val .reg YI MF x56⟩), (57, ⟨0, 0, 0, .val .reg YI MF x57⟩)]
noncomputable def impl_effective (a0 : Int) (a1 : Int) : Option (List (List Int)) := den Γ X 84 (a0, a1)
noncomputable def impl_effective_l0 (x0 : Int) (x1 : Int) (x5 : (List (List Int))) (x6 : Int) : Option (List (List Int)) := atF Γ (den Γ X) 84 [1, 1, 1, 0, 1, 0] [(0, ⟨0, 0, 0, .val .reg YI MF x0⟩), (1, ⟨0, 0, 0, .val .reg YI MF x1⟩), (5, ⟨0, 0, 0, .val .reg YM MO x5⟩), (6, ⟨0, 0, 0, .val .reg YI MF x6⟩)]
noncomputable def impl_effective_l2 (x0 : Int) (x1 : Int) (x5 : (List (List Int))) (x6 : Int) (x24 : (List (List Int))) (x25 : Int) (x26 : Int) : Option (List (List Int)) := atF Γ (den Γ X) 84 [1, 1, 1, 0, 1, 0, 0, 1, 0, 0, 1, 0] [(0, ⟨0, 0, 0, .val .reg YI MF x0⟩), (1, ⟨0, 0, 0, .val .reg YI MF x1⟩), (5, ⟨0, 0, 0, .val .reg YM MO x5⟩), (6, ⟨0, 0, 0, .val .reg YI MF x6⟩), (24, ⟨0, 0, 0, .val .reg YM MO x24⟩), (25, ⟨0, 0, 0, .val .reg YI MF x25⟩), (26, ⟨0, 0, 0, .val .reg YI MF x26⟩)]
noncomputable def impl_covers (a0 : (List Int)) (a1 : (List Int)) : Option Bool := den Γ X 85 (a0, a1)
noncomputable def impl_covers_l0 (x0 : (List Int)) (x7 : (List Int)) (x8 : Int) (x9 : Int) : Option Bool := atF Γ (den Γ X) 85 [1, 0, 1, 0] [(0, ⟨0, 0, 0, .val .reg YL MT x0⟩), (7, ⟨0, 0, 0, .val .reg YL MT x7⟩), (8, ⟨0, 0, 0, .val .reg YI MF x8⟩), (9, ⟨0, 0, 0, .val .reg YI MF x9⟩)]
noncomputable def impl_rank_1 (a0 : (List Int)) (a1 : (List Int)) : Option Bool := den Γ X 86 (a0, a1)
noncomputable def slices_IndexFunc_int_int__rank_1 (a0 : (List (List Int))) (a1 : (List Int)) : Option Int := den Γ X 87 (a0, a1)
noncomputable def slices_IndexFunc_int_int__rank_1_l0 (x0 : (List (List Int))) (x1 : (List Int)) (x7 : Int) (x8 : Int) : Option Int := atF Γ (den Γ X) 87 [1, 0, 1, 0] [(0, ⟨0, 0, 0, .val .reg YM MT x0⟩), (1, ⟨0, 0, 0, .val (.pin (some 253)) YL MT x1⟩), (7, ⟨0, 0, 0, .val .reg YI MF x7⟩), (8, ⟨0, 0, 0, .val .reg YI MF x8⟩)]
noncomputable def slices_ContainsFunc_int_int__rank_1 (a0 : (List (List Int))) (a1 : (List Int)) : Option Bool := den Γ X 88 (a0, a1)
noncomputable def impl_rank (a0 : ZG) (a1 : (List Int)) : Option (Int × (List Int)) := den Γ X 89 (a0, a1)
noncomputable def impl_rank_l0 (x2 : ZG) (x6 : (List (List Int))) (x7 : Int) : Option (Int × (List Int)) := atF Γ (den Γ X) 89 [1, 1, 1, 0] [(2, ⟨0, 0, 0, .val .box YG MT x2⟩), (6, ⟨0, 0, 0, .val .reg YM MO x6⟩), (7, ⟨0, 0, 0, .val .reg YI MF x7⟩)]
noncomputable def impl_rank_l2 (x2 : ZG) (x6 : (List (List Int))) (x7 : Int) (x18 : (List (List Int))) (x19 : Int) (x20 : Int) : Option (Int × (List Int)) := atF Γ (den Γ X) 89 [1, 1, 1, 0, 0, 0, 0, 1, 0] [(2, ⟨0, 0, 0, .val .box YG MT x2⟩), (6, ⟨0, 0, 0, .val .reg YM MO x6⟩), (7, ⟨0, 0, 0, .val .reg YI MF x7⟩), (18, ⟨0, 0, 0, .val .reg YM MO x18⟩), (19, ⟨0, 0, 0, .val .reg YI MF x19⟩), (20, ⟨0, 0, 0, .val .reg YI MF x20⟩)]
noncomputable def impl_RankOf (a0 : ZG) (a1 : (List Int)) : Option (Int × Bool) := den Γ X 90 (a0, a1)
noncomputable def impl_RankWitness (a0 : ZG) (a1 : (List Int)) : Option ((List Int) × Bool) := den Γ X 91 (a0, a1)
noncomputable def impl_RankLine (a0 : ZG) (a1 : (List Int)) : Option ByteArray := den Γ X 92 (a0, a1)
noncomputable def impl_CanonicalOf (a0 : ZG) : Option (List Int) := den Γ X 93 a0
noncomputable def impl_CanonicalOf_l0 (x1 : ZG) (x3 : (List Int)) (x4 : Int) : Option (List Int) := atF Γ (den Γ X) 93 [1, 1, 1, 0, 1, 0] [(1, ⟨0, 0, 0, .val .box YG MT x1⟩), (3, ⟨0, 0, 0, .val .reg YL MO x3⟩), (4, ⟨0, 0, 0, .val .reg YI MF x4⟩)]
noncomputable def impl_NegateDivisor (a0 : (List Int)) : Option (List Int) := den Γ X 94 a0
noncomputable def impl_NegateDivisor_l0 (x3 : (List Int)) (x8 : Int) (x9 : Int) : Option (List Int) := atF Γ (den Γ X) 94 [1, 1, 0, 1, 0] [(3, ⟨0, 0, 0, .val .reg YL MO x3⟩), (8, ⟨0, 0, 0, .val .reg YI MF x8⟩), (9, ⟨0, 0, 0, .val .reg YI MF x9⟩)]
noncomputable def impl_plus (a0 : (List Int)) (a1 : (List Int)) : Option (List Int) := den Γ X 95 (a0, a1)
noncomputable def impl_plus_l0 (x1 : (List Int)) (x5 : (List Int)) (x10 : Int) (x11 : Int) : Option (List Int) := atF Γ (den Γ X) 95 [1, 1, 0, 1, 0] [(1, ⟨0, 0, 0, .val .reg YL MT x1⟩), (5, ⟨0, 0, 0, .val .reg YL MO x5⟩), (10, ⟨0, 0, 0, .val .reg YI MF x10⟩), (11, ⟨0, 0, 0, .val .reg YI MF x11⟩)]
noncomputable def impl_ResidualOf (a0 : ZG) (a1 : (List Int)) : Option ((List Int) × Bool) := den Γ X 96 (a0, a1)
noncomputable def impl_RiemannRoch (a0 : ZG) (a1 : (List Int)) : Option (Int × (Int × Bool)) := den Γ X 97 (a0, a1)
noncomputable def impl_RiemannLine (a0 : ZG) (a1 : (List Int)) : Option ByteArray := den Γ X 98 (a0, a1)
noncomputable def impl_IsStable (a0 : ZG) (a1 : (List Int)) (a2 : Int) : Option Bool := den Γ X 99 (a0, a1, a2)
noncomputable def slices_Equal_int_int (a0 : (List Int)) (a1 : (List Int)) : Option Bool := den Γ X 100 (a0, a1)
noncomputable def slices_Equal_int_int_l0 (x0 : (List Int)) (x1 : (List Int)) (x12 : Int) (x13 : Int) : Option Bool := atF Γ (den Γ X) 100 [1, 1, 0, 1, 0] [(0, ⟨0, 0, 0, .val .reg YL MT x0⟩), (1, ⟨0, 0, 0, .val .reg YL MT x1⟩), (12, ⟨0, 0, 0, .val .reg YI MF x12⟩), (13, ⟨0, 0, 0, .val .reg YI MF x13⟩)]
noncomputable def impl_SameDivisor (a0 : (List Int)) (a1 : (List Int)) : Option Bool := den Γ X 101 (a0, a1)
noncomputable def impl_IsRecurrent (a0 : ZG) (a1 : (List Int)) (a2 : Int) : Option Bool := den Γ X 102 (a0, a1, a2)
noncomputable def impl_IsRecurrent_l0 (x1 : (List Int)) (x2 : Int) (x8 : (List Int)) (x9 : (List Int)) (x34 : Int) (x35 : Int) : Option Bool := atF Γ (den Γ X) 102 [1, 1, 1, 1, 1, 1, 0, 1, 0] [(1, ⟨0, 0, 0, .val .reg YL MT x1⟩), (2, ⟨0, 0, 0, .val .reg YI MF x2⟩), (8, ⟨0, 0, 0, .val .reg YL MO x8⟩), (9, ⟨0, 0, 0, .val .reg YL MO x9⟩), (33, ⟨0, 0, 0, .ref .ali 9 0 0 0 [] YL⟩), (34, ⟨0, 0, 0, .val .reg YI MF x34⟩), (35, ⟨0, 0, 0, .val .reg YI MF x35⟩)]
noncomputable def impl_PileLine (a0 : ZG) (a1 : (List Int)) (a2 : Int) : Option ByteArray := den Γ X 103 (a0, a1, a2)
noncomputable def impl_EffectiveIn (a0 : ZG) (a1 : (List Int)) : Option ((List (List Int)) × Bool) := den Γ X 104 (a0, a1)
noncomputable def impl_ListLines (a0 : (List (List Int))) : Option (List ByteArray) := den Γ X 105 a0
noncomputable def impl_ListLines_l0 (x3 : (List ByteArray)) (x6 : (List (List Int))) (x7 : Int) (x8 : Int) : Option (List ByteArray) := atF Γ (den Γ X) 105 [1, 1, 0, 1, 0] [(3, ⟨0, 0, 0, .val .reg YZ MO x3⟩), (6, ⟨0, 0, 0, .val .reg YM MT x6⟩), (7, ⟨0, 0, 0, .val .reg YI MF x7⟩), (8, ⟨0, 0, 0, .val .reg YI MF x8⟩)]
noncomputable def impl_listed (a0 : (List (List Int))) (a1 : Bool) : Option ByteArray := den Γ X 106 (a0, a1)
noncomputable def impl_FullPile (a0 : ZG) (a1 : Int) : Option (List Int) := den Γ X 107 (a0, a1)
noncomputable def impl_FullPile_l0 (x1 : Int) (x2 : ZG) (x5 : (List Int)) (x15 : Int) (x16 : Int) : Option (List Int) := atF Γ (den Γ X) 107 [1, 1, 1, 0, 1, 0] [(1, ⟨0, 0, 0, .val .reg YI MF x1⟩), (2, ⟨0, 0, 0, .val .box YG MT x2⟩), (5, ⟨0, 0, 0, .val .reg YL MO x5⟩), (15, ⟨0, 0, 0, .val .reg YI MF x15⟩), (16, ⟨0, 0, 0, .val .reg YI MF x16⟩)]
noncomputable def impl_recurrentOf (a0 : ZG) (a1 : (List Int)) (a2 : Int) : Option (List Int) := den Γ X 108 (a0, a1, a2)
noncomputable def impl_IdentityPile (a0 : ZG) (a1 : Int) : Option ((List Int) × Bool) := den Γ X 109 (a0, a1)
noncomputable def impl_GroupOrder (a0 : ZG) : Option Int := den Γ X 110 a0
noncomputable def impl_reducedAt_1 (a0 : (List Int)) (a1 : ZG) (a2 : Int) : Option Bool := den Γ X 111 (a0, a1, a2)
noncomputable def slices_DeleteFunc_int_int__reducedAt_1 (a0 : (List (List Int))) (a1 : ZG) (a2 : Int) : Option (List (List Int)) := den Γ X 112 (a0, a1, a2)
noncomputable def impl_reducedAt (a0 : ZG) (a1 : Int) : Option (List (List Int)) := den Γ X 113 (a0, a1)
noncomputable def impl_reducedAt_l0 (x2 : ZG) (x3 : Int) (x5 : (List (List Int))) (x6 : Int) : Option (List (List Int)) := atF Γ (den Γ X) 113 [1, 1, 0, 1, 0] [(2, ⟨0, 0, 0, .val .box YG MT x2⟩), (3, ⟨0, 0, 0, .val .box YI MF x3⟩), (5, ⟨0, 0, 0, .val .reg YM (.own MO) x5⟩), (6, ⟨0, 0, 0, .val .reg YI MF x6⟩)]
noncomputable def impl_reducedAt_l2 (x2 : ZG) (x3 : Int) (x5 : (List (List Int))) (x6 : Int) (x7 : Int) (x8 : (List (List Int))) (x27 : Int) (x28 : Int) : Option (List (List Int)) := atF Γ (den Γ X) 113 [1, 1, 0, 1, 0, 0, 1, 0, 0, 1, 1, 1, 0, 1, 0] [(2, ⟨0, 0, 0, .val .box YG MT x2⟩), (3, ⟨0, 0, 0, .val .box YI MF x3⟩), (5, ⟨0, 0, 0, .val .reg YM (.own MO) x5⟩), (6, ⟨0, 0, 0, .val .reg YI MF x6⟩), (7, ⟨0, 0, 0, .val .reg YI MF x7⟩), (8, ⟨0, 0, 0, .val .reg YM (.own MO) x8⟩), (26, ⟨0, 0, 0, .ref .ali 5 0 0 0 [] YM⟩), (27, ⟨0, 0, 0, .val .reg YI MF x27⟩), (28, ⟨0, 0, 0, .val .reg YI MF x28⟩)]
noncomputable def impl_reducedAt_l4 (x2 : ZG) (x3 : Int) (x5 : (List (List Int))) (x6 : Int) (x7 : Int) (x8 : (List (List Int))) (x11 : Int) (x27 : Int) (x28 : Int) (i10_0 : Nat) : Option (List (List Int)) := atF Γ (den Γ X) 113 [1, 1, 0, 1, 0, 0, 1, 0, 0, 1, 1, 1, 0, 1, 0, 0, 1, 1, 0, 0, 1, 1, 0] [(2, ⟨0, 0, 0, .val .box YG MT x2⟩), (3, ⟨0, 0, 0, .val .box YI MF x3⟩), (5, ⟨0, 0, 0, .val .reg YM (.own MO) x5⟩), (6, ⟨0, 0, 0, .val .reg YI MF x6⟩), (7, ⟨0, 0, 0, .val .reg YI MF x7⟩), (8, ⟨0, 0, 0, .val .reg YM (.own MO) x8⟩), (10, ⟨0, 0, 0, .ref .ali 5 0 0 0 [.at i10_0] YL⟩), (11, ⟨0, 0, 0, .val .reg YI MF x11⟩), (26, ⟨0, 0, 0, .ref .ali 5 0 0 0 [] YM⟩), (27, ⟨0, 0, 0, .val .reg YI MF x27⟩), (28, ⟨0, 0, 0, .val .reg YI MF x28⟩)]
noncomputable def impl_RecurrentPiles (a0 : ZG) (a1 : Int) : Option ((List (List Int)) × Bool) := den Γ X 114 (a0, a1)
noncomputable def impl_RecurrentPiles_l0 (x6 : (List Int)) (x7 : (List (List Int))) (x24 : (List (List Int))) (x25 : Int) (x26 : Int) : Option ((List (List Int)) × Bool) := atF Γ (den Γ X) 114 [1, 1, 1, 1, 0, 1, 0] [(6, ⟨0, 0, 0, .val .reg YL MO x6⟩), (7, ⟨0, 0, 0, .val .reg YM MO x7⟩), (24, ⟨0, 0, 0, .val .reg YM (.own MO) x24⟩), (25, ⟨0, 0, 0, .val .reg YI MF x25⟩), (26, ⟨0, 0, 0, .val .reg YI MF x26⟩)]
noncomputable def impl_ParkingsOf (a0 : ZG) (a1 : Int) : Option ((List (List Int)) × Bool) := den Γ X 115 (a0, a1)
noncomputable def impl_ParkingsOf_l0 (x1 : Int) (x6 : (List (List Int))) (x22 : Int) (x23 : Int) : Option ((List (List Int)) × Bool) := atF Γ (den Γ X) 115 [1, 1, 1, 0, 1, 0] [(1, ⟨0, 0, 0, .val .reg YI MF x1⟩), (6, ⟨0, 0, 0, .val .reg YM (.own MO) x6⟩), (21, ⟨0, 0, 0, .ref .ali 6 0 0 0 [] YM⟩), (22, ⟨0, 0, 0, .val .reg YI MF x22⟩), (23, ⟨0, 0, 0, .val .reg YI MF x23⟩)]
noncomputable def impl_addTerms (a0 : (Ty.den A140)) (a1 : (Ty.den A140)) (a2 : Int) (a3 : Int) : Option (Ty.den A140) := den Γ X 116 (a0, a1, a2, a3)
noncomputable def impl_joins (a0 : ZS) (a1 : Int) (a2 : Int) : Option Bool := den Γ X 117 (a0, a1, a2)
noncomputable def impl_joins_l0 (x0 : ZS) (x2 : Int) (x7 : Int) (x13 : Int) (x14 : Int) : Option Bool := atF Γ (den Γ X) 117 [1, 1, 0, 1, 0] [(0, ⟨0, 0, 0, .val .reg YS MT x0⟩), (2, ⟨0, 0, 0, .val .reg YI MF x2⟩), (7, ⟨0, 0, 0, .val .reg YI MF x7⟩), (13, ⟨0, 0, 0, .val .reg YI MF x13⟩), (14, ⟨0, 0, 0, .val .reg YI MF x14⟩)]
noncomputable def impl_joins_l2 (x0 : ZS) (x2 : Int) (x7 : Int) (x13 : Int) (x14 : Int) (x16 : ZS) (x17 : Int) (x18 : Int) : Option Bool := atF Γ (den Γ X) 117 [1, 1, 0, 1, 0, 0, 1, 1, 0, 0, 1, 0] [(0, ⟨0, 0, 0, .val .reg YS MT x0⟩), (2, ⟨0, 0, 0, .val .reg YI MF x2⟩), (7, ⟨0, 0, 0, .val .reg YI MF x7⟩), (13, ⟨0, 0, 0, .val .reg YI MF x13⟩), (14, ⟨0, 0, 0, .val .reg YI MF x14⟩), (16, ⟨0, 0, 0, .val .reg YS MT x16⟩), (17, ⟨0, 0, 0, .val .reg YI MF x17⟩), (18, ⟨0, 0, 0, .val .reg YI MF x18⟩)]
noncomputable def impl_tutte (a0 : ZS) : Option (Ty.den A140) := den Γ X 118 a0
noncomputable def impl_tutte_l0 (x2 : (Ty.den A140)) (x3 : (Ty.den A140)) (x4 : (Int × Int)) (x5 : ZS) (x6 : ZS) (x29 : ZS) (x30 : Int) (x31 : Int) : Option (Ty.den A140) := atF Γ (den Γ X) 118 [1, 1, 1, 1, 1, 1, 0, 1, 0] [(2, ⟨0, 0, 0, .val .box A140 (Ty.mine A140) x2⟩), (3, ⟨0, 0, 0, .val .box A140 (Ty.mine A140) x3⟩), (4, ⟨0, 0, 0, .val .box YE MP x4⟩), (5, ⟨0, 0, 0, .val .reg YS MT x5⟩), (6, ⟨0, 0, 0, .val .reg YS (.own MP) x6⟩), (29, ⟨0, 0, 0, .val .reg YS MT x29⟩), (30, ⟨0, 0, 0, .val .reg YI MF x30⟩), (31, ⟨0, 0, 0, .val .reg YI MF x31⟩)]
noncomputable def impl_trimmed (a0 : (List Int)) : Option (List Int) := den Γ X 119 a0
noncomputable def impl_trimmed_l0 (x0 : (List Int)) : Option (List Int) := atF Γ (den Γ X) 119 [1, 0, 0] [(0, ⟨0, 0, 0, .val .reg YL MT x0⟩)]
noncomputable def impl_TutteOf (a0 : ZG) : Option ((List (List Int)) × Bool) := den Γ X 120 a0
noncomputable def impl_powerText (a0 : ByteArray) (a1 : Int) : Option ByteArray := den Γ X 121 (a0, a1)
noncomputable def impl_FormatPolynomial (a0 : (List (List Int))) : Option ByteArray := den Γ X 122 a0
noncomputable def impl_FormatPolynomial_l0 (x3 : (List ByteArray)) (x9 : (List (List Int))) (x10 : Int) (x11 : Int) : Option ByteArray := atF Γ (den Γ X) 122 [1, 1, 0, 1, 0] [(3, ⟨0, 0, 0, .val .reg YZ MO x3⟩), (9, ⟨0, 0, 0, .val .reg YM MT x9⟩), (10, ⟨0, 0, 0, .val .reg YI MF x10⟩), (11, ⟨0, 0, 0, .val .reg YI MF x11⟩)]
noncomputable def impl_FormatPolynomial_l2 (x3 : (List ByteArray)) (x4 : Int) (x9 : (List (List Int))) (x10 : Int) (x11 : Int) (x16 : (List Int)) (x17 : Int) (x18 : Int) : Option ByteArray := atF Γ (den Γ X) 122 [1, 1, 0, 1, 0, 0, 1, 1, 0, 0, 1, 1, 0] [(3, ⟨0, 0, 0, .val .reg YZ MO x3⟩), (4, ⟨0, 0, 0, .val .reg YI MF x4⟩), (9, ⟨0, 0, 0, .val .reg YM MT x9⟩), (10, ⟨0, 0, 0, .val .reg YI MF x10⟩), (11, ⟨0, 0, 0, .val .reg YI MF x11⟩), (16, ⟨0, 0, 0, .val .reg YL MT x16⟩), (17, ⟨0, 0, 0, .val .reg YI MF x17⟩), (18, ⟨0, 0, 0, .val .reg YI MF x18⟩)]
noncomputable def impl_oneAt (a0 : ZG) (a1 : Int) (a2 : Int) : Option (List Int) := den Γ X 123 (a0, a1, a2)
noncomputable def impl_reaches (a0 : ZG) (a1 : (List Int)) : Option Bool := den Γ X 124 (a0, a1)
noncomputable def impl_reaches_l0 (x1 : (List Int)) (x2 : ZG) (x7 : Int) (x8 : Int) : Option Bool := atF Γ (den Γ X) 124 [1, 0, 1, 0] [(1, ⟨0, 0, 0, .val .reg YL MT x1⟩), (2, ⟨0, 0, 0, .val .box YG MT x2⟩), (7, ⟨0, 0, 0, .val .reg YI MF x7⟩), (8, ⟨0, 0, 0, .val .reg YI MF x8⟩)]
noncomputable def impl_GonalDivisor (a0 : ZG) : Option ((List Int) × Bool) := den Γ X 125 a0
noncomputable def impl_GonalDivisor_l0 (x1 : ZG) (x4 : Int) : Option ((List Int) × Bool) := atF Γ (den Γ X) 125 [1, 1, 1, 0] [(1, ⟨0, 0, 0, .val .box YG MT x1⟩), (4, ⟨0, 0, 0, .val .reg YI MF x4⟩)]
noncomputable def impl_GonalDivisor_l2 (x1 : ZG) (x4 : Int) (x25 : (List (List Int))) (x26 : Int) (x27 : Int) : Option ((List Int) × Bool) := atF Γ (den Γ X) 125 [1, 1, 1, 0, 0, 0, 0, 1, 0] [(1, ⟨0, 0, 0, .val .box YG MT x1⟩), (4, ⟨0, 0, 0, .val .reg YI MF x4⟩), (25, ⟨0, 0, 0, .val .reg YM MO x25⟩), (26, ⟨0, 0, 0, .val .reg YI MF x26⟩), (27, ⟨0, 0, 0, .val .reg YI MF x27⟩)]
noncomputable def impl_GonalityOf (a0 : ZG) : Option (Int × Bool) := den Γ X 126 a0
noncomputable def impl_RanksAt (a0 : ZG) (a1 : Int) : Option ((List Int) × Bool) := den Γ X 127 (a0, a1)
noncomputable def impl_RanksAt_l0 (x1 : Int) (x2 : ZG) (x6 : (List Int)) (x7 : Int) : Option ((List Int) × Bool) := atF Γ (den Γ X) 127 [1, 1, 1, 0, 1, 0] [(1, ⟨0, 0, 0, .val .reg YI MF x1⟩), (2, ⟨0, 0, 0, .val .box YG MT x2⟩), (6, ⟨0, 0, 0, .val .reg YL MO x6⟩), (7, ⟨0, 0, 0, .val .reg YI MF x7⟩)]
noncomputable def impl_GapsAt (a0 : ZG) (a1 : Int) : Option ((List Int) × Bool) := den Γ X 128 (a0, a1)
noncomputable def impl_GapsAt_l0 (x2 : ZG) (x6 : (List Int)) (x8 : (List Int)) (x9 : Int) : Option ((List Int) × Bool) := atF Γ (den Γ X) 128 [1, 1, 1, 1, 0, 1, 0] [(2, ⟨0, 0, 0, .val .box YG MT x2⟩), (6, ⟨0, 0, 0, .val .reg YL MO x6⟩), (8, ⟨0, 0, 0, .val .reg YL MO x8⟩), (9, ⟨0, 0, 0, .val .reg YI MF x9⟩)]
noncomputable def impl_RunLine (a0 : ZC) (a1 : ByteArray) : Option (ZC × ByteArray) := den Γ X 129 (a0, a1)
noncomputable def impl_RunLine_l0 (x2 : ZC) (x4 : ZC) (x6 : ZC) (x7 : (List ByteArray)) (x8 : (List ByteArray)) (x13 : (List Int)) (x87 : (List ByteArray)) (x88 : Int) (x89 : Int) : Option (ZC × ByteArray) := atF Γ (den Γ X) 129 [1, 1, 1, 1, 1, 1, 1, 1, 0, 1, 0, 1, 1, 0, 1, 0] [(2, ⟨0, 0, 0, .val .box YC MT x2⟩), (4, ⟨0, 0, 0, .val .box YC (.pr MG (.pr MO MF)) x4⟩), (6, ⟨0, 0, 0, .val .box YC (.pr MG (.pr MO MF)) x6⟩), (7, ⟨0, 0, 0, .val .reg YZ MF x7⟩), (8, ⟨0, 0, 0, .val .reg YZ MF x8⟩), (9, ⟨0, 0, 0, .clo 29 [(2, 0), (6, 0)]⟩), (13, ⟨0, 0, 0, .val .reg YL MO x13⟩), (87, ⟨0, 0, 0, .val .reg YZ MF x87⟩), (88, ⟨0, 0, 0, .val .reg YI MF x88⟩), (89, ⟨0, 0, 0, .val .reg YI MF x89⟩)]
noncomputable def impl_RunLine_c11 (x2 : ZC) (x4 : ZC) (x6 : ZC) (x7 : (List ByteArray)) (x8 : (List ByteArray)) : Option (ZC × ByteArray) := atF Γ (den Γ X) 129 [1, 1, 1, 1, 1, 1, 1, 1, 0, 1, 0, 0, 0] [(2, ⟨0, 0, 0, .val .box YC MT x2⟩), (4, ⟨0, 0, 0, .val .box YC (.pr MG (.pr MO MF)) x4⟩), (6, ⟨0, 0, 0, .val .box YC (.pr MG (.pr MO MF)) x6⟩), (7, ⟨0, 0, 0, .val .reg YZ MF x7⟩), (8, ⟨0, 0, 0, .val .reg YZ MF x8⟩), (9, ⟨0, 0, 0, .clo 29 [(2, 0), (6, 0)]⟩)]
noncomputable def impl_RunLine_c40 (x2 : ZC) (x4 : ZC) (x6 : ZC) (x13 : (List Int)) (x18 : (List (List Int))) : Option (ZC × ByteArray) := atF Γ (den Γ X) 129 [1, 1, 1, 1, 1, 1, 1, 1, 0, 1, 0, 1, 1, 1, 0, 0, 1, 1, 1, 1, 1, 1, 1, 0, 1, 0, 0] [(2, ⟨0, 0, 0, .val .box YC MT x2⟩), (4, ⟨0, 0, 0, .val .box YC (.pr MG (.pr MO MF)) x4⟩), (6, ⟨0, 0, 0, .val .box YC (.pr MG (.pr MO MF)) x6⟩), (13, ⟨0, 0, 0, .val .reg YL MO x13⟩), (18, ⟨0, 0, 0, .val .reg YM (.own MO) x18⟩)]
noncomputable def impl_RunLine_c48 (x2 : ZC) (x4 : ZC) (x6 : ZC) (x7 : (List ByteArray)) (x10 : (List Int)) : Option (ZC × ByteArray) := atF Γ (den Γ X) 129 [1, 1, 1, 1, 1, 1, 1, 1, 1, 0, 0] [(2, ⟨0, 0, 0, .val .box YC MT x2⟩), (4, ⟨0, 0, 0, .val .box YC (.pr MG (.pr MO MF)) x4⟩), (6, ⟨0, 0, 0, .val .box YC (.pr MG (.pr MO MF)) x6⟩), (7, ⟨0, 0, 0, .val .reg YZ MF x7⟩), (9, ⟨0, 0, 0, .clo 29 [(2, 0), (6, 0)]⟩), (10, ⟨0, 0, 0, .val .reg YL MO x10⟩)]
noncomputable def impl_RunLine_c87 (x4 : ZC) (x6 : ZC) (x34 : (List Int)) : Option (ZC × ByteArray) := atF Γ (den Γ X) 129 [1, 1, 1, 1, 1, 1, 1, 1, 1, 0, 1, 0, 1, 1, 1, 1, 1, 1, 1, 1, 1, 1, 1, 1, 1, 1, 1, 1, 1, 1, 1, 1, 1, 1, 1, 1, 1, 1, 1, 0, 1, 0] [(4, ⟨0, 0, 0, .val .box YC (.pr MG (.pr MO MF)) x4⟩), (6, ⟨0, 0, 0, .val .box YC (.pr MG (.pr MO MF)) x6⟩), (34, ⟨0, 0, 0, .val .reg YL MO x34⟩)]
noncomputable def impl_RunSession (a0 : ByteArray) : Option (ByteArray × Int) := den Γ X 130 a0
noncomputable def impl_RunSession_l0 (x4 : (List ByteArray)) (x5 : ZC) (x6 : ByteArray) (x17 : (List ByteArray)) (x18 : Int) (x19 : Int) : Option (ByteArray × Int) := atF Γ (den Γ X) 130 [1, 1, 1, 1, 1, 0, 1, 0] [(4, ⟨0, 0, 0, .val .reg YZ MF x4⟩), (5, ⟨0, 0, 0, .val .box YC (.pr MP MP) x5⟩), (6, ⟨0, 0, 0, .val .reg .str MF x6⟩), (17, ⟨0, 0, 0, .val .reg YZ MF x17⟩), (18, ⟨0, 0, 0, .val .reg YI MF x18⟩), (19, ⟨0, 0, 0, .val .reg YI MF x19⟩)]
noncomputable def laws_FnConfirms (a0 : (List Int)) : Option Bool := den Γ X 131 a0
noncomputable def spec_l01Below (a0 : ((List Int) × (Int × Int))) (a1 : Int) : Option (Int × ((List Int) × (Int × Int))) := den Γ X 132 (a0, a1)
noncomputable def spec_l01Str (a0 : ((List Int) × (Int × Int))) (a1 : (List ByteArray)) : Option (ByteArray × ((List Int) × (Int × Int))) := den Γ X 133 (a0, a1)
noncomputable def spec_l20Line (a0 : ((List Int) × (Int × Int))) : Option (ByteArray × ((List Int) × (Int × Int))) := den Γ X 134 a0
noncomputable def spec_l20Script (a0 : ((List Int) × (Int × Int))) (a1 : Int) : Option ((List ByteArray) × ((List Int) × (Int × Int))) := den Γ X 135 (a0, a1)
noncomputable def spec_l20Script_l0 (x0 : ((List Int) × (Int × Int))) (x5 : (List ByteArray)) (x6 : Int) : Option ((List ByteArray) × ((List Int) × (Int × Int))) := atF Γ (den Γ X) 135 [1, 1, 0, 1, 0] [(0, ⟨0, 0, 0, .val .box (.cons (.sl (.int .u8)) YE) (.pr MT MP) x0⟩), (5, ⟨0, 0, 0, .val .reg YZ MO x5⟩), (6, ⟨0, 0, 0, .val .reg YI MF x6⟩)]
noncomputable def spec_MakeLines (a0 : (List Int)) : Option (List ByteArray) := den Γ X 136 a0
noncomputable def laws_FnConsole (a0 : (List Int)) : Option Bool := den Γ X 137 a0
noncomputable def laws_FnConsole_l0 (x3 : (List ByteArray)) (x4 : ZC) (x5 : ByteArray) (x19 : Int) (x20 : Int) : Option Bool := atF Γ (den Γ X) 137 [1, 1, 1, 1, 1, 0, 1, 0] [(3, ⟨0, 0, 0, .val .reg YZ MO x3⟩), (4, ⟨0, 0, 0, .val .box YC (.pr MP MP) x4⟩), (5, ⟨0, 0, 0, .val .reg .str MF x5⟩), (18, ⟨0, 0, 0, .ref .ali 3 0 0 0 [] YZ⟩), (19, ⟨0, 0, 0, .val .reg YI MF x19⟩), (20, ⟨0, 0, 0, .val .reg YI MF x20⟩)]
end Go.Proofs.YthhogfhffpfkdaaGreatDoor.D

/-
  What is asked of this program's types and functions holds: so what the evaluator tells of a function is what a call of it does.
-/
import Derived.Test.YtgncajnfphlgeaaGreatDoorCtx
import Derived.Test.YtgncajnfphlgeaaGreatDoorDnC
import Derived.Test.YtgncajnfphlgeaaGreatDoorChecked
import Derived.Test.YtgncajnfphlgeaaGreatDoorLaidW
import Derived.Test.YtgncajnfphlgeaaGreatDoorLaid
import Derived.Test.YtgncajnfphlgeaaGreatDoorRed
import Derived.Test.YtgncajnfphlgeaaGreatDoorCmp
import Derived.KernelRfl
namespace Go.Proofs.YtgncajnfphlgeaaGreatDoor.D
open Go Go.Den
set_option linter.unusedVariables false
set_option maxRecDepth 100000
theorem ty2 : TyOk Go.Proofs.Tryz.prog 2 ⟨(.int .i64), [], false⟩ := tyInt Go.Proofs.Tryz.underlying2 (by kernel_rfl) (by kernel_rfl)
theorem ty3 : TyOk Go.Proofs.Tryz.prog 3 ⟨(.int .i64), [], false⟩ := tyInt Go.Proofs.Tryz.underlying3 (by kernel_rfl) (by kernel_rfl)
theorem ty4 : TyOk Go.Proofs.Tryz.prog 4 ⟨.bool, [], false⟩ := tyBool Go.Proofs.Tryz.underlying4 (by kernel_rfl) (by kernel_rfl)
theorem ty5 : TyOk Go.Proofs.Tryz.prog 5 ⟨(.int .u8), [], false⟩ := tyInt Go.Proofs.Tryz.underlying5 (by kernel_rfl) (by kernel_rfl)
theorem ty6 : TyOk Go.Proofs.Tryz.prog 6 ⟨(.int .u8), [], false⟩ := tyInt Go.Proofs.Tryz.underlying6 (by kernel_rfl) (by kernel_rfl)
theorem ty7 : TyOk Go.Proofs.Tryz.prog 7 ⟨(.cons (.int .i64) (.cons (.int .i64) (.cons .bool (.int .u8)))), [([.l], (.int .i64)), ([.r, .l], (.int .i64)), ([.r, .r, .l], .bool), ([.r, .r, .r], (.int .u8))], true⟩ := tyStruct rfl Go.Proofs.Tryz.underlying7 (by kernel_rfl) (by kernel_rfl) (by kernel_rfl) (by kernel_rfl) (fun _ => ⟨by kernel_rfl, by kernel_rfl, by decide, rfl, Go.Proofs.Tryz.underlying2, by decide, rfl, Go.Proofs.Tryz.underlying3, by decide, rfl, Go.Proofs.Tryz.underlying4, by decide, rfl, Go.Proofs.Tryz.underlying6⟩)
theorem ty8 : TyOk Go.Proofs.Tryz.prog 8 ⟨(.cons (.int .i64) (.cons (.int .i64) (.cons .bool (.int .u8)))), [([.l], (.int .i64)), ([.r, .l], (.int .i64)), ([.r, .r, .l], .bool), ([.r, .r, .r], (.int .u8))], true⟩ := tyStruct rfl Go.Proofs.Tryz.underlying8 (by kernel_rfl) (by kernel_rfl) (by kernel_rfl) (by kernel_rfl) (fun _ => ⟨by kernel_rfl, by kernel_rfl, by decide, rfl, Go.Proofs.Tryz.underlying2, by decide, rfl, Go.Proofs.Tryz.underlying3, by decide, rfl, Go.Proofs.Tryz.underlying4, by decide, rfl, Go.Proofs.Tryz.underlying6⟩)
theorem ty9 : TyOk Go.Proofs.Tryz.prog 9 ⟨.str, [], false⟩ := tyStr Go.Proofs.Tryz.underlying9 (by kernel_rfl) (by kernel_rfl)
theorem ty10 : TyOk Go.Proofs.Tryz.prog 10 ⟨.str, [], false⟩ := tyStr Go.Proofs.Tryz.underlying10 (by kernel_rfl) (by kernel_rfl)
theorem ty11 : TyOk Go.Proofs.Tryz.prog 11 ⟨.str, [], false⟩ := tyStr Go.Proofs.Tryz.underlying11 (by kernel_rfl) (by kernel_rfl)
theorem ty12 : TyOk Go.Proofs.Tryz.prog 12 ⟨(.int .u64), [], false⟩ := tyInt Go.Proofs.Tryz.underlying12 (by kernel_rfl) (by kernel_rfl)
theorem ty13 : TyOk Go.Proofs.Tryz.prog 13 ⟨(.cons .str (.int .u64)), [([.l], .str), ([.r], (.int .u64))], false⟩ := tyStruct rfl Go.Proofs.Tryz.underlying13 (by kernel_rfl) (by kernel_rfl) (by kernel_rfl) (by kernel_rfl) (fun h => by cases h)
theorem ty14 : TyOk Go.Proofs.Tryz.prog 14 ⟨(.cons .str (.int .u64)), [([.l], .str), ([.r], (.int .u64))], false⟩ := tyStruct rfl Go.Proofs.Tryz.underlying14 (by kernel_rfl) (by kernel_rfl) (by kernel_rfl) (by kernel_rfl) (fun h => by cases h)
theorem ty21 : TyOk Go.Proofs.Tryz.prog 21 ⟨(.int .i32), [], false⟩ := tyInt Go.Proofs.Tryz.underlying21 (by kernel_rfl) (by kernel_rfl)
theorem ty22 : TyOk Go.Proofs.Tryz.prog 22 ⟨(.sl (.int .u8)), [], false⟩ := tySl Go.Proofs.Tryz.underlying22 (by kernel_rfl) (by kernel_rfl) (by kernel_rfl) (by kernel_rfl) (by kernel_rfl) (by kernel_rfl) Go.Proofs.Tryz.underlying5
theorem ty23 : TyOk Go.Proofs.Tryz.prog 23 ⟨(.sl (.cons (.int .i64) (.int .i64))), [], false⟩ := tySl Go.Proofs.Tryz.underlying23 (by kernel_rfl) (by kernel_rfl) (by kernel_rfl) (by kernel_rfl) (by kernel_rfl) (by kernel_rfl) trivial
theorem ty24 : TyOk Go.Proofs.Tryz.prog 24 ⟨(.cons (.int .i64) (.sl (.cons (.int .i64) (.int .i64)))), [([.l], (.int .i64)), ([.r], (.sl (.cons (.int .i64) (.int .i64))))], false⟩ := tyStruct rfl Go.Proofs.Tryz.underlying24 (by kernel_rfl) (by kernel_rfl) (by kernel_rfl) (by kernel_rfl) (fun h => by cases h)
theorem ty25 : TyOk Go.Proofs.Tryz.prog 25 ⟨(.cons (.int .i64) (.sl (.cons (.int .i64) (.int .i64)))), [([.l], (.int .i64)), ([.r], (.sl (.cons (.int .i64) (.int .i64))))], false⟩ := tyStruct rfl Go.Proofs.Tryz.underlying25 (by kernel_rfl) (by kernel_rfl) (by kernel_rfl) (by kernel_rfl) (fun h => by cases h)
theorem ty28 : TyOk Go.Proofs.Tryz.prog 28 ⟨(.sl (.sl (.int .i64))), [], false⟩ := tySl Go.Proofs.Tryz.underlying28 (by kernel_rfl) (by kernel_rfl) (by kernel_rfl) (by kernel_rfl) (by kernel_rfl) (by kernel_rfl) trivial
theorem ty32 : TyOk Go.Proofs.Tryz.prog 32 ⟨(.sl (.int .i64)), [], false⟩ := tySl Go.Proofs.Tryz.underlying32 (by kernel_rfl) (by kernel_rfl) (by kernel_rfl) (by kernel_rfl) (by kernel_rfl) (by kernel_rfl) Go.Proofs.Tryz.underlying3
theorem ty45 : TyOk Go.Proofs.Tryz.prog 45 ⟨(.sl .str), [], false⟩ := tySl Go.Proofs.Tryz.underlying45 (by kernel_rfl) (by kernel_rfl) (by kernel_rfl) (by kernel_rfl) (by kernel_rfl) (by kernel_rfl) trivial
theorem ty62 : TyOk Go.Proofs.Tryz.prog 62 ⟨(.cons (.int .i64) (.int .i64)), [([.l], (.int .i64)), ([.r], (.int .i64))], true⟩ := tyStruct rfl Go.Proofs.Tryz.underlying62 (by kernel_rfl) (by kernel_rfl) (by kernel_rfl) (by kernel_rfl) (fun _ => ⟨by kernel_rfl, by kernel_rfl, by decide, rfl, Go.Proofs.Tryz.underlying3, by decide, rfl, Go.Proofs.Tryz.underlying3⟩)
theorem ty63 : TyOk Go.Proofs.Tryz.prog 63 ⟨(.cons (.int .i64) (.int .i64)), [([.l], (.int .i64)), ([.r], (.int .i64))], true⟩ := tyStruct rfl Go.Proofs.Tryz.underlying63 (by kernel_rfl) (by kernel_rfl) (by kernel_rfl) (by kernel_rfl) (fun _ => ⟨by kernel_rfl, by kernel_rfl, by decide, rfl, Go.Proofs.Tryz.underlying3, by decide, rfl, Go.Proofs.Tryz.underlying3⟩)
theorem ty85 : TyOk Go.Proofs.Tryz.prog 85 ⟨(.cons (.sl (.int .u8)) (.cons (.int .i64) (.int .i64))), [([.l], (.sl (.int .u8))), ([.r, .l], (.int .i64)), ([.r, .r], (.int .i64))], false⟩ := tyStruct rfl Go.Proofs.Tryz.underlying85 (by kernel_rfl) (by kernel_rfl) (by kernel_rfl) (by kernel_rfl) (fun h => by cases h)
theorem ty86 : TyOk Go.Proofs.Tryz.prog 86 ⟨(.cons (.sl (.int .u8)) (.cons (.int .i64) (.int .i64))), [([.l], (.sl (.int .u8))), ([.r, .l], (.int .i64)), ([.r, .r], (.int .i64))], false⟩ := tyStruct rfl Go.Proofs.Tryz.underlying86 (by kernel_rfl) (by kernel_rfl) (by kernel_rfl) (by kernel_rfl) (fun h => by cases h)
theorem ty87 : TyOk Go.Proofs.Tryz.prog 87 ⟨(.int .u64), [], false⟩ := tyInt Go.Proofs.Tryz.underlying87 (by kernel_rfl) (by kernel_rfl)
theorem ty134 : TyOk Go.Proofs.Tryz.prog 134 ⟨(.int .i64), [], false⟩ := tyInt Go.Proofs.Tryz.underlying134 (by kernel_rfl) (by kernel_rfl)
theorem ty141 : TyOk Go.Proofs.Tryz.prog 141 ⟨(.int .u32), [], false⟩ := tyInt Go.Proofs.Tryz.underlying141 (by kernel_rfl) (by kernel_rfl)
theorem ty143 : TyOk Go.Proofs.Tryz.prog 143 ⟨(.int .u64), [], false⟩ := tyInt Go.Proofs.Tryz.underlying143 (by kernel_rfl) (by kernel_rfl)
theorem ty151 : TyOk Go.Proofs.Tryz.prog 151 ⟨(.int .u64), [], false⟩ := tyInt Go.Proofs.Tryz.underlying151 (by kernel_rfl) (by kernel_rfl)
theorem ty174 : TyOk Go.Proofs.Tryz.prog 174 ⟨(.int .u8), [], false⟩ := tyInt Go.Proofs.Tryz.underlying174 (by kernel_rfl) (by kernel_rfl)
theorem ty175 : TyOk Go.Proofs.Tryz.prog 175 ⟨(.int .u8), [], false⟩ := tyInt Go.Proofs.Tryz.underlying175 (by kernel_rfl) (by kernel_rfl)
theorem ty177 : TyOk Go.Proofs.Tryz.prog 177 ⟨(.int .i32), [], false⟩ := tyInt Go.Proofs.Tryz.underlying177 (by kernel_rfl) (by kernel_rfl)
theorem ty178 : TyOk Go.Proofs.Tryz.prog 178 ⟨(.int .i32), [], false⟩ := tyInt Go.Proofs.Tryz.underlying178 (by kernel_rfl) (by kernel_rfl)
theorem tys_ok : TysOk Go.Proofs.Tryz.prog Γ := tysOk (show Tys Go.Proofs.Tryz.prog 0 tys from ⟨ty2, ty3, ty4, ty5, ty6, ty7, ty8, ty9, ty10, ty11, ty12, ty13, ty14, ty21, ty22, ty23, ty24, ty25, ty28, ty32, ty45, ty62, ty63, ty85, ty86, ty87, ty134, ty141, ty143, ty151, ty174, ty175, ty177, ty178, trivial⟩) (fun T h => by obtain rfl := List.mem_singleton.1 h; exact ⟨_, _, Go.Proofs.Tryz.t3, Go.Proofs.Tryz.underlying123, Go.Proofs.Tryz.underlying9, by kernel_rfl, by kernel_rfl⟩)
theorem fnx0 : Fn1 Go.Proofs.Tryz.prog s0 := fn1 Go.Proofs.Tryz.func25 (by kernel_rfl)
theorem fnx1 : Fn1 Go.Proofs.Tryz.prog s1 := fn1 Go.Proofs.Tryz.func27 (by kernel_rfl)
theorem fnx2 : Fn1 Go.Proofs.Tryz.prog s2 := fn1 Go.Proofs.Tryz.func43 (by kernel_rfl)
theorem fnx3 : Fn1 Go.Proofs.Tryz.prog s3 := fn1 Go.Proofs.Tryz.func84 (by kernel_rfl)
theorem fnx4 : Fn1 Go.Proofs.Tryz.prog s4 := fn1 Go.Proofs.Tryz.func53 (by kernel_rfl)
theorem fnx5 : Fn1 Go.Proofs.Tryz.prog s5 := fn1 Go.Proofs.Tryz.func86 (by kernel_rfl)
theorem fnx6 : Fn1 Go.Proofs.Tryz.prog s6 := fn1 Go.Proofs.Tryz.func108 (by kernel_rfl)
theorem fnx7 : Fn1 Go.Proofs.Tryz.prog s7 := fn1 Go.Proofs.Tryz.func130 (by kernel_rfl)
theorem fnx8 : Fn1 Go.Proofs.Tryz.prog s8 := fn1 Go.Proofs.Tryz.func109 (by kernel_rfl)
theorem fnx9 : Fn1 Go.Proofs.Tryz.prog s9 := fn1 Go.Proofs.Tryz.func85 (by kernel_rfl)
theorem fnx10 : Fn1 Go.Proofs.Tryz.prog s10 := fn1 Go.Proofs.Tryz.func54 (by kernel_rfl)
theorem fnx11 : Fn1 Go.Proofs.Tryz.prog s11 := fn1 Go.Proofs.Tryz.func24 (by kernel_rfl)
theorem fnx12 : Fn1 Go.Proofs.Tryz.prog s12 := fn1 Go.Proofs.Tryz.func5 (by kernel_rfl)
theorem fnx13 : Fn1 Go.Proofs.Tryz.prog s13 := fn1 Go.Proofs.Tryz.func26 (by kernel_rfl)
theorem fnx14 : Fn1 Go.Proofs.Tryz.prog s14 := fn1 Go.Proofs.Tryz.func68 (by kernel_rfl)
theorem fnx15 : Fn1 Go.Proofs.Tryz.prog s15 := fn1 Go.Proofs.Tryz.func41 (by kernel_rfl)
theorem fnx16 : Fn1 Go.Proofs.Tryz.prog s16 := fn1 Go.Proofs.Tryz.func42 (by kernel_rfl)
theorem fnx17 : Fn1 Go.Proofs.Tryz.prog s17 := fn1 Go.Proofs.Tryz.func14 (by kernel_rfl)
theorem fnx18 : Fn1 Go.Proofs.Tryz.prog s18 := fn1 Go.Proofs.Tryz.func6 (by kernel_rfl)
theorem fnx19 : Fn1 Go.Proofs.Tryz.prog s19 := fn1 Go.Proofs.Tryz.func44 (by kernel_rfl)
theorem fnx20 : Fn1 Go.Proofs.Tryz.prog s20 := fn1 Go.Proofs.Tryz.func15 (by kernel_rfl)
theorem fnx21 : Fn1 Go.Proofs.Tryz.prog s21 := fn1 Go.Proofs.Tryz.func57 (by kernel_rfl)
theorem fnx22 : Fn1 Go.Proofs.Tryz.prog s22 := fn1 Go.Proofs.Tryz.func31 (by kernel_rfl)
theorem fnx23 : Fn1 Go.Proofs.Tryz.prog s23 := fn1 Go.Proofs.Tryz.func87 (by kernel_rfl)
theorem fnx24 : Fn1 Go.Proofs.Tryz.prog s24 := fn1 Go.Proofs.Tryz.func58 (by kernel_rfl)
theorem fnx25 : Fn1 Go.Proofs.Tryz.prog s25 := fn1 Go.Proofs.Tryz.func33 (by kernel_rfl)
theorem fnx26 : Fn1 Go.Proofs.Tryz.prog s26 := fn1 Go.Proofs.Tryz.func32 (by kernel_rfl)
theorem fnx27 : Fn1 Go.Proofs.Tryz.prog s27 := fn1 Go.Proofs.Tryz.func34 (by kernel_rfl)
theorem fnx28 : Fn1 Go.Proofs.Tryz.prog s28 := fn1 Go.Proofs.Tryz.func8 (by kernel_rfl)
theorem fnx29 : Fn1 Go.Proofs.Tryz.prog s29 := fn1 Go.Proofs.Tryz.func69 (by kernel_rfl)
theorem fnx30 : Fn1 Go.Proofs.Tryz.prog s30 := fn1 Go.Proofs.Tryz.func45 (by kernel_rfl)
theorem fnx31 : Fn1 Go.Proofs.Tryz.prog s31 := fn1 Go.Proofs.Tryz.func37 (by kernel_rfl)
theorem fnx32 : Fn1 Go.Proofs.Tryz.prog s32 := fn1 Go.Proofs.Tryz.func46 (by kernel_rfl)
theorem fnx33 : Fn1 Go.Proofs.Tryz.prog s33 := fn1 Go.Proofs.Tryz.func29 (by kernel_rfl)
theorem fnx34 : Fn1 Go.Proofs.Tryz.prog s34 := fn1 Go.Proofs.Tryz.func124 (by kernel_rfl)
theorem fnx35 : Fn1 Go.Proofs.Tryz.prog s35 := fn1 Go.Proofs.Tryz.func38 (by kernel_rfl)
theorem fnx36 : Fn1 Go.Proofs.Tryz.prog s36 := fn1 Go.Proofs.Tryz.func79 (by kernel_rfl)
theorem fnx37 : Fn1 Go.Proofs.Tryz.prog s37 := fn1 Go.Proofs.Tryz.func110 (by kernel_rfl)
theorem fnx38 : Fn1 Go.Proofs.Tryz.prog s38 := fn1 Go.Proofs.Tryz.func131 (by kernel_rfl)
theorem fnx39 : Fn1 Go.Proofs.Tryz.prog s39 := fn1 Go.Proofs.Tryz.func111 (by kernel_rfl)
theorem fnx40 : Fn1 Go.Proofs.Tryz.prog s40 := fn1 Go.Proofs.Tryz.func90 (by kernel_rfl)
theorem fnx41 : Fn1 Go.Proofs.Tryz.prog s41 := fn1 Go.Proofs.Tryz.func96 (by kernel_rfl)
theorem fnx42 : Fn1 Go.Proofs.Tryz.prog s42 := fn1 Go.Proofs.Tryz.func48 (by kernel_rfl)
theorem fnx43 : Fn1 Go.Proofs.Tryz.prog s43 := fn1 Go.Proofs.Tryz.func20 (by kernel_rfl)
theorem fnx44 : Fn1 Go.Proofs.Tryz.prog s44 := fn1 Go.Proofs.Tryz.func67 (by kernel_rfl)
theorem fnx45 : Fn1 Go.Proofs.Tryz.prog s45 := fn1 Go.Proofs.Tryz.func40 (by kernel_rfl)
theorem fnx46 : Fn1 Go.Proofs.Tryz.prog s46 := fn1 Go.Proofs.Tryz.func21 (by kernel_rfl)
theorem fnx47 : Fn1 Go.Proofs.Tryz.prog s47 := fn1 Go.Proofs.Tryz.func97 (by kernel_rfl)
theorem fnx48 : Fn1 Go.Proofs.Tryz.prog s48 := fn1 Go.Proofs.Tryz.func65 (by kernel_rfl)
theorem fnx49 : Fn1 Go.Proofs.Tryz.prog s49 := fn1 Go.Proofs.Tryz.func70 (by kernel_rfl)
theorem fnx50 : Fn1 Go.Proofs.Tryz.prog s50 := fn1 Go.Proofs.Tryz.func71 (by kernel_rfl)
theorem fnx51 : Fn1 Go.Proofs.Tryz.prog s51 := fn1 Go.Proofs.Tryz.func74 (by kernel_rfl)
theorem fnx52 : Fn1 Go.Proofs.Tryz.prog s52 := fn1 Go.Proofs.Tryz.func73 (by kernel_rfl)
theorem fnx53 : Fn1 Go.Proofs.Tryz.prog s53 := fn1 Go.Proofs.Tryz.func98 (by kernel_rfl)
theorem fnx54 : Fn1 Go.Proofs.Tryz.prog s54 := fn1 Go.Proofs.Tryz.func72 (by kernel_rfl)
theorem fnx55 : Fn1 Go.Proofs.Tryz.prog s55 := fn1 Go.Proofs.Tryz.func47 (by kernel_rfl)
theorem fnx56 : Fn1 Go.Proofs.Tryz.prog s56 := fn1 Go.Proofs.Tryz.func16 (by kernel_rfl)
theorem fnx57 : Fn1 Go.Proofs.Tryz.prog s57 := fn1 Go.Proofs.Tryz.func17 (by kernel_rfl)
theorem fnx58 : Fn1 Go.Proofs.Tryz.prog s58 := fn1 Go.Proofs.Tryz.func18 (by kernel_rfl)
theorem fnx59 : Fn1 Go.Proofs.Tryz.prog s59 := fn1 Go.Proofs.Tryz.func19 (by kernel_rfl)
theorem fnx60 : Fn1 Go.Proofs.Tryz.prog s60 := fn1 Go.Proofs.Tryz.func76 (by kernel_rfl)
theorem fnx61 : Fn1 Go.Proofs.Tryz.prog s61 := fn1 Go.Proofs.Tryz.func100 (by kernel_rfl)
theorem fnx62 : Fn1 Go.Proofs.Tryz.prog s62 := fn1 Go.Proofs.Tryz.func77 (by kernel_rfl)
theorem fnx63 : Fn1 Go.Proofs.Tryz.prog s63 := fn1 Go.Proofs.Tryz.func49 (by kernel_rfl)
theorem fnx64 : Fn1 Go.Proofs.Tryz.prog s64 := fn1 Go.Proofs.Tryz.func78 (by kernel_rfl)
theorem fnx65 : Fn1 Go.Proofs.Tryz.prog s65 := fn1 Go.Proofs.Tryz.func101 (by kernel_rfl)
theorem fnx66 : Fn1 Go.Proofs.Tryz.prog s66 := fn1 Go.Proofs.Tryz.func80 (by kernel_rfl)
theorem fnx67 : Fn1 Go.Proofs.Tryz.prog s67 := fn1 Go.Proofs.Tryz.func50 (by kernel_rfl)
theorem fnx68 : Fn1 Go.Proofs.Tryz.prog s68 := fn1 Go.Proofs.Tryz.func22 (by kernel_rfl)
theorem fnx69 : Fn1 Go.Proofs.Tryz.prog s69 := fn1 Go.Proofs.Tryz.func59 (by kernel_rfl)
theorem fnx70 : Fn1 Go.Proofs.Tryz.prog s70 := fn1 Go.Proofs.Tryz.func106 (by kernel_rfl)
theorem fnx71 : Fn1 Go.Proofs.Tryz.prog s71 := fn1 Go.Proofs.Tryz.func82 (by kernel_rfl)
theorem fnx72 : Fn1 Go.Proofs.Tryz.prog s72 := fn1 Go.Proofs.Tryz.func102 (by kernel_rfl)
theorem fnx73 : Fn1 Go.Proofs.Tryz.prog s73 := fn1 Go.Proofs.Tryz.func103 (by kernel_rfl)
theorem fnx74 : Fn1 Go.Proofs.Tryz.prog s74 := fn1 Go.Proofs.Tryz.func105 (by kernel_rfl)
theorem fnx75 : Fn1 Go.Proofs.Tryz.prog s75 := fn1 Go.Proofs.Tryz.func129 (by kernel_rfl)
theorem fnx76 : Fn1 Go.Proofs.Tryz.prog s76 := fn1 Go.Proofs.Tryz.func104 (by kernel_rfl)
theorem fnx77 : Fn1 Go.Proofs.Tryz.prog s77 := fn1 Go.Proofs.Tryz.func81 (by kernel_rfl)
theorem fnx78 : Fn1 Go.Proofs.Tryz.prog s78 := fn1 Go.Proofs.Tryz.func51 (by kernel_rfl)
theorem fnx79 : Fn1 Go.Proofs.Tryz.prog s79 := fn1 Go.Proofs.Tryz.func36 (by kernel_rfl)
theorem fnx80 : Fn1 Go.Proofs.Tryz.prog s80 := fn1 Go.Proofs.Tryz.func83 (by kernel_rfl)
theorem fnx81 : Fn1 Go.Proofs.Tryz.prog s81 := fn1 Go.Proofs.Tryz.func52 (by kernel_rfl)
theorem fnx82 : Fn1 Go.Proofs.Tryz.prog s82 := fn1 Go.Proofs.Tryz.func23 (by kernel_rfl)
theorem fnx83 : Fn1 Go.Proofs.Tryz.prog s83 := fn1 Go.Proofs.Tryz.func4 (by kernel_rfl)
theorem fns_ok : FnsOk Go.Proofs.Tryz.prog Γ := fnsOk (show Fns Go.Proofs.Tryz.prog sigs from ⟨fnx0, fnx1, fnx2, fnx3, fnx4, fnx5, fnx6, fnx7, fnx8, fnx9, fnx10, fnx11, fnx12, fnx13, fnx14, fnx15, fnx16, fnx17, fnx18, fnx19, fnx20, fnx21, fnx22, fnx23, fnx24, fnx25, fnx26, fnx27, fnx28, fnx29, fnx30, fnx31, fnx32, fnx33, fnx34, fnx35, fnx36, fnx37, fnx38, fnx39, fnx40, fnx41, fnx42, fnx43, fnx44, fnx45, fnx46, fnx47, fnx48, fnx49, fnx50, fnx51, fnx52, fnx53, fnx54, fnx55, fnx56, fnx57, fnx58, fnx59, fnx60, fnx61, fnx62, fnx63, fnx64, fnx65, fnx66, fnx67, fnx68, fnx69, fnx70, fnx71, fnx72, fnx73, fnx74, fnx75, fnx76, fnx77, fnx78, fnx79, fnx80, fnx81, fnx82, fnx83, trivial⟩)
theorem ext_ok (O : Fun Γ) (hO : Go.Den.Good Go.Proofs.Tryz.prog Γ tau O) (n : Nat) (a : (prodTy (Γ.insL n)).den) (r : (prodTy (Γ.outsL n)).den) (h : X.has n = true) (hr : X.f O n a = some r) : Holds Go.Proofs.Tryz.prog Γ tau n a r := by
  have h1 : (n == 42 || n == 44 || n == 48 || n == 71) = true := h
  simp only [Bool.or_eq_true, beq_iff_eq] at h1
  rcases h1 with ((rfl | rfl) | rfl) | rfl
  · exact itoa_holds (fun d => d) Go.Proofs.Tryz.laysM171 (σ := s42) rfl rfl rfl rfl (fun w k => tab_known k) rfl rfl hr
  · exact join_holds (fun d => d) Go.Proofs.Tryz.lays156 Go.Proofs.Tryz.Extra156 (σ := s44) rfl rfl rfl rfl rfl rfl hr
  · exact sort_holds Go.Proofs.Tryz.gSlLaysF6 cmpEnters cmpCalls (σ := s48) rfl rfl rfl rfl rfl rfl rfl rfl hr
  · exact redLap_holds hO ty28 hr
theorem good : Go.Den.Good Go.Proofs.Tryz.prog Γ tau (den Γ X) := den_good (X := X) (by kernel_rfl) tys_ok fns_ok ext_ok
end Go.Proofs.YtgncajnfphlgeaaGreatDoor.D

/-
  What is asked of this program's types and functions holds: so what the evaluator tells of a function is what a call of it does.
-/
import Derived.Test.YtgncajnfphlgeaaGreatDoorCtx0
import Derived.Test.YtgncajnfphlgeaaGreatDoorDnC
import Derived.Test.YtgncajnfphlgeaaGreatDoorChecked
import Derived.KernelRfl
namespace Go.Proofs.YtgncajnfphlgeaaGreatDoor.D0
open Go Go.Den
set_option linter.unusedVariables false
set_option maxRecDepth 100000
theorem ty2 : TyOk Go.Proofs.Tryz.prog 2 ⟨(.int .i64), [], false⟩ := tyInt Go.Proofs.Tryz.underlying2 (by kernel_rfl) (by kernel_rfl)
theorem ty3 : TyOk Go.Proofs.Tryz.prog 3 ⟨(.int .i64), [], false⟩ := tyInt Go.Proofs.Tryz.underlying3 (by kernel_rfl) (by kernel_rfl)
theorem ty4 : TyOk Go.Proofs.Tryz.prog 4 ⟨.bool, [], false⟩ := tyBool Go.Proofs.Tryz.underlying4 (by kernel_rfl) (by kernel_rfl)
theorem ty5 : TyOk Go.Proofs.Tryz.prog 5 ⟨(.int .u8), [], false⟩ := tyInt Go.Proofs.Tryz.underlying5 (by kernel_rfl) (by kernel_rfl)
theorem ty6 : TyOk Go.Proofs.Tryz.prog 6 ⟨(.int .u8), [], false⟩ := tyInt Go.Proofs.Tryz.underlying6 (by kernel_rfl) (by kernel_rfl)
theorem ty7 : TyOk Go.Proofs.Tryz.prog 7 ⟨(.cons (.int .i64) (.cons (.int .i64) (.cons .bool (.int .u8)))), [([.l], (.int .i64)), ([.r, .l], (.int .i64)), ([.r, .r, .l], .bool), ([.r, .r, .r], (.int .u8))], true⟩ := tyStruct rfl Go.Proofs.Tryz.underlying7 (by kernel_rfl) (by kernel_rfl) (by kernel_rfl) (by kernel_rfl) (fun _ => ⟨by kernel_rfl, by kernel_rfl, by decide, rfl, Go.Proofs.Tryz.underlying2, by decide, rfl, Go.Proofs.Tryz.underlying3, by decide, rfl, Go.Proofs.Tryz.underlying4, by decide, rfl, Go.Proofs.Tryz.underlying6⟩)
theorem ty8 : TyOk Go.Proofs.Tryz.prog 8 ⟨(.cons (.int .i64) (.cons (.int .i64) (.cons .bool (.int .u8)))), [([.l], (.int .i64)), ([.r, .l], (.int .i64)), ([.r, .r, .l], .bool), ([.r, .r, .r], (.int .u8))], true⟩ := tyStruct rfl Go.Proofs.Tryz.underlying8 (by kernel_rfl) (by kernel_rfl) (by kernel_rfl) (by kernel_rfl) (fun _ => ⟨by kernel_rfl, by kernel_rfl, by decide, rfl, Go.Proofs.Tryz.underlying2, by decide, rfl, Go.Proofs.Tryz.underlying3, by decide, rfl, Go.Proofs.Tryz.underlying4, by decide, rfl, Go.Proofs.Tryz.underlying6⟩)
theorem ty9 : TyOk Go.Proofs.Tryz.prog 9 ⟨.str, [], false⟩ := tyStr Go.Proofs.Tryz.underlying9 (by kernel_rfl) (by kernel_rfl)
theorem ty10 : TyOk Go.Proofs.Tryz.prog 10 ⟨.str, [], false⟩ := tyStr Go.Proofs.Tryz.underlying10 (by kernel_rfl) (by kernel_rfl)
theorem ty11 : TyOk Go.Proofs.Tryz.prog 11 ⟨.str, [], false⟩ := tyStr Go.Proofs.Tryz.underlying11 (by kernel_rfl) (by kernel_rfl)
theorem ty12 : TyOk Go.Proofs.Tryz.prog 12 ⟨(.int .u64), [], false⟩ := tyInt Go.Proofs.Tryz.underlying12 (by kernel_rfl) (by kernel_rfl)
theorem ty13 : TyOk Go.Proofs.Tryz.prog 13 ⟨(.cons .str (.int .u64)), [([.l], .str), ([.r], (.int .u64))], false⟩ := tyStruct rfl Go.Proofs.Tryz.underlying13 (by kernel_rfl) (by kernel_rfl) (by kernel_rfl) (by kernel_rfl) (fun h => by cases h)
theorem ty14 : TyOk Go.Proofs.Tryz.prog 14 ⟨(.cons .str (.int .u64)), [([.l], .str), ([.r], (.int .u64))], false⟩ := tyStruct rfl Go.Proofs.Tryz.underlying14 (by kernel_rfl) (by kernel_rfl) (by kernel_rfl) (by kernel_rfl) (fun h => by cases h)
theorem ty21 : TyOk Go.Proofs.Tryz.prog 21 ⟨(.int .i32), [], false⟩ := tyInt Go.Proofs.Tryz.underlying21 (by kernel_rfl) (by kernel_rfl)
theorem ty22 : TyOk Go.Proofs.Tryz.prog 22 ⟨(.sl (.int .u8)), [], false⟩ := tySl Go.Proofs.Tryz.underlying22 (by kernel_rfl) (by kernel_rfl) (by kernel_rfl) (by kernel_rfl) (by kernel_rfl) (by kernel_rfl) Go.Proofs.Tryz.underlying5
theorem ty23 : TyOk Go.Proofs.Tryz.prog 23 ⟨(.sl (.cons (.int .i64) (.int .i64))), [], false⟩ := tySl Go.Proofs.Tryz.underlying23 (by kernel_rfl) (by kernel_rfl) (by kernel_rfl) (by kernel_rfl) (by kernel_rfl) (by kernel_rfl) trivial
theorem ty24 : TyOk Go.Proofs.Tryz.prog 24 ⟨(.cons (.int .i64) (.sl (.cons (.int .i64) (.int .i64)))), [([.l], (.int .i64)), ([.r], (.sl (.cons (.int .i64) (.int .i64))))], false⟩ := tyStruct rfl Go.Proofs.Tryz.underlying24 (by kernel_rfl) (by kernel_rfl) (by kernel_rfl) (by kernel_rfl) (fun h => by cases h)
theorem ty25 : TyOk Go.Proofs.Tryz.prog 25 ⟨(.cons (.int .i64) (.sl (.cons (.int .i64) (.int .i64)))), [([.l], (.int .i64)), ([.r], (.sl (.cons (.int .i64) (.int .i64))))], false⟩ := tyStruct rfl Go.Proofs.Tryz.underlying25 (by kernel_rfl) (by kernel_rfl) (by kernel_rfl) (by kernel_rfl) (fun h => by cases h)
theorem ty28 : TyOk Go.Proofs.Tryz.prog 28 ⟨(.sl (.sl (.int .i64))), [], false⟩ := tySl Go.Proofs.Tryz.underlying28 (by kernel_rfl) (by kernel_rfl) (by kernel_rfl) (by kernel_rfl) (by kernel_rfl) (by kernel_rfl) trivial
theorem ty32 : TyOk Go.Proofs.Tryz.prog 32 ⟨(.sl (.int .i64)), [], false⟩ := tySl Go.Proofs.Tryz.underlying32 (by kernel_rfl) (by kernel_rfl) (by kernel_rfl) (by kernel_rfl) (by kernel_rfl) (by kernel_rfl) Go.Proofs.Tryz.underlying3
theorem ty45 : TyOk Go.Proofs.Tryz.prog 45 ⟨(.sl .str), [], false⟩ := tySl Go.Proofs.Tryz.underlying45 (by kernel_rfl) (by kernel_rfl) (by kernel_rfl) (by kernel_rfl) (by kernel_rfl) (by kernel_rfl) trivial
theorem ty62 : TyOk Go.Proofs.Tryz.prog 62 ⟨(.cons (.int .i64) (.int .i64)), [([.l], (.int .i64)), ([.r], (.int .i64))], true⟩ := tyStruct rfl Go.Proofs.Tryz.underlying62 (by kernel_rfl) (by kernel_rfl) (by kernel_rfl) (by kernel_rfl) (fun _ => ⟨by kernel_rfl, by kernel_rfl, by decide, rfl, Go.Proofs.Tryz.underlying3, by decide, rfl, Go.Proofs.Tryz.underlying3⟩)
theorem ty63 : TyOk Go.Proofs.Tryz.prog 63 ⟨(.cons (.int .i64) (.int .i64)), [([.l], (.int .i64)), ([.r], (.int .i64))], true⟩ := tyStruct rfl Go.Proofs.Tryz.underlying63 (by kernel_rfl) (by kernel_rfl) (by kernel_rfl) (by kernel_rfl) (fun _ => ⟨by kernel_rfl, by kernel_rfl, by decide, rfl, Go.Proofs.Tryz.underlying3, by decide, rfl, Go.Proofs.Tryz.underlying3⟩)
theorem ty85 : TyOk Go.Proofs.Tryz.prog 85 ⟨(.cons (.sl (.int .u8)) (.cons (.int .i64) (.int .i64))), [([.l], (.sl (.int .u8))), ([.r, .l], (.int .i64)), ([.r, .r], (.int .i64))], false⟩ := tyStruct rfl Go.Proofs.Tryz.underlying85 (by kernel_rfl) (by kernel_rfl) (by kernel_rfl) (by kernel_rfl) (fun h => by cases h)
theorem ty86 : TyOk Go.Proofs.Tryz.prog 86 ⟨(.cons (.sl (.int .u8)) (.cons (.int .i64) (.int .i64))), [([.l], (.sl (.int .u8))), ([.r, .l], (.int .i64)), ([.r, .r], (.int .i64))], false⟩ := tyStruct rfl Go.Proofs.Tryz.underlying86 (by kernel_rfl) (by kernel_rfl) (by kernel_rfl) (by kernel_rfl) (fun h => by cases h)
theorem ty87 : TyOk Go.Proofs.Tryz.prog 87 ⟨(.int .u64), [], false⟩ := tyInt Go.Proofs.Tryz.underlying87 (by kernel_rfl) (by kernel_rfl)
theorem ty134 : TyOk Go.Proofs.Tryz.prog 134 ⟨(.int .i64), [], false⟩ := tyInt Go.Proofs.Tryz.underlying134 (by kernel_rfl) (by kernel_rfl)
theorem ty141 : TyOk Go.Proofs.Tryz.prog 141 ⟨(.int .u32), [], false⟩ := tyInt Go.Proofs.Tryz.underlying141 (by kernel_rfl) (by kernel_rfl)
theorem ty143 : TyOk Go.Proofs.Tryz.prog 143 ⟨(.int .u64), [], false⟩ := tyInt Go.Proofs.Tryz.underlying143 (by kernel_rfl) (by kernel_rfl)
theorem ty151 : TyOk Go.Proofs.Tryz.prog 151 ⟨(.int .u64), [], false⟩ := tyInt Go.Proofs.Tryz.underlying151 (by kernel_rfl) (by kernel_rfl)
theorem ty174 : TyOk Go.Proofs.Tryz.prog 174 ⟨(.int .u8), [], false⟩ := tyInt Go.Proofs.Tryz.underlying174 (by kernel_rfl) (by kernel_rfl)
theorem ty175 : TyOk Go.Proofs.Tryz.prog 175 ⟨(.int .u8), [], false⟩ := tyInt Go.Proofs.Tryz.underlying175 (by kernel_rfl) (by kernel_rfl)
theorem ty177 : TyOk Go.Proofs.Tryz.prog 177 ⟨(.int .i32), [], false⟩ := tyInt Go.Proofs.Tryz.underlying177 (by kernel_rfl) (by kernel_rfl)
theorem ty178 : TyOk Go.Proofs.Tryz.prog 178 ⟨(.int .i32), [], false⟩ := tyInt Go.Proofs.Tryz.underlying178 (by kernel_rfl) (by kernel_rfl)
theorem tys_ok : TysOk Go.Proofs.Tryz.prog Γ := tysOk (show Tys Go.Proofs.Tryz.prog 0 tys from ⟨ty2, ty3, ty4, ty5, ty6, ty7, ty8, ty9, ty10, ty11, ty12, ty13, ty14, ty21, ty22, ty23, ty24, ty25, ty28, ty32, ty45, ty62, ty63, ty85, ty86, ty87, ty134, ty141, ty143, ty151, ty174, ty175, ty177, ty178, trivial⟩) (fun T h => by obtain rfl := List.mem_singleton.1 h; exact ⟨_, _, Go.Proofs.Tryz.t3, Go.Proofs.Tryz.underlying123, Go.Proofs.Tryz.underlying9, by kernel_rfl, by kernel_rfl⟩)
theorem fnx0 : Fn1 Go.Proofs.Tryz.prog s0 := fn1 Go.Proofs.Tryz.func87 (by kernel_rfl)
theorem fnx1 : Fn1 Go.Proofs.Tryz.prog s1 := fn1 Go.Proofs.Tryz.func58 (by kernel_rfl)
theorem fnx2 : Fn1 Go.Proofs.Tryz.prog s2 := fn1 Go.Proofs.Tryz.func66 (by kernel_rfl)
theorem fns_ok : FnsOk Go.Proofs.Tryz.prog Γ := fnsOk (show Fns Go.Proofs.Tryz.prog sigs from ⟨fnx0, fnx1, fnx2, trivial⟩)
theorem good : Go.Den.Good Go.Proofs.Tryz.prog Γ noTold (den Γ X) := den_good (X := X) (by kernel_rfl) tys_ok fns_ok fun _ _ _ _ _ h => by cases (show false = true from h)
end Go.Proofs.YtgncajnfphlgeaaGreatDoor.D0

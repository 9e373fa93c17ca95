/-
  What is asked of this program's types and functions holds: so what the evaluator tells of a function is what a call of it does.
-/
import Derived.Test.YtfpccehboifkbaaDoorCtx0
import Derived.Test.YtfpccehboifkbaaDoorDnC
import Derived.Test.YtfpccehboifkbaaDoorChecked
import Derived.KernelRfl
namespace Go.Proofs.YtfpccehboifkbaaDoor.D0
open Go Go.Den
set_option linter.unusedVariables false
set_option maxRecDepth 100000
theorem ty2 : TyOk Go.Proofs.Tryd.prog 2 ⟨(.int .i64), [], false⟩ := tyInt Go.Proofs.Tryd.underlying2 (by kernel_rfl) (by kernel_rfl)
theorem ty3 : TyOk Go.Proofs.Tryd.prog 3 ⟨(.int .i64), [], false⟩ := tyInt Go.Proofs.Tryd.underlying3 (by kernel_rfl) (by kernel_rfl)
theorem ty4 : TyOk Go.Proofs.Tryd.prog 4 ⟨.bool, [], false⟩ := tyBool Go.Proofs.Tryd.underlying4 (by kernel_rfl) (by kernel_rfl)
theorem ty5 : TyOk Go.Proofs.Tryd.prog 5 ⟨(.int .u8), [], false⟩ := tyInt Go.Proofs.Tryd.underlying5 (by kernel_rfl) (by kernel_rfl)
theorem ty6 : TyOk Go.Proofs.Tryd.prog 6 ⟨(.int .u8), [], false⟩ := tyInt Go.Proofs.Tryd.underlying6 (by kernel_rfl) (by kernel_rfl)
theorem ty7 : TyOk Go.Proofs.Tryd.prog 7 ⟨(.cons (.int .i64) (.cons (.int .i64) (.cons .bool (.int .u8)))), [([.l], (.int .i64)), ([.r, .l], (.int .i64)), ([.r, .r, .l], .bool), ([.r, .r, .r], (.int .u8))], true⟩ := tyStruct rfl Go.Proofs.Tryd.underlying7 (by kernel_rfl) (by kernel_rfl) (by kernel_rfl) (by kernel_rfl) (fun _ => ⟨by kernel_rfl, by kernel_rfl, by decide, rfl, Go.Proofs.Tryd.underlying2, by decide, rfl, Go.Proofs.Tryd.underlying3, by decide, rfl, Go.Proofs.Tryd.underlying4, by decide, rfl, Go.Proofs.Tryd.underlying6⟩)
theorem ty8 : TyOk Go.Proofs.Tryd.prog 8 ⟨(.cons (.int .i64) (.cons (.int .i64) (.cons .bool (.int .u8)))), [([.l], (.int .i64)), ([.r, .l], (.int .i64)), ([.r, .r, .l], .bool), ([.r, .r, .r], (.int .u8))], true⟩ := tyStruct rfl Go.Proofs.Tryd.underlying8 (by kernel_rfl) (by kernel_rfl) (by kernel_rfl) (by kernel_rfl) (fun _ => ⟨by kernel_rfl, by kernel_rfl, by decide, rfl, Go.Proofs.Tryd.underlying2, by decide, rfl, Go.Proofs.Tryd.underlying3, by decide, rfl, Go.Proofs.Tryd.underlying4, by decide, rfl, Go.Proofs.Tryd.underlying6⟩)
theorem ty9 : TyOk Go.Proofs.Tryd.prog 9 ⟨.str, [], false⟩ := tyStr Go.Proofs.Tryd.underlying9 (by kernel_rfl) (by kernel_rfl)
theorem ty10 : TyOk Go.Proofs.Tryd.prog 10 ⟨.str, [], false⟩ := tyStr Go.Proofs.Tryd.underlying10 (by kernel_rfl) (by kernel_rfl)
theorem ty11 : TyOk Go.Proofs.Tryd.prog 11 ⟨.str, [], false⟩ := tyStr Go.Proofs.Tryd.underlying11 (by kernel_rfl) (by kernel_rfl)
theorem ty12 : TyOk Go.Proofs.Tryd.prog 12 ⟨(.int .u64), [], false⟩ := tyInt Go.Proofs.Tryd.underlying12 (by kernel_rfl) (by kernel_rfl)
theorem ty13 : TyOk Go.Proofs.Tryd.prog 13 ⟨(.cons .str (.int .u64)), [([.l], .str), ([.r], (.int .u64))], false⟩ := tyStruct rfl Go.Proofs.Tryd.underlying13 (by kernel_rfl) (by kernel_rfl) (by kernel_rfl) (by kernel_rfl) (fun h => by cases h)
theorem ty14 : TyOk Go.Proofs.Tryd.prog 14 ⟨(.cons .str (.int .u64)), [([.l], .str), ([.r], (.int .u64))], false⟩ := tyStruct rfl Go.Proofs.Tryd.underlying14 (by kernel_rfl) (by kernel_rfl) (by kernel_rfl) (by kernel_rfl) (fun h => by cases h)
theorem ty21 : TyOk Go.Proofs.Tryd.prog 21 ⟨(.int .i32), [], false⟩ := tyInt Go.Proofs.Tryd.underlying21 (by kernel_rfl) (by kernel_rfl)
theorem ty22 : TyOk Go.Proofs.Tryd.prog 22 ⟨(.sl (.int .u8)), [], false⟩ := tySl Go.Proofs.Tryd.underlying22 (by kernel_rfl) (by kernel_rfl) (by kernel_rfl) (by kernel_rfl) (by kernel_rfl) (by kernel_rfl) Go.Proofs.Tryd.underlying5
theorem ty23 : TyOk Go.Proofs.Tryd.prog 23 ⟨(.sl (.cons (.int .i64) (.int .i64))), [], false⟩ := tySl Go.Proofs.Tryd.underlying23 (by kernel_rfl) (by kernel_rfl) (by kernel_rfl) (by kernel_rfl) (by kernel_rfl) (by kernel_rfl) trivial
theorem ty24 : TyOk Go.Proofs.Tryd.prog 24 ⟨(.cons (.int .i64) (.sl (.cons (.int .i64) (.int .i64)))), [([.l], (.int .i64)), ([.r], (.sl (.cons (.int .i64) (.int .i64))))], false⟩ := tyStruct rfl Go.Proofs.Tryd.underlying24 (by kernel_rfl) (by kernel_rfl) (by kernel_rfl) (by kernel_rfl) (fun h => by cases h)
theorem ty25 : TyOk Go.Proofs.Tryd.prog 25 ⟨(.cons (.int .i64) (.sl (.cons (.int .i64) (.int .i64)))), [([.l], (.int .i64)), ([.r], (.sl (.cons (.int .i64) (.int .i64))))], false⟩ := tyStruct rfl Go.Proofs.Tryd.underlying25 (by kernel_rfl) (by kernel_rfl) (by kernel_rfl) (by kernel_rfl) (fun h => by cases h)
theorem ty28 : TyOk Go.Proofs.Tryd.prog 28 ⟨(.sl (.int .i64)), [], false⟩ := tySl Go.Proofs.Tryd.underlying28 (by kernel_rfl) (by kernel_rfl) (by kernel_rfl) (by kernel_rfl) (by kernel_rfl) (by kernel_rfl) Go.Proofs.Tryd.underlying3
theorem ty40 : TyOk Go.Proofs.Tryd.prog 40 ⟨(.sl (.sl (.int .i64))), [], false⟩ := tySl Go.Proofs.Tryd.underlying40 (by kernel_rfl) (by kernel_rfl) (by kernel_rfl) (by kernel_rfl) (by kernel_rfl) (by kernel_rfl) trivial
theorem ty55 : TyOk Go.Proofs.Tryd.prog 55 ⟨(.cons (.int .i64) (.int .i64)), [([.l], (.int .i64)), ([.r], (.int .i64))], true⟩ := tyStruct rfl Go.Proofs.Tryd.underlying55 (by kernel_rfl) (by kernel_rfl) (by kernel_rfl) (by kernel_rfl) (fun _ => ⟨by kernel_rfl, by kernel_rfl, by decide, rfl, Go.Proofs.Tryd.underlying3, by decide, rfl, Go.Proofs.Tryd.underlying3⟩)
theorem ty56 : TyOk Go.Proofs.Tryd.prog 56 ⟨(.cons (.int .i64) (.int .i64)), [([.l], (.int .i64)), ([.r], (.int .i64))], true⟩ := tyStruct rfl Go.Proofs.Tryd.underlying56 (by kernel_rfl) (by kernel_rfl) (by kernel_rfl) (by kernel_rfl) (fun _ => ⟨by kernel_rfl, by kernel_rfl, by decide, rfl, Go.Proofs.Tryd.underlying3, by decide, rfl, Go.Proofs.Tryd.underlying3⟩)
theorem ty60 : TyOk Go.Proofs.Tryd.prog 60 ⟨(.cons (.sl (.int .u8)) (.cons (.int .i64) (.int .i64))), [([.l], (.sl (.int .u8))), ([.r, .l], (.int .i64)), ([.r, .r], (.int .i64))], false⟩ := tyStruct rfl Go.Proofs.Tryd.underlying60 (by kernel_rfl) (by kernel_rfl) (by kernel_rfl) (by kernel_rfl) (fun h => by cases h)
theorem ty61 : TyOk Go.Proofs.Tryd.prog 61 ⟨(.cons (.sl (.int .u8)) (.cons (.int .i64) (.int .i64))), [([.l], (.sl (.int .u8))), ([.r, .l], (.int .i64)), ([.r, .r], (.int .i64))], false⟩ := tyStruct rfl Go.Proofs.Tryd.underlying61 (by kernel_rfl) (by kernel_rfl) (by kernel_rfl) (by kernel_rfl) (fun h => by cases h)
theorem ty62 : TyOk Go.Proofs.Tryd.prog 62 ⟨(.int .u64), [], false⟩ := tyInt Go.Proofs.Tryd.underlying62 (by kernel_rfl) (by kernel_rfl)
theorem ty86 : TyOk Go.Proofs.Tryd.prog 86 ⟨(.sl .str), [], false⟩ := tySl Go.Proofs.Tryd.underlying86 (by kernel_rfl) (by kernel_rfl) (by kernel_rfl) (by kernel_rfl) (by kernel_rfl) (by kernel_rfl) trivial
theorem ty93 : TyOk Go.Proofs.Tryd.prog 93 ⟨(.int .i64), [], false⟩ := tyInt Go.Proofs.Tryd.underlying93 (by kernel_rfl) (by kernel_rfl)
theorem ty100 : TyOk Go.Proofs.Tryd.prog 100 ⟨(.int .u32), [], false⟩ := tyInt Go.Proofs.Tryd.underlying100 (by kernel_rfl) (by kernel_rfl)
theorem ty102 : TyOk Go.Proofs.Tryd.prog 102 ⟨(.int .u64), [], false⟩ := tyInt Go.Proofs.Tryd.underlying102 (by kernel_rfl) (by kernel_rfl)
theorem ty112 : TyOk Go.Proofs.Tryd.prog 112 ⟨(.int .u64), [], false⟩ := tyInt Go.Proofs.Tryd.underlying112 (by kernel_rfl) (by kernel_rfl)
theorem ty142 : TyOk Go.Proofs.Tryd.prog 142 ⟨(.int .u8), [], false⟩ := tyInt Go.Proofs.Tryd.underlying142 (by kernel_rfl) (by kernel_rfl)
theorem ty143 : TyOk Go.Proofs.Tryd.prog 143 ⟨(.int .u8), [], false⟩ := tyInt Go.Proofs.Tryd.underlying143 (by kernel_rfl) (by kernel_rfl)
theorem ty145 : TyOk Go.Proofs.Tryd.prog 145 ⟨(.int .i32), [], false⟩ := tyInt Go.Proofs.Tryd.underlying145 (by kernel_rfl) (by kernel_rfl)
theorem ty146 : TyOk Go.Proofs.Tryd.prog 146 ⟨(.int .i32), [], false⟩ := tyInt Go.Proofs.Tryd.underlying146 (by kernel_rfl) (by kernel_rfl)
theorem tys_ok : TysOk Go.Proofs.Tryd.prog Γ := tysOk (show Tys Go.Proofs.Tryd.prog 0 tys from ⟨ty2, ty3, ty4, ty5, ty6, ty7, ty8, ty9, ty10, ty11, ty12, ty13, ty14, ty21, ty22, ty23, ty24, ty25, ty28, ty40, ty55, ty56, ty60, ty61, ty62, ty86, ty93, ty100, ty102, ty112, ty142, ty143, ty145, ty146, trivial⟩) (fun T h => by obtain rfl := List.mem_singleton.1 h; exact ⟨_, _, Go.Proofs.Tryd.t3, Go.Proofs.Tryd.underlying73, Go.Proofs.Tryd.underlying9, by kernel_rfl, by kernel_rfl⟩)
theorem fnx0 : Fn1 Go.Proofs.Tryd.prog s0 := fn1 Go.Proofs.Tryd.func68 (by kernel_rfl)
theorem fnx1 : Fn1 Go.Proofs.Tryd.prog s1 := fn1 Go.Proofs.Tryd.func56 (by kernel_rfl)
theorem fnx2 : Fn1 Go.Proofs.Tryd.prog s2 := fn1 Go.Proofs.Tryd.func54 (by kernel_rfl)
theorem fns_ok : FnsOk Go.Proofs.Tryd.prog Γ := fnsOk (show Fns Go.Proofs.Tryd.prog sigs from ⟨fnx0, fnx1, fnx2, trivial⟩)
theorem good : Go.Den.Good Go.Proofs.Tryd.prog Γ noTold (den Γ X) := den_good (X := X) (by kernel_rfl) tys_ok fns_ok fun _ _ _ h => by cases (show false = true from h)
end Go.Proofs.YtfpccehboifkbaaDoor.D0

/-
  What is asked of this program's types and functions holds: so what the evaluator tells of a function is what a call of it does.
-/
import Derived.Test.YtfpccehboifkbaaGreatDoorCtx0
import Derived.Test.YtfpccehboifkbaaGreatDoorDnC
import Derived.Test.YtfpccehboifkbaaGreatDoorChecked
import Derived.KernelRfl
namespace Go.Proofs.YtfpccehboifkbaaGreatDoor.D0
open Go Go.Den
set_option linter.unusedVariables false
set_option maxRecDepth 100000
theorem ty2 : TyOk Go.Proofs.Tryz.prog 2 ⟨(.int .i64), [], false⟩ := tyInt Go.Proofs.Tryz.underlying2 (by kernel_rfl) (by kernel_rfl)
theorem ty3 : TyOk Go.Proofs.Tryz.prog 3 ⟨(.int .i64), [], false⟩ := tyInt Go.Proofs.Tryz.underlying3 (by kernel_rfl) (by kernel_rfl)
theorem ty4 : TyOk Go.Proofs.Tryz.prog 4 ⟨.bool, [], false⟩ := tyBool Go.Proofs.Tryz.underlying4 (by kernel_rfl) (by kernel_rfl)
theorem ty5 : TyOk Go.Proofs.Tryz.prog 5 ⟨(.int .u8), [], false⟩ := tyInt Go.Proofs.Tryz.underlying5 (by kernel_rfl) (by kernel_rfl)
theorem ty6 : TyOk Go.Proofs.Tryz.prog 6 ⟨(.int .u8), [], false⟩ := tyInt Go.Proofs.Tryz.underlying6 (by kernel_rfl) (by kernel_rfl)
theorem ty7 : TyOk Go.Proofs.Tryz.prog 7 ⟨(.cons (.int .i64) (.cons (.int .i64) (.cons .bool (.int .u8)))), [([.l], (.int .i64)), ([.r, .l], (.int .i64)), ([.r, .r, .l], .bool), ([.r, .r, .r], (.int .u8))], true⟩ := tyStruct rfl Go.Proofs.Tryz.underlying7 (by kernel_rfl) (by kernel_rfl) (by kernel_rfl) (by kernel_rfl) (fun _ => ⟨by kernel_rfl, by kernel_rfl, by decide, rfl, Go.Proofs.Tryz.underlying2, by decide, rfl, Go.Proofs.Tryz.underlying3, by decide, rfl, Go.Proofs.Tryz.underlying4, by decide, rfl, Go.Proofs.Tryz.underlying6⟩)
theorem ty8 : TyOk Go.Proofs.Tryz.prog 8 ⟨(.cons (.int .i64) (.cons (.int .i64) (.cons .bool (.int .u8)))), [([.l], (.int .i64)), ([.r, .l], (.int .i64)), ([.r, .r, .l], .bool), ([.r, .r, .r], (.int .u8))], true⟩ := tyStruct rfl Go.Proofs.Tryz.underlying8 (by kernel_rfl) (by kernel_rfl) (by kernel_rfl) (by kernel_rfl) (fun _ => ⟨by kernel_rfl, by kernel_rfl, by decide, rfl, Go.Proofs.Tryz.underlying2, by decide, rfl, Go.Proofs.Tryz.underlying3, by decide, rfl, Go.Proofs.Tryz.underlying4, by decide, rfl, Go.Proofs.Tryz.underlying6⟩)
theorem ty9 : TyOk Go.Proofs.Tryz.prog 9 ⟨.str, [], false⟩ := tyStr Go.Proofs.Tryz.underlying9 (by kernel_rfl) (by kernel_rfl)
theorem ty10 : TyOk Go.Proofs.Tryz.prog 10 ⟨.str, [], false⟩ := tyStr Go.Proofs.Tryz.underlying10 (by kernel_rfl) (by kernel_rfl)
theorem ty11 : TyOk Go.Proofs.Tryz.prog 11 ⟨.str, [], false⟩ := tyStr Go.Proofs.Tryz.underlying11 (by kernel_rfl) (by kernel_rfl)
theorem ty12 : TyOk Go.Proofs.Tryz.prog 12 ⟨(.int .u64), [], false⟩ := tyInt Go.Proofs.Tryz.underlying12 (by kernel_rfl) (by kernel_rfl)
theorem ty13 : TyOk Go.Proofs.Tryz.prog 13 ⟨(.cons .str (.int .u64)), [([.l], .str), ([.r], (.int .u64))], false⟩ := tyStruct rfl Go.Proofs.Tryz.underlying13 (by kernel_rfl) (by kernel_rfl) (by kernel_rfl) (by kernel_rfl) (fun h => by cases h)
theorem ty14 : TyOk Go.Proofs.Tryz.prog 14 ⟨(.cons .str (.int .u64)), [([.l], .str), ([.r], (.int .u64))], false⟩ := tyStruct rfl Go.Proofs.Tryz.underlying14 (by kernel_rfl) (by kernel_rfl) (by kernel_rfl) (by kernel_rfl) (fun h => by cases h)
theorem ty21 : TyOk Go.Proofs.Tryz.prog 21 ⟨(.int .i32), [], false⟩ := tyInt Go.Proofs.Tryz.underlying21 (by kernel_rfl) (by kernel_rfl)
theorem ty22 : TyOk Go.Proofs.Tryz.prog 22 ⟨(.sl (.cons (.int .i64) (.int .i64))), [], false⟩ := tySl Go.Proofs.Tryz.underlying22 (by kernel_rfl) (by kernel_rfl) (by kernel_rfl) (by kernel_rfl) (by kernel_rfl) (by kernel_rfl) trivial
theorem ty23 : TyOk Go.Proofs.Tryz.prog 23 ⟨(.cons (.int .i64) (.sl (.cons (.int .i64) (.int .i64)))), [([.l], (.int .i64)), ([.r], (.sl (.cons (.int .i64) (.int .i64))))], false⟩ := tyStruct rfl Go.Proofs.Tryz.underlying23 (by kernel_rfl) (by kernel_rfl) (by kernel_rfl) (by kernel_rfl) (fun h => by cases h)
theorem ty24 : TyOk Go.Proofs.Tryz.prog 24 ⟨(.cons (.int .i64) (.sl (.cons (.int .i64) (.int .i64)))), [([.l], (.int .i64)), ([.r], (.sl (.cons (.int .i64) (.int .i64))))], false⟩ := tyStruct rfl Go.Proofs.Tryz.underlying24 (by kernel_rfl) (by kernel_rfl) (by kernel_rfl) (by kernel_rfl) (fun h => by cases h)
theorem ty26 : TyOk Go.Proofs.Tryz.prog 26 ⟨(.sl (.int .i64)), [], false⟩ := tySl Go.Proofs.Tryz.underlying26 (by kernel_rfl) (by kernel_rfl) (by kernel_rfl) (by kernel_rfl) (by kernel_rfl) (by kernel_rfl) Go.Proofs.Tryz.underlying3
theorem ty29 : TyOk Go.Proofs.Tryz.prog 29 ⟨(.sl (.cons (.int .i64) (.int .i64))), [], false⟩ := tySl Go.Proofs.Tryz.underlying29 (by kernel_rfl) (by kernel_rfl) (by kernel_rfl) (by kernel_rfl) (by kernel_rfl) (by kernel_rfl) trivial
theorem ty30 : TyOk Go.Proofs.Tryz.prog 30 ⟨(.cons (.int .i64) (.sl (.cons (.int .i64) (.int .i64)))), [([.l], (.int .i64)), ([.r], (.sl (.cons (.int .i64) (.int .i64))))], false⟩ := tyStruct rfl Go.Proofs.Tryz.underlying30 (by kernel_rfl) (by kernel_rfl) (by kernel_rfl) (by kernel_rfl) (fun h => by cases h)
theorem ty31 : TyOk Go.Proofs.Tryz.prog 31 ⟨(.cons (.int .i64) (.sl (.cons (.int .i64) (.int .i64)))), [([.l], (.int .i64)), ([.r], (.sl (.cons (.int .i64) (.int .i64))))], false⟩ := tyStruct rfl Go.Proofs.Tryz.underlying31 (by kernel_rfl) (by kernel_rfl) (by kernel_rfl) (by kernel_rfl) (fun h => by cases h)
theorem ty42 : TyOk Go.Proofs.Tryz.prog 42 ⟨(.sl (.int .u8)), [], false⟩ := tySl Go.Proofs.Tryz.underlying42 (by kernel_rfl) (by kernel_rfl) (by kernel_rfl) (by kernel_rfl) (by kernel_rfl) (by kernel_rfl) Go.Proofs.Tryz.underlying5
theorem ty54 : TyOk Go.Proofs.Tryz.prog 54 ⟨(.sl (.sl (.int .i64))), [], false⟩ := tySl Go.Proofs.Tryz.underlying54 (by kernel_rfl) (by kernel_rfl) (by kernel_rfl) (by kernel_rfl) (by kernel_rfl) (by kernel_rfl) trivial
theorem ty70 : TyOk Go.Proofs.Tryz.prog 70 ⟨(.sl .str), [], false⟩ := tySl Go.Proofs.Tryz.underlying70 (by kernel_rfl) (by kernel_rfl) (by kernel_rfl) (by kernel_rfl) (by kernel_rfl) (by kernel_rfl) trivial
theorem ty106 : TyOk Go.Proofs.Tryz.prog 106 ⟨(.cons (.int .i64) (.int .i64)), [([.l], (.int .i64)), ([.r], (.int .i64))], true⟩ := tyStruct rfl Go.Proofs.Tryz.underlying106 (by kernel_rfl) (by kernel_rfl) (by kernel_rfl) (by kernel_rfl) (fun _ => ⟨by kernel_rfl, by kernel_rfl, by decide, rfl, Go.Proofs.Tryz.underlying3, by decide, rfl, Go.Proofs.Tryz.underlying3⟩)
theorem ty107 : TyOk Go.Proofs.Tryz.prog 107 ⟨(.cons (.int .i64) (.int .i64)), [([.l], (.int .i64)), ([.r], (.int .i64))], true⟩ := tyStruct rfl Go.Proofs.Tryz.underlying107 (by kernel_rfl) (by kernel_rfl) (by kernel_rfl) (by kernel_rfl) (fun _ => ⟨by kernel_rfl, by kernel_rfl, by decide, rfl, Go.Proofs.Tryz.underlying3, by decide, rfl, Go.Proofs.Tryz.underlying3⟩)
theorem ty110 : TyOk Go.Proofs.Tryz.prog 110 ⟨(.cons (.int .i64) (.int .i64)), [([.l], (.int .i64)), ([.r], (.int .i64))], true⟩ := tyStruct rfl Go.Proofs.Tryz.underlying110 (by kernel_rfl) (by kernel_rfl) (by kernel_rfl) (by kernel_rfl) (fun _ => ⟨by kernel_rfl, by kernel_rfl, by decide, rfl, Go.Proofs.Tryz.underlying3, by decide, rfl, Go.Proofs.Tryz.underlying3⟩)
theorem ty114 : TyOk Go.Proofs.Tryz.prog 114 ⟨(.cons (.sl (.int .u8)) (.cons (.int .i64) (.int .i64))), [([.l], (.sl (.int .u8))), ([.r, .l], (.int .i64)), ([.r, .r], (.int .i64))], false⟩ := tyStruct rfl Go.Proofs.Tryz.underlying114 (by kernel_rfl) (by kernel_rfl) (by kernel_rfl) (by kernel_rfl) (fun h => by cases h)
theorem ty115 : TyOk Go.Proofs.Tryz.prog 115 ⟨(.cons (.sl (.int .u8)) (.cons (.int .i64) (.int .i64))), [([.l], (.sl (.int .u8))), ([.r, .l], (.int .i64)), ([.r, .r], (.int .i64))], false⟩ := tyStruct rfl Go.Proofs.Tryz.underlying115 (by kernel_rfl) (by kernel_rfl) (by kernel_rfl) (by kernel_rfl) (fun h => by cases h)
theorem ty121 : TyOk Go.Proofs.Tryz.prog 121 ⟨(.int .u64), [], false⟩ := tyInt Go.Proofs.Tryz.underlying121 (by kernel_rfl) (by kernel_rfl)
theorem ty159 : TyOk Go.Proofs.Tryz.prog 159 ⟨(.int .i64), [], false⟩ := tyInt Go.Proofs.Tryz.underlying159 (by kernel_rfl) (by kernel_rfl)
theorem ty166 : TyOk Go.Proofs.Tryz.prog 166 ⟨(.int .u32), [], false⟩ := tyInt Go.Proofs.Tryz.underlying166 (by kernel_rfl) (by kernel_rfl)
theorem ty168 : TyOk Go.Proofs.Tryz.prog 168 ⟨(.int .u64), [], false⟩ := tyInt Go.Proofs.Tryz.underlying168 (by kernel_rfl) (by kernel_rfl)
theorem ty176 : TyOk Go.Proofs.Tryz.prog 176 ⟨(.int .i64), [], false⟩ := tyInt Go.Proofs.Tryz.underlying176 (by kernel_rfl) (by kernel_rfl)
theorem ty183 : TyOk Go.Proofs.Tryz.prog 183 ⟨(.int .u64), [], false⟩ := tyInt Go.Proofs.Tryz.underlying183 (by kernel_rfl) (by kernel_rfl)
theorem ty203 : TyOk Go.Proofs.Tryz.prog 203 ⟨(.sl .bool), [], false⟩ := tySl Go.Proofs.Tryz.underlying203 (by kernel_rfl) (by kernel_rfl) (by kernel_rfl) (by kernel_rfl) (by kernel_rfl) (by kernel_rfl) trivial
theorem ty209 : TyOk Go.Proofs.Tryz.prog 209 ⟨(.one .str), [([.l], .str)], false⟩ := tyStruct rfl Go.Proofs.Tryz.underlying209 (by kernel_rfl) (by kernel_rfl) (by kernel_rfl) (by kernel_rfl) (fun h => by cases h)
theorem ty210 : TyOk Go.Proofs.Tryz.prog 210 ⟨(.one .str), [([.l], .str)], false⟩ := tyStruct rfl Go.Proofs.Tryz.underlying210 (by kernel_rfl) (by kernel_rfl) (by kernel_rfl) (by kernel_rfl) (fun h => by cases h)
theorem ty219 : TyOk Go.Proofs.Tryz.prog 219 ⟨(.int .u8), [], false⟩ := tyInt Go.Proofs.Tryz.underlying219 (by kernel_rfl) (by kernel_rfl)
theorem ty220 : TyOk Go.Proofs.Tryz.prog 220 ⟨(.int .u8), [], false⟩ := tyInt Go.Proofs.Tryz.underlying220 (by kernel_rfl) (by kernel_rfl)
theorem ty222 : TyOk Go.Proofs.Tryz.prog 222 ⟨(.int .i32), [], false⟩ := tyInt Go.Proofs.Tryz.underlying222 (by kernel_rfl) (by kernel_rfl)
theorem ty223 : TyOk Go.Proofs.Tryz.prog 223 ⟨(.int .i32), [], false⟩ := tyInt Go.Proofs.Tryz.underlying223 (by kernel_rfl) (by kernel_rfl)
theorem tys_ok : TysOk Go.Proofs.Tryz.prog Γ := tysOk (show Tys Go.Proofs.Tryz.prog 0 tys from ⟨ty2, ty3, ty4, ty5, ty6, ty7, ty8, ty9, ty10, ty11, ty12, ty13, ty14, ty21, ty22, ty23, ty24, ty26, ty29, ty30, ty31, ty42, ty54, ty70, ty106, ty107, ty110, ty114, ty115, ty121, ty159, ty166, ty168, ty176, ty183, ty203, ty209, ty210, ty219, ty220, ty222, ty223, trivial⟩) (fun T h => by obtain rfl := List.mem_singleton.1 h; exact ⟨_, _, Go.Proofs.Tryz.t3, Go.Proofs.Tryz.underlying122, Go.Proofs.Tryz.underlying9, by kernel_rfl, by kernel_rfl⟩)
theorem fnx0 : Fn1 Go.Proofs.Tryz.prog s0 := fn1 Go.Proofs.Tryz.func201 (by kernel_rfl)
theorem fnx1 : Fn1 Go.Proofs.Tryz.prog s1 := fn1 Go.Proofs.Tryz.func170 (by kernel_rfl)
theorem fnx2 : Fn1 Go.Proofs.Tryz.prog s2 := fn1 Go.Proofs.Tryz.func139 (by kernel_rfl)
theorem fns_ok : FnsOk Go.Proofs.Tryz.prog Γ := fnsOk (show Fns Go.Proofs.Tryz.prog sigs from ⟨fnx0, fnx1, fnx2, trivial⟩)
theorem good : Go.Den.Good Go.Proofs.Tryz.prog Γ noTold (den Γ X) := den_good (X := X) (by kernel_rfl) tys_ok fns_ok fun _ _ _ h => by cases (show false = true from h)
end Go.Proofs.YtfpccehboifkbaaGreatDoor.D0

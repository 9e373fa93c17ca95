/-
  What is asked of this program's types and functions holds: so what the evaluator tells of a function is what a call of it does.
-/
import Derived.Test.YtaapeofhcopajaaCtx
import Derived.Test.YtaapeofhcopajaaDnC
import Derived.Test.YtaapeofhcopajaaChecked
import Derived.KernelRfl
namespace Go.Proofs.Ytaapeofhcopajaa.D
open Go Go.Den
set_option linter.unusedVariables false
set_option maxRecDepth 100000
theorem ty2 : TyOk Go.Proofs.Try.prog 2 ⟨(.int .i64), [], false⟩ := tyInt Go.Proofs.Try.underlying2 (by kernel_rfl) (by kernel_rfl)
theorem ty3 : TyOk Go.Proofs.Try.prog 3 ⟨(.int .i64), [], false⟩ := tyInt Go.Proofs.Try.underlying3 (by kernel_rfl) (by kernel_rfl)
theorem ty4 : TyOk Go.Proofs.Try.prog 4 ⟨.bool, [], false⟩ := tyBool Go.Proofs.Try.underlying4 (by kernel_rfl) (by kernel_rfl)
theorem ty5 : TyOk Go.Proofs.Try.prog 5 ⟨(.int .u8), [], false⟩ := tyInt Go.Proofs.Try.underlying5 (by kernel_rfl) (by kernel_rfl)
theorem ty6 : TyOk Go.Proofs.Try.prog 6 ⟨(.int .u8), [], false⟩ := tyInt Go.Proofs.Try.underlying6 (by kernel_rfl) (by kernel_rfl)
theorem ty7 : TyOk Go.Proofs.Try.prog 7 ⟨(.cons (.int .i64) (.cons (.int .i64) (.cons .bool (.int .u8)))), [([.l], (.int .i64)), ([.r, .l], (.int .i64)), ([.r, .r, .l], .bool), ([.r, .r, .r], (.int .u8))], true⟩ := tyStruct rfl Go.Proofs.Try.underlying7 (by kernel_rfl) (by kernel_rfl) (by kernel_rfl) (by kernel_rfl) (fun _ => ⟨by kernel_rfl, by kernel_rfl, by decide, rfl, Go.Proofs.Try.underlying2, by decide, rfl, Go.Proofs.Try.underlying3, by decide, rfl, Go.Proofs.Try.underlying4, by decide, rfl, Go.Proofs.Try.underlying6⟩)
theorem ty8 : TyOk Go.Proofs.Try.prog 8 ⟨(.cons (.int .i64) (.cons (.int .i64) (.cons .bool (.int .u8)))), [([.l], (.int .i64)), ([.r, .l], (.int .i64)), ([.r, .r, .l], .bool), ([.r, .r, .r], (.int .u8))], true⟩ := tyStruct rfl Go.Proofs.Try.underlying8 (by kernel_rfl) (by kernel_rfl) (by kernel_rfl) (by kernel_rfl) (fun _ => ⟨by kernel_rfl, by kernel_rfl, by decide, rfl, Go.Proofs.Try.underlying2, by decide, rfl, Go.Proofs.Try.underlying3, by decide, rfl, Go.Proofs.Try.underlying4, by decide, rfl, Go.Proofs.Try.underlying6⟩)
theorem ty9 : TyOk Go.Proofs.Try.prog 9 ⟨.str, [], false⟩ := tyStr Go.Proofs.Try.underlying9 (by kernel_rfl) (by kernel_rfl)
theorem ty10 : TyOk Go.Proofs.Try.prog 10 ⟨.str, [], false⟩ := tyStr Go.Proofs.Try.underlying10 (by kernel_rfl) (by kernel_rfl)
theorem ty11 : TyOk Go.Proofs.Try.prog 11 ⟨.str, [], false⟩ := tyStr Go.Proofs.Try.underlying11 (by kernel_rfl) (by kernel_rfl)
theorem ty12 : TyOk Go.Proofs.Try.prog 12 ⟨(.int .u64), [], false⟩ := tyInt Go.Proofs.Try.underlying12 (by kernel_rfl) (by kernel_rfl)
theorem ty13 : TyOk Go.Proofs.Try.prog 13 ⟨(.cons .str (.int .u64)), [([.l], .str), ([.r], (.int .u64))], false⟩ := tyStruct rfl Go.Proofs.Try.underlying13 (by kernel_rfl) (by kernel_rfl) (by kernel_rfl) (by kernel_rfl) (fun h => by cases h)
theorem ty14 : TyOk Go.Proofs.Try.prog 14 ⟨(.cons .str (.int .u64)), [([.l], .str), ([.r], (.int .u64))], false⟩ := tyStruct rfl Go.Proofs.Try.underlying14 (by kernel_rfl) (by kernel_rfl) (by kernel_rfl) (by kernel_rfl) (fun h => by cases h)
theorem ty21 : TyOk Go.Proofs.Try.prog 21 ⟨(.int .i32), [], false⟩ := tyInt Go.Proofs.Try.underlying21 (by kernel_rfl) (by kernel_rfl)
theorem ty22 : TyOk Go.Proofs.Try.prog 22 ⟨(.sl (.cons (.int .i64) (.int .i64))), [], false⟩ := tySl Go.Proofs.Try.underlying22 (by kernel_rfl) (by kernel_rfl) (by kernel_rfl) (by kernel_rfl) (by kernel_rfl) (by kernel_rfl) trivial
theorem ty23 : TyOk Go.Proofs.Try.prog 23 ⟨(.cons (.int .i64) (.sl (.cons (.int .i64) (.int .i64)))), [([.l], (.int .i64)), ([.r], (.sl (.cons (.int .i64) (.int .i64))))], false⟩ := tyStruct rfl Go.Proofs.Try.underlying23 (by kernel_rfl) (by kernel_rfl) (by kernel_rfl) (by kernel_rfl) (fun h => by cases h)
theorem ty24 : TyOk Go.Proofs.Try.prog 24 ⟨(.cons (.int .i64) (.sl (.cons (.int .i64) (.int .i64)))), [([.l], (.int .i64)), ([.r], (.sl (.cons (.int .i64) (.int .i64))))], false⟩ := tyStruct rfl Go.Proofs.Try.underlying24 (by kernel_rfl) (by kernel_rfl) (by kernel_rfl) (by kernel_rfl) (fun h => by cases h)
theorem ty25 : TyOk Go.Proofs.Try.prog 25 ⟨(.sl (.int .i64)), [], false⟩ := tySl Go.Proofs.Try.underlying25 (by kernel_rfl) (by kernel_rfl) (by kernel_rfl) (by kernel_rfl) (by kernel_rfl) (by kernel_rfl) Go.Proofs.Try.underlying3
theorem ty26 : TyOk Go.Proofs.Try.prog 26 ⟨(.cons (.cons (.int .i64) (.sl (.cons (.int .i64) (.int .i64)))) (.cons (.sl (.int .i64)) (.int .i64))), [([.l], (.cons (.int .i64) (.sl (.cons (.int .i64) (.int .i64))))), ([.r, .l], (.sl (.int .i64))), ([.r, .r], (.int .i64))], false⟩ := tyStruct rfl Go.Proofs.Try.underlying26 (by kernel_rfl) (by kernel_rfl) (by kernel_rfl) (by kernel_rfl) (fun h => by cases h)
theorem ty27 : TyOk Go.Proofs.Try.prog 27 ⟨(.cons (.cons (.int .i64) (.sl (.cons (.int .i64) (.int .i64)))) (.cons (.sl (.int .i64)) (.int .i64))), [([.l], (.cons (.int .i64) (.sl (.cons (.int .i64) (.int .i64))))), ([.r, .l], (.sl (.int .i64))), ([.r, .r], (.int .i64))], false⟩ := tyStruct rfl Go.Proofs.Try.underlying27 (by kernel_rfl) (by kernel_rfl) (by kernel_rfl) (by kernel_rfl) (fun h => by cases h)
theorem ty39 : TyOk Go.Proofs.Try.prog 39 ⟨(.cons (.int .i64) (.int .i64)), [([.l], (.int .i64)), ([.r], (.int .i64))], true⟩ := tyStruct rfl Go.Proofs.Try.underlying39 (by kernel_rfl) (by kernel_rfl) (by kernel_rfl) (by kernel_rfl) (fun _ => ⟨by kernel_rfl, by kernel_rfl, by decide, rfl, Go.Proofs.Try.underlying3, by decide, rfl, Go.Proofs.Try.underlying3⟩)
theorem ty40 : TyOk Go.Proofs.Try.prog 40 ⟨(.cons (.int .i64) (.int .i64)), [([.l], (.int .i64)), ([.r], (.int .i64))], true⟩ := tyStruct rfl Go.Proofs.Try.underlying40 (by kernel_rfl) (by kernel_rfl) (by kernel_rfl) (by kernel_rfl) (fun _ => ⟨by kernel_rfl, by kernel_rfl, by decide, rfl, Go.Proofs.Try.underlying3, by decide, rfl, Go.Proofs.Try.underlying3⟩)
theorem ty48 : TyOk Go.Proofs.Try.prog 48 ⟨(.int .u32), [], false⟩ := tyInt Go.Proofs.Try.underlying48 (by kernel_rfl) (by kernel_rfl)
theorem ty49 : TyOk Go.Proofs.Try.prog 49 ⟨(.int .u8), [], false⟩ := tyInt Go.Proofs.Try.underlying49 (by kernel_rfl) (by kernel_rfl)
theorem ty50 : TyOk Go.Proofs.Try.prog 50 ⟨(.int .u8), [], false⟩ := tyInt Go.Proofs.Try.underlying50 (by kernel_rfl) (by kernel_rfl)
theorem ty53 : TyOk Go.Proofs.Try.prog 53 ⟨(.int .i32), [], false⟩ := tyInt Go.Proofs.Try.underlying53 (by kernel_rfl) (by kernel_rfl)
theorem ty54 : TyOk Go.Proofs.Try.prog 54 ⟨(.int .i32), [], false⟩ := tyInt Go.Proofs.Try.underlying54 (by kernel_rfl) (by kernel_rfl)
theorem tys_ok : TysOk Go.Proofs.Try.prog Γ := tysOk (show Tys Go.Proofs.Try.prog 0 tys from ⟨ty2, ty3, ty4, ty5, ty6, ty7, ty8, ty9, ty10, ty11, ty12, ty13, ty14, ty21, ty22, ty23, ty24, ty25, ty26, ty27, ty39, ty40, ty48, ty49, ty50, ty53, ty54, trivial⟩)
theorem fnx0 : Fn1 Go.Proofs.Try.prog s0 := fn1 Go.Proofs.Try.func4 (by kernel_rfl)
theorem fnx1 : Fn1 Go.Proofs.Try.prog s1 := fn1 Go.Proofs.Try.func5 (by kernel_rfl)
theorem fnx2 : Fn1 Go.Proofs.Try.prog s2 := fn1 Go.Proofs.Try.func18 (by kernel_rfl)
theorem fnx3 : Fn1 Go.Proofs.Try.prog s3 := fn1 Go.Proofs.Try.func15 (by kernel_rfl)
theorem fnx4 : Fn1 Go.Proofs.Try.prog s4 := fn1 Go.Proofs.Try.func9 (by kernel_rfl)
theorem fnx5 : Fn1 Go.Proofs.Try.prog s5 := fn1 Go.Proofs.Try.func10 (by kernel_rfl)
theorem fnx6 : Fn1 Go.Proofs.Try.prog s6 := fn1 Go.Proofs.Try.func6 (by kernel_rfl)
theorem fnx7 : Fn1 Go.Proofs.Try.prog s7 := fn1 Go.Proofs.Try.func16 (by kernel_rfl)
theorem fnx8 : Fn1 Go.Proofs.Try.prog s8 := fn1 Go.Proofs.Try.func11 (by kernel_rfl)
theorem fnx9 : Fn1 Go.Proofs.Try.prog s9 := fn1 Go.Proofs.Try.func12 (by kernel_rfl)
theorem fnx10 : Fn1 Go.Proofs.Try.prog s10 := fn1 Go.Proofs.Try.func7 (by kernel_rfl)
theorem fnx11 : Fn1 Go.Proofs.Try.prog s11 := fn1 Go.Proofs.Try.func17 (by kernel_rfl)
theorem fnx12 : Fn1 Go.Proofs.Try.prog s12 := fn1 Go.Proofs.Try.func13 (by kernel_rfl)
theorem fnx13 : Fn1 Go.Proofs.Try.prog s13 := fn1 Go.Proofs.Try.func14 (by kernel_rfl)
theorem fnx14 : Fn1 Go.Proofs.Try.prog s14 := fn1 Go.Proofs.Try.func8 (by kernel_rfl)
theorem fnx15 : Fn1 Go.Proofs.Try.prog s15 := fn1 Go.Proofs.Try.func3 (by kernel_rfl)
theorem fns_ok : FnsOk Go.Proofs.Try.prog Γ := fnsOk (show Fns Go.Proofs.Try.prog sigs from ⟨fnx0, fnx1, fnx2, fnx3, fnx4, fnx5, fnx6, fnx7, fnx8, fnx9, fnx10, fnx11, fnx12, fnx13, fnx14, fnx15, trivial⟩)
theorem good : Go.Den.Good Go.Proofs.Try.prog Γ (den Γ X) := den_good (X := X) (by kernel_rfl) tys_ok fns_ok fun _ _ _ h => by cases (show false = true from h)
end Go.Proofs.Ytaapeofhcopajaa.D

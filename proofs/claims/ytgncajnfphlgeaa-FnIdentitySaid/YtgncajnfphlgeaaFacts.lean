/-
  What is asked of this program's types and functions holds: so what the evaluator tells of a function is what a call of it does.
-/
import Derived.Test.YtgncajnfphlgeaaCtx
import Derived.Test.YtgncajnfphlgeaaDnC
import Derived.Test.YtgncajnfphlgeaaChecked
import Derived.Test.YtgncajnfphlgeaaCmh
import Derived.KernelRfl
namespace Go.Proofs.Ytgncajnfphlgeaa.D
open Go Go.Den
set_option linter.unusedVariables false
set_option maxRecDepth 100000
theorem ty2 : TyOk Go.Proofs.Try.prog 2 ⟨(.int .i64), [], false⟩ := tyInt Go.Proofs.Try.underlying2 (by kernel_rfl) (by kernel_rfl)
theorem ty3 : TyOk Go.Proofs.Try.prog 3 ⟨(.int .i64), [], false⟩ := tyInt Go.Proofs.Try.underlying3 (by kernel_rfl) (by kernel_rfl)
theorem ty4 : TyOk Go.Proofs.Try.prog 4 ⟨.bool, [], false⟩ := tyBool Go.Proofs.Try.underlying4 (by kernel_rfl) (by kernel_rfl)
theorem ty5 : TyOk Go.Proofs.Try.prog 5 ⟨(.int .u8), [], false⟩ := tyInt Go.Proofs.Try.underlying5 (by kernel_rfl) (by kernel_rfl)
theorem ty6 : TyOk Go.Proofs.Try.prog 6 ⟨(.int .u8), [], false⟩ := tyInt Go.Proofs.Try.underlying6 (by kernel_rfl) (by kernel_rfl)
theorem ty7 : TyOk Go.Proofs.Try.prog 7 ⟨(.cons (.int .i64) (.cons (.int .i64) (.cons .bool (.int .u8)))), [([.l], (.int .i64)), ([.r, .l], (.int .i64)), ([.r, .r, .l], .bool), ([.r, .r, .r], (.int .u8))], true⟩ := tyStruct rfl Go.Proofs.Try.underlying7 (by kernel_rfl) (by kernel_rfl) (by kernel_rfl) (by kernel_rfl) (fun _ => ⟨by kernel_rfl, by kernel_rfl, by decide, rfl, Go.Proofs.Try.underlying2, by decide, rfl, Go.Proofs.Try.underlying3, by decide, rfl, Go.Proofs.Try.underlying4, by decide, rfl, Go.Proofs.Try.underlying6⟩)
theorem ty8 : TyOk Go.Proofs.Try.prog 8 ⟨(.cons (.int .i64) (.cons (.int .i64) (.cons .bool (.int .u8)))), [([.l], (.int .i64)), ([.r, .l], (.int .i64)), ([.r, .r, .l], .bool), ([.r, .r, .r], (.int .u8))], true⟩ := tyStruct rfl Go.Proofs.Try.underlying8 (by kernel_rfl) (by kernel_rfl) (by kernel_rfl) (by kernel_rfl) (fun _ => ⟨by kernel_rfl, by kernel_rfl, by decide, rfl, Go.Proofs.Try.underlying2, by decide, rfl, Go.Proofs.Try.underlying3, by decide, rfl, Go.Proofs.Try.underlying4, by decide, rfl, Go.Proofs.Try.underlying6⟩)
theorem ty9 : TyOk Go.Proofs.Try.prog 9 ⟨.str, [], false⟩ := tyStr Go.Proofs.Try.underlying9 (by kernel_rfl) (by kernel_rfl)
theorem ty10 : TyOk Go.Proofs.Try.prog 10 ⟨.str, [], false⟩ := tyStr Go.Proofs.Try.underlying10 (by kernel_rfl) (by kernel_rfl)
theorem ty11 : TyOk Go.Proofs.Try.prog 11 ⟨.str, [], false⟩ := tyStr Go.Proofs.Try.underlying11 (by kernel_rfl) (by kernel_rfl)
theorem ty12 : TyOk Go.Proofs.Try.prog 12 ⟨(.int .u64), [], false⟩ := tyInt Go.Proofs.Try.underlying12 (by kernel_rfl) (by kernel_rfl)
theorem ty13 : TyOk Go.Proofs.Try.prog 13 ⟨(.cons .str (.int .u64)), [([.l], .str), ([.r], (.int .u64))], false⟩ := tyStruct rfl Go.Proofs.Try.underlying13 (by kernel_rfl) (by kernel_rfl) (by kernel_rfl) (by kernel_rfl) (fun h => by cases h)
theorem ty14 : TyOk Go.Proofs.Try.prog 14 ⟨(.cons .str (.int .u64)), [([.l], .str), ([.r], (.int .u64))], false⟩ := tyStruct rfl Go.Proofs.Try.underlying14 (by kernel_rfl) (by kernel_rfl) (by kernel_rfl) (by kernel_rfl) (fun h => by cases h)
theorem ty21 : TyOk Go.Proofs.Try.prog 21 ⟨(.int .i32), [], false⟩ := tyInt Go.Proofs.Try.underlying21 (by kernel_rfl) (by kernel_rfl)
theorem ty22 : TyOk Go.Proofs.Try.prog 22 ⟨(.sl (.cons (.int .i64) (.int .i64))), [], false⟩ := tySl Go.Proofs.Try.underlying22 (by kernel_rfl) (by kernel_rfl) (by kernel_rfl) (by kernel_rfl) (by kernel_rfl) (by kernel_rfl) trivial
theorem ty23 : TyOk Go.Proofs.Try.prog 23 ⟨(.cons (.int .i64) (.sl (.cons (.int .i64) (.int .i64)))), [([.l], (.int .i64)), ([.r], (.sl (.cons (.int .i64) (.int .i64))))], false⟩ := tyStruct rfl Go.Proofs.Try.underlying23 (by kernel_rfl) (by kernel_rfl) (by kernel_rfl) (by kernel_rfl) (fun h => by cases h)
theorem ty24 : TyOk Go.Proofs.Try.prog 24 ⟨(.cons (.int .i64) (.sl (.cons (.int .i64) (.int .i64)))), [([.l], (.int .i64)), ([.r], (.sl (.cons (.int .i64) (.int .i64))))], false⟩ := tyStruct rfl Go.Proofs.Try.underlying24 (by kernel_rfl) (by kernel_rfl) (by kernel_rfl) (by kernel_rfl) (fun h => by cases h)
theorem ty27 : TyOk Go.Proofs.Try.prog 27 ⟨(.sl (.cons (.int .i64) (.int .i64))), [], false⟩ := tySl Go.Proofs.Try.underlying27 (by kernel_rfl) (by kernel_rfl) (by kernel_rfl) (by kernel_rfl) (by kernel_rfl) (by kernel_rfl) trivial
theorem ty28 : TyOk Go.Proofs.Try.prog 28 ⟨(.cons (.int .i64) (.sl (.cons (.int .i64) (.int .i64)))), [([.l], (.int .i64)), ([.r], (.sl (.cons (.int .i64) (.int .i64))))], false⟩ := tyStruct rfl Go.Proofs.Try.underlying28 (by kernel_rfl) (by kernel_rfl) (by kernel_rfl) (by kernel_rfl) (fun h => by cases h)
theorem ty29 : TyOk Go.Proofs.Try.prog 29 ⟨(.cons (.int .i64) (.sl (.cons (.int .i64) (.int .i64)))), [([.l], (.int .i64)), ([.r], (.sl (.cons (.int .i64) (.int .i64))))], false⟩ := tyStruct rfl Go.Proofs.Try.underlying29 (by kernel_rfl) (by kernel_rfl) (by kernel_rfl) (by kernel_rfl) (fun h => by cases h)
theorem ty33 : TyOk Go.Proofs.Try.prog 33 ⟨(.sl (.int .u8)), [], false⟩ := tySl Go.Proofs.Try.underlying33 (by kernel_rfl) (by kernel_rfl) (by kernel_rfl) (by kernel_rfl) (by kernel_rfl) (by kernel_rfl) Go.Proofs.Try.underlying5
theorem ty35 : TyOk Go.Proofs.Try.prog 35 ⟨(.sl (.int .i64)), [], false⟩ := tySl Go.Proofs.Try.underlying35 (by kernel_rfl) (by kernel_rfl) (by kernel_rfl) (by kernel_rfl) (by kernel_rfl) (by kernel_rfl) Go.Proofs.Try.underlying3
theorem ty36 : TyOk Go.Proofs.Try.prog 36 ⟨(.cons (.sl (.int .i64)) (.sl (.int .i64))), [([.l], (.sl (.int .i64))), ([.r], (.sl (.int .i64)))], false⟩ := tyStruct rfl Go.Proofs.Try.underlying36 (by kernel_rfl) (by kernel_rfl) (by kernel_rfl) (by kernel_rfl) (fun h => by cases h)
theorem ty37 : TyOk Go.Proofs.Try.prog 37 ⟨(.cons (.sl (.int .i64)) (.sl (.int .i64))), [([.l], (.sl (.int .i64))), ([.r], (.sl (.int .i64)))], false⟩ := tyStruct rfl Go.Proofs.Try.underlying37 (by kernel_rfl) (by kernel_rfl) (by kernel_rfl) (by kernel_rfl) (fun h => by cases h)
theorem ty52 : TyOk Go.Proofs.Try.prog 52 ⟨(.cons (.int .i64) (.int .i64)), [([.l], (.int .i64)), ([.r], (.int .i64))], true⟩ := tyStruct rfl Go.Proofs.Try.underlying52 (by kernel_rfl) (by kernel_rfl) (by kernel_rfl) (by kernel_rfl) (fun _ => ⟨by kernel_rfl, by kernel_rfl, by decide, rfl, Go.Proofs.Try.underlying3, by decide, rfl, Go.Proofs.Try.underlying3⟩)
theorem ty53 : TyOk Go.Proofs.Try.prog 53 ⟨(.cons (.int .i64) (.int .i64)), [([.l], (.int .i64)), ([.r], (.int .i64))], true⟩ := tyStruct rfl Go.Proofs.Try.underlying53 (by kernel_rfl) (by kernel_rfl) (by kernel_rfl) (by kernel_rfl) (fun _ => ⟨by kernel_rfl, by kernel_rfl, by decide, rfl, Go.Proofs.Try.underlying3, by decide, rfl, Go.Proofs.Try.underlying3⟩)
theorem ty65 : TyOk Go.Proofs.Try.prog 65 ⟨(.cons (.int .i64) (.int .i64)), [([.l], (.int .i64)), ([.r], (.int .i64))], true⟩ := tyStruct rfl Go.Proofs.Try.underlying65 (by kernel_rfl) (by kernel_rfl) (by kernel_rfl) (by kernel_rfl) (fun _ => ⟨by kernel_rfl, by kernel_rfl, by decide, rfl, Go.Proofs.Try.underlying3, by decide, rfl, Go.Proofs.Try.underlying3⟩)
theorem ty74 : TyOk Go.Proofs.Try.prog 74 ⟨(.cons (.sl (.int .u8)) (.cons (.int .i64) (.int .i64))), [([.l], (.sl (.int .u8))), ([.r, .l], (.int .i64)), ([.r, .r], (.int .i64))], false⟩ := tyStruct rfl Go.Proofs.Try.underlying74 (by kernel_rfl) (by kernel_rfl) (by kernel_rfl) (by kernel_rfl) (fun h => by cases h)
theorem ty75 : TyOk Go.Proofs.Try.prog 75 ⟨(.cons (.sl (.int .u8)) (.cons (.int .i64) (.int .i64))), [([.l], (.sl (.int .u8))), ([.r, .l], (.int .i64)), ([.r, .r], (.int .i64))], false⟩ := tyStruct rfl Go.Proofs.Try.underlying75 (by kernel_rfl) (by kernel_rfl) (by kernel_rfl) (by kernel_rfl) (fun h => by cases h)
theorem ty84 : TyOk Go.Proofs.Try.prog 84 ⟨(.int .u64), [], false⟩ := tyInt Go.Proofs.Try.underlying84 (by kernel_rfl) (by kernel_rfl)
theorem ty94 : TyOk Go.Proofs.Try.prog 94 ⟨(.int .u32), [], false⟩ := tyInt Go.Proofs.Try.underlying94 (by kernel_rfl) (by kernel_rfl)
theorem ty95 : TyOk Go.Proofs.Try.prog 95 ⟨(.int .u8), [], false⟩ := tyInt Go.Proofs.Try.underlying95 (by kernel_rfl) (by kernel_rfl)
theorem ty96 : TyOk Go.Proofs.Try.prog 96 ⟨(.int .u8), [], false⟩ := tyInt Go.Proofs.Try.underlying96 (by kernel_rfl) (by kernel_rfl)
theorem ty99 : TyOk Go.Proofs.Try.prog 99 ⟨(.int .i32), [], false⟩ := tyInt Go.Proofs.Try.underlying99 (by kernel_rfl) (by kernel_rfl)
theorem ty100 : TyOk Go.Proofs.Try.prog 100 ⟨(.int .i32), [], false⟩ := tyInt Go.Proofs.Try.underlying100 (by kernel_rfl) (by kernel_rfl)
theorem tys_ok : TysOk Go.Proofs.Try.prog Γ := tysOk (show Tys Go.Proofs.Try.prog 0 tys from ⟨ty2, ty3, ty4, ty5, ty6, ty7, ty8, ty9, ty10, ty11, ty12, ty13, ty14, ty21, ty22, ty23, ty24, ty27, ty28, ty29, ty33, ty35, ty36, ty37, ty52, ty53, ty65, ty74, ty75, ty84, ty94, ty95, ty96, ty99, ty100, trivial⟩) (fun T h => by cases h)
theorem fnx0 : Fn1 Go.Proofs.Try.prog s0 := fn1 Go.Proofs.Try.func18 (by kernel_rfl)
theorem fnx1 : Fn1 Go.Proofs.Try.prog s1 := fn1 Go.Proofs.Try.func5 (by kernel_rfl)
theorem fnx2 : Fn1 Go.Proofs.Try.prog s2 := fn1 Go.Proofs.Try.func39 (by kernel_rfl)
theorem fnx3 : Fn1 Go.Proofs.Try.prog s3 := fn1 Go.Proofs.Try.func21 (by kernel_rfl)
theorem fnx4 : Fn1 Go.Proofs.Try.prog s4 := fn1 Go.Proofs.Try.func7 (by kernel_rfl)
theorem fnx5 : Fn1 Go.Proofs.Try.prog s5 := fn1 Go.Proofs.Try.func53 (by kernel_rfl)
theorem fnx6 : Fn1 Go.Proofs.Try.prog s6 := fn1 Go.Proofs.Try.func36 (by kernel_rfl)
theorem fnx7 : Fn1 Go.Proofs.Try.prog s7 := fn1 Go.Proofs.Try.func54 (by kernel_rfl)
theorem fnx8 : Fn1 Go.Proofs.Try.prog s8 := fn1 Go.Proofs.Try.func37 (by kernel_rfl)
theorem fnx9 : Fn1 Go.Proofs.Try.prog s9 := fn1 Go.Proofs.Try.func19 (by kernel_rfl)
theorem fnx10 : Fn1 Go.Proofs.Try.prog s10 := fn1 Go.Proofs.Try.func55 (by kernel_rfl)
theorem fnx11 : Fn1 Go.Proofs.Try.prog s11 := fn1 Go.Proofs.Try.func59 (by kernel_rfl)
theorem fnx12 : Fn1 Go.Proofs.Try.prog s12 := fn1 Go.Proofs.Try.func56 (by kernel_rfl)
theorem fnx13 : Fn1 Go.Proofs.Try.prog s13 := fn1 Go.Proofs.Try.func38 (by kernel_rfl)
theorem fnx14 : Fn1 Go.Proofs.Try.prog s14 := fn1 Go.Proofs.Try.func20 (by kernel_rfl)
theorem fnx15 : Fn1 Go.Proofs.Try.prog s15 := fn1 Go.Proofs.Try.func6 (by kernel_rfl)
theorem fnx16 : Fn1 Go.Proofs.Try.prog s16 := fn1 Go.Proofs.Try.func51 (by kernel_rfl)
theorem fnx17 : Fn1 Go.Proofs.Try.prog s17 := fn1 Go.Proofs.Try.func40 (by kernel_rfl)
theorem fnx18 : Fn1 Go.Proofs.Try.prog s18 := fn1 Go.Proofs.Try.func60 (by kernel_rfl)
theorem fnx19 : Fn1 Go.Proofs.Try.prog s19 := fn1 Go.Proofs.Try.func57 (by kernel_rfl)
theorem fnx20 : Fn1 Go.Proofs.Try.prog s20 := fn1 Go.Proofs.Try.func42 (by kernel_rfl)
theorem fnx21 : Fn1 Go.Proofs.Try.prog s21 := fn1 Go.Proofs.Try.func41 (by kernel_rfl)
theorem fnx22 : Fn1 Go.Proofs.Try.prog s22 := fn1 Go.Proofs.Try.func43 (by kernel_rfl)
theorem fnx23 : Fn1 Go.Proofs.Try.prog s23 := fn1 Go.Proofs.Try.func22 (by kernel_rfl)
theorem fnx24 : Fn1 Go.Proofs.Try.prog s24 := fn1 Go.Proofs.Try.func50 (by kernel_rfl)
theorem fnx25 : Fn1 Go.Proofs.Try.prog s25 := fn1 Go.Proofs.Try.func34 (by kernel_rfl)
theorem fnx26 : Fn1 Go.Proofs.Try.prog s26 := fn1 Go.Proofs.Try.func52 (by kernel_rfl)
theorem fnx27 : Fn1 Go.Proofs.Try.prog s27 := fn1 Go.Proofs.Try.func35 (by kernel_rfl)
theorem fnx28 : Fn1 Go.Proofs.Try.prog s28 := fn1 Go.Proofs.Try.func24 (by kernel_rfl)
theorem fnx29 : Fn1 Go.Proofs.Try.prog s29 := fn1 Go.Proofs.Try.func25 (by kernel_rfl)
theorem fnx30 : Fn1 Go.Proofs.Try.prog s30 := fn1 Go.Proofs.Try.func15 (by kernel_rfl)
theorem fnx31 : Fn1 Go.Proofs.Try.prog s31 := fn1 Go.Proofs.Try.func8 (by kernel_rfl)
theorem fnx32 : Fn1 Go.Proofs.Try.prog s32 := fn1 Go.Proofs.Try.func44 (by kernel_rfl)
theorem fnx33 : Fn1 Go.Proofs.Try.prog s33 := fn1 Go.Proofs.Try.func27 (by kernel_rfl)
theorem fnx34 : Fn1 Go.Proofs.Try.prog s34 := fn1 Go.Proofs.Try.func9 (by kernel_rfl)
theorem fnx35 : Fn1 Go.Proofs.Try.prog s35 := fn1 Go.Proofs.Try.func3 (by kernel_rfl)
theorem fnx36 : Fn1 Go.Proofs.Try.prog s36 := fn1 Go.Proofs.Try.func29 (by kernel_rfl)
theorem fnx37 : Fn1 Go.Proofs.Try.prog s37 := fn1 Go.Proofs.Try.func49 (by kernel_rfl)
theorem fnx38 : Fn1 Go.Proofs.Try.prog s38 := fn1 Go.Proofs.Try.func45 (by kernel_rfl)
theorem fnx39 : Fn1 Go.Proofs.Try.prog s39 := fn1 Go.Proofs.Try.func58 (by kernel_rfl)
theorem fnx40 : Fn1 Go.Proofs.Try.prog s40 := fn1 Go.Proofs.Try.func46 (by kernel_rfl)
theorem fnx41 : Fn1 Go.Proofs.Try.prog s41 := fn1 Go.Proofs.Try.func47 (by kernel_rfl)
theorem fnx42 : Fn1 Go.Proofs.Try.prog s42 := fn1 Go.Proofs.Try.func28 (by kernel_rfl)
theorem fnx43 : Fn1 Go.Proofs.Try.prog s43 := fn1 Go.Proofs.Try.func10 (by kernel_rfl)
theorem fnx44 : Fn1 Go.Proofs.Try.prog s44 := fn1 Go.Proofs.Try.func11 (by kernel_rfl)
theorem fnx45 : Fn1 Go.Proofs.Try.prog s45 := fn1 Go.Proofs.Try.func31 (by kernel_rfl)
theorem fnx46 : Fn1 Go.Proofs.Try.prog s46 := fn1 Go.Proofs.Try.func48 (by kernel_rfl)
theorem fnx47 : Fn1 Go.Proofs.Try.prog s47 := fn1 Go.Proofs.Try.func30 (by kernel_rfl)
theorem fnx48 : Fn1 Go.Proofs.Try.prog s48 := fn1 Go.Proofs.Try.func12 (by kernel_rfl)
theorem fnx49 : Fn1 Go.Proofs.Try.prog s49 := fn1 Go.Proofs.Try.func32 (by kernel_rfl)
theorem fnx50 : Fn1 Go.Proofs.Try.prog s50 := fn1 Go.Proofs.Try.func13 (by kernel_rfl)
theorem fnx51 : Fn1 Go.Proofs.Try.prog s51 := fn1 Go.Proofs.Try.func33 (by kernel_rfl)
theorem fnx52 : Fn1 Go.Proofs.Try.prog s52 := fn1 Go.Proofs.Try.func14 (by kernel_rfl)
theorem fnx53 : Fn1 Go.Proofs.Try.prog s53 := fn1 Go.Proofs.Try.func16 (by kernel_rfl)
theorem fnx54 : Fn1 Go.Proofs.Try.prog s54 := fn1 Go.Proofs.Try.func17 (by kernel_rfl)
theorem fnx55 : Fn1 Go.Proofs.Try.prog s55 := fn1 Go.Proofs.Try.func4 (by kernel_rfl)
theorem fns_ok : FnsOk Go.Proofs.Try.prog Γ := fnsOk (show Fns Go.Proofs.Try.prog sigs from ⟨fnx0, fnx1, fnx2, fnx3, fnx4, fnx5, fnx6, fnx7, fnx8, fnx9, fnx10, fnx11, fnx12, fnx13, fnx14, fnx15, fnx16, fnx17, fnx18, fnx19, fnx20, fnx21, fnx22, fnx23, fnx24, fnx25, fnx26, fnx27, fnx28, fnx29, fnx30, fnx31, fnx32, fnx33, fnx34, fnx35, fnx36, fnx37, fnx38, fnx39, fnx40, fnx41, fnx42, fnx43, fnx44, fnx45, fnx46, fnx47, fnx48, fnx49, fnx50, fnx51, fnx52, fnx53, fnx54, fnx55, trivial⟩)
theorem ext_ok (O : Fun Γ) (hO : Go.Den.Good Go.Proofs.Try.prog Γ noTold O) (n : Nat) (a : (prodTy (Γ.insL n)).den) (r : (prodTy (Γ.outsL n)).den) (h : X.has n = true) (hr : X.f O n a = some r) : Holds Go.Proofs.Try.prog Γ noTold n a r := by
  have h1 : (n == 31) = true := h
  simp only [Bool.or_eq_true, beq_iff_eq] at h1
  rcases h1 with rfl
  · exact cm_holds hO hr
theorem good : Go.Den.Good Go.Proofs.Try.prog Γ noTold (den Γ X) := den_good (X := X) (by kernel_rfl) tys_ok fns_ok ext_ok
end Go.Proofs.Ytgncajnfphlgeaa.D

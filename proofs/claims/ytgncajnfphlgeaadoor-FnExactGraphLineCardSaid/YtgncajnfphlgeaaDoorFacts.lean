/-
  What is asked of this program's types and functions holds: so what the evaluator tells of a function is what a call of it does.
-/
import Derived.Test.YtgncajnfphlgeaaDoorCtx
import Derived.Test.YtgncajnfphlgeaaDoorDnC
import Derived.Test.YtgncajnfphlgeaaDoorChecked
import Derived.Test.YtgncajnfphlgeaaDoorLaidW
import Derived.Test.YtgncajnfphlgeaaDoorLaid
import Derived.Test.YtgncajnfphlgeaaDoorRed
import Derived.KernelRfl
namespace Go.Proofs.YtgncajnfphlgeaaDoor.D
open Go Go.Den
set_option linter.unusedVariables false
set_option maxRecDepth 100000
theorem ty2 : TyOk Go.Proofs.Tryd.prog 2 ⟨(.int .i64), [], false⟩ := tyInt Go.Proofs.Tryd.underlying2 (by kernel_rfl) (by kernel_rfl)
theorem ty3 : TyOk Go.Proofs.Tryd.prog 3 ⟨(.int .i64), [], false⟩ := tyInt Go.Proofs.Tryd.underlying3 (by kernel_rfl) (by kernel_rfl)
theorem ty4 : TyOk Go.Proofs.Tryd.prog 4 ⟨.bool, [], false⟩ := tyBool Go.Proofs.Tryd.underlying4 (by kernel_rfl) (by kernel_rfl)
theorem ty5 : TyOk Go.Proofs.Tryd.prog 5 ⟨(.int .u8), [], false⟩ := tyInt Go.Proofs.Tryd.underlying5 (by kernel_rfl) (by kernel_rfl)
theorem ty6 : TyOk Go.Proofs.Tryd.prog 6 ⟨(.int .u8), [], false⟩ := tyInt Go.Proofs.Tryd.underlying6 (by kernel_rfl) (by kernel_rfl)
theorem ty7 : TyOk Go.Proofs.Tryd.prog 7 ⟨(.cons (.int .i64) (.cons (.int .i64) (.cons .bool (.int .u8)))), [([.l], (.int .i64)), ([.r, .l], (.int .i64)), ([.r, .r, .l], .bool), ([.r, .r, .r], (.int .u8))], true⟩ := tyStruct rfl Go.Proofs.Tryd.underlying7 (by kernel_rfl) (by kernel_rfl) (by kernel_rfl) (by kernel_rfl) (fun _ => ⟨by kernel_rfl, by kernel_rfl, by decide, rfl, Go.Proofs.Tryd.underlying2, by decide, rfl, Go.Proofs.Tryd.underlying3, by decide, rfl, Go.Proofs.Tryd.underlying4, by decide, rfl, Go.Proofs.Tryd.underlying6⟩)
theorem ty8 : TyOk Go.Proofs.Tryd.prog 8 ⟨(.cons (.int .i64) (.cons (.int .i64) (.cons .bool (.int .u8)))), [([.l], (.int .i64)), ([.r, .l], (.int .i64)), ([.r, .r, .l], .bool), ([.r, .r, .r], (.int .u8))], true⟩ := tyStruct rfl Go.Proofs.Tryd.underlying8 (by kernel_rfl) (by kernel_rfl) (by kernel_rfl) (by kernel_rfl) (fun _ => ⟨by kernel_rfl, by kernel_rfl, by decide, rfl, Go.Proofs.Tryd.underlying2, by decide, rfl, Go.Proofs.Tryd.underlying3, by decide, rfl, Go.Proofs.Tryd.underlying4, by decide, rfl, Go.Proofs.Tryd.underlying6⟩)
theorem ty9 : TyOk Go.Proofs.Tryd.prog 9 ⟨.str, [], false⟩ := tyStr Go.Proofs.Tryd.underlying9 (by kernel_rfl) (by kernel_rfl)
theorem ty10 : TyOk Go.Proofs.Tryd.prog 10 ⟨.str, [], false⟩ := tyStr Go.Proofs.Tryd.underlying10 (by kernel_rfl) (by kernel_rfl)
theorem ty11 : TyOk Go.Proofs.Tryd.prog 11 ⟨.str, [], false⟩ := tyStr Go.Proofs.Tryd.underlying11 (by kernel_rfl) (by kernel_rfl)
theorem ty12 : TyOk Go.Proofs.Tryd.prog 12 ⟨(.int .u64), [], false⟩ := tyInt Go.Proofs.Tryd.underlying12 (by kernel_rfl) (by kernel_rfl)
theorem ty13 : TyOk Go.Proofs.Tryd.prog 13 ⟨(.cons .str (.int .u64)), [([.l], .str), ([.r], (.int .u64))], false⟩ := tyStruct rfl Go.Proofs.Tryd.underlying13 (by kernel_rfl) (by kernel_rfl) (by kernel_rfl) (by kernel_rfl) (fun h => by cases h)
theorem ty14 : TyOk Go.Proofs.Tryd.prog 14 ⟨(.cons .str (.int .u64)), [([.l], .str), ([.r], (.int .u64))], false⟩ := tyStruct rfl Go.Proofs.Tryd.underlying14 (by kernel_rfl) (by kernel_rfl) (by kernel_rfl) (by kernel_rfl) (fun h => by cases h)
theorem ty21 : TyOk Go.Proofs.Tryd.prog 21 ⟨(.int .i32), [], false⟩ := tyInt Go.Proofs.Tryd.underlying21 (by kernel_rfl) (by kernel_rfl)
theorem ty22 : TyOk Go.Proofs.Tryd.prog 22 ⟨(.sl (.cons (.int .i64) (.int .i64))), [], false⟩ := tySl Go.Proofs.Tryd.underlying22 (by kernel_rfl) (by kernel_rfl) (by kernel_rfl) (by kernel_rfl) (by kernel_rfl) (by kernel_rfl) trivial
theorem ty23 : TyOk Go.Proofs.Tryd.prog 23 ⟨(.cons (.int .i64) (.sl (.cons (.int .i64) (.int .i64)))), [([.l], (.int .i64)), ([.r], (.sl (.cons (.int .i64) (.int .i64))))], false⟩ := tyStruct rfl Go.Proofs.Tryd.underlying23 (by kernel_rfl) (by kernel_rfl) (by kernel_rfl) (by kernel_rfl) (fun h => by cases h)
theorem ty24 : TyOk Go.Proofs.Tryd.prog 24 ⟨(.cons (.int .i64) (.sl (.cons (.int .i64) (.int .i64)))), [([.l], (.int .i64)), ([.r], (.sl (.cons (.int .i64) (.int .i64))))], false⟩ := tyStruct rfl Go.Proofs.Tryd.underlying24 (by kernel_rfl) (by kernel_rfl) (by kernel_rfl) (by kernel_rfl) (fun h => by cases h)
theorem ty27 : TyOk Go.Proofs.Tryd.prog 27 ⟨(.sl (.cons (.int .i64) (.int .i64))), [], false⟩ := tySl Go.Proofs.Tryd.underlying27 (by kernel_rfl) (by kernel_rfl) (by kernel_rfl) (by kernel_rfl) (by kernel_rfl) (by kernel_rfl) trivial
theorem ty28 : TyOk Go.Proofs.Tryd.prog 28 ⟨(.cons (.int .i64) (.sl (.cons (.int .i64) (.int .i64)))), [([.l], (.int .i64)), ([.r], (.sl (.cons (.int .i64) (.int .i64))))], false⟩ := tyStruct rfl Go.Proofs.Tryd.underlying28 (by kernel_rfl) (by kernel_rfl) (by kernel_rfl) (by kernel_rfl) (fun h => by cases h)
theorem ty29 : TyOk Go.Proofs.Tryd.prog 29 ⟨(.cons (.int .i64) (.sl (.cons (.int .i64) (.int .i64)))), [([.l], (.int .i64)), ([.r], (.sl (.cons (.int .i64) (.int .i64))))], false⟩ := tyStruct rfl Go.Proofs.Tryd.underlying29 (by kernel_rfl) (by kernel_rfl) (by kernel_rfl) (by kernel_rfl) (fun h => by cases h)
theorem ty37 : TyOk Go.Proofs.Tryd.prog 37 ⟨(.sl (.int .i64)), [], false⟩ := tySl Go.Proofs.Tryd.underlying37 (by kernel_rfl) (by kernel_rfl) (by kernel_rfl) (by kernel_rfl) (by kernel_rfl) (by kernel_rfl) Go.Proofs.Tryd.underlying3
theorem ty42 : TyOk Go.Proofs.Tryd.prog 42 ⟨(.cons (.int .i64) (.int .i64)), [([.l], (.int .i64)), ([.r], (.int .i64))], true⟩ := tyStruct rfl Go.Proofs.Tryd.underlying42 (by kernel_rfl) (by kernel_rfl) (by kernel_rfl) (by kernel_rfl) (fun _ => ⟨by kernel_rfl, by kernel_rfl, by decide, rfl, Go.Proofs.Tryd.underlying3, by decide, rfl, Go.Proofs.Tryd.underlying3⟩)
theorem ty43 : TyOk Go.Proofs.Tryd.prog 43 ⟨(.cons (.int .i64) (.int .i64)), [([.l], (.int .i64)), ([.r], (.int .i64))], true⟩ := tyStruct rfl Go.Proofs.Tryd.underlying43 (by kernel_rfl) (by kernel_rfl) (by kernel_rfl) (by kernel_rfl) (fun _ => ⟨by kernel_rfl, by kernel_rfl, by decide, rfl, Go.Proofs.Tryd.underlying3, by decide, rfl, Go.Proofs.Tryd.underlying3⟩)
theorem ty44 : TyOk Go.Proofs.Tryd.prog 44 ⟨(.sl (.int .u8)), [], false⟩ := tySl Go.Proofs.Tryd.underlying44 (by kernel_rfl) (by kernel_rfl) (by kernel_rfl) (by kernel_rfl) (by kernel_rfl) (by kernel_rfl) Go.Proofs.Tryd.underlying5
theorem ty46 : TyOk Go.Proofs.Tryd.prog 46 ⟨(.sl (.sl (.int .i64))), [], false⟩ := tySl Go.Proofs.Tryd.underlying46 (by kernel_rfl) (by kernel_rfl) (by kernel_rfl) (by kernel_rfl) (by kernel_rfl) (by kernel_rfl) trivial
theorem ty49 : TyOk Go.Proofs.Tryd.prog 49 ⟨(.sl .str), [], false⟩ := tySl Go.Proofs.Tryd.underlying49 (by kernel_rfl) (by kernel_rfl) (by kernel_rfl) (by kernel_rfl) (by kernel_rfl) (by kernel_rfl) trivial
theorem ty52 : TyOk Go.Proofs.Tryd.prog 52 ⟨(.cons (.int .i64) (.int .i64)), [([.l], (.int .i64)), ([.r], (.int .i64))], true⟩ := tyStruct rfl Go.Proofs.Tryd.underlying52 (by kernel_rfl) (by kernel_rfl) (by kernel_rfl) (by kernel_rfl) (fun _ => ⟨by kernel_rfl, by kernel_rfl, by decide, rfl, Go.Proofs.Tryd.underlying3, by decide, rfl, Go.Proofs.Tryd.underlying3⟩)
theorem ty85 : TyOk Go.Proofs.Tryd.prog 85 ⟨(.int .u64), [], false⟩ := tyInt Go.Proofs.Tryd.underlying85 (by kernel_rfl) (by kernel_rfl)
theorem ty95 : TyOk Go.Proofs.Tryd.prog 95 ⟨(.int .u32), [], false⟩ := tyInt Go.Proofs.Tryd.underlying95 (by kernel_rfl) (by kernel_rfl)
theorem ty97 : TyOk Go.Proofs.Tryd.prog 97 ⟨(.int .u64), [], false⟩ := tyInt Go.Proofs.Tryd.underlying97 (by kernel_rfl) (by kernel_rfl)
theorem ty108 : TyOk Go.Proofs.Tryd.prog 108 ⟨(.int .u8), [], false⟩ := tyInt Go.Proofs.Tryd.underlying108 (by kernel_rfl) (by kernel_rfl)
theorem ty109 : TyOk Go.Proofs.Tryd.prog 109 ⟨(.int .u8), [], false⟩ := tyInt Go.Proofs.Tryd.underlying109 (by kernel_rfl) (by kernel_rfl)
theorem ty111 : TyOk Go.Proofs.Tryd.prog 111 ⟨(.int .i32), [], false⟩ := tyInt Go.Proofs.Tryd.underlying111 (by kernel_rfl) (by kernel_rfl)
theorem ty112 : TyOk Go.Proofs.Tryd.prog 112 ⟨(.int .i32), [], false⟩ := tyInt Go.Proofs.Tryd.underlying112 (by kernel_rfl) (by kernel_rfl)
theorem tys_ok : TysOk Go.Proofs.Tryd.prog Γ := tysOk (show Tys Go.Proofs.Tryd.prog 0 tys from ⟨ty2, ty3, ty4, ty5, ty6, ty7, ty8, ty9, ty10, ty11, ty12, ty13, ty14, ty21, ty22, ty23, ty24, ty27, ty28, ty29, ty37, ty42, ty43, ty44, ty46, ty49, ty52, ty85, ty95, ty97, ty108, ty109, ty111, ty112, trivial⟩) (fun T h => by cases h)
theorem fnx0 : Fn1 Go.Proofs.Tryd.prog s0 := fn1 Go.Proofs.Tryd.func9 (by kernel_rfl)
theorem fnx1 : Fn1 Go.Proofs.Tryd.prog s1 := fn1 Go.Proofs.Tryd.func4 (by kernel_rfl)
theorem fnx2 : Fn1 Go.Proofs.Tryd.prog s2 := fn1 Go.Proofs.Tryd.func30 (by kernel_rfl)
theorem fnx3 : Fn1 Go.Proofs.Tryd.prog s3 := fn1 Go.Proofs.Tryd.func16 (by kernel_rfl)
theorem fnx4 : Fn1 Go.Proofs.Tryd.prog s4 := fn1 Go.Proofs.Tryd.func6 (by kernel_rfl)
theorem fnx5 : Fn1 Go.Proofs.Tryd.prog s5 := fn1 Go.Proofs.Tryd.func41 (by kernel_rfl)
theorem fnx6 : Fn1 Go.Proofs.Tryd.prog s6 := fn1 Go.Proofs.Tryd.func24 (by kernel_rfl)
theorem fnx7 : Fn1 Go.Proofs.Tryd.prog s7 := fn1 Go.Proofs.Tryd.func42 (by kernel_rfl)
theorem fnx8 : Fn1 Go.Proofs.Tryd.prog s8 := fn1 Go.Proofs.Tryd.func25 (by kernel_rfl)
theorem fnx9 : Fn1 Go.Proofs.Tryd.prog s9 := fn1 Go.Proofs.Tryd.func10 (by kernel_rfl)
theorem fnx10 : Fn1 Go.Proofs.Tryd.prog s10 := fn1 Go.Proofs.Tryd.func12 (by kernel_rfl)
theorem fnx11 : Fn1 Go.Proofs.Tryd.prog s11 := fn1 Go.Proofs.Tryd.func11 (by kernel_rfl)
theorem fnx12 : Fn1 Go.Proofs.Tryd.prog s12 := fn1 Go.Proofs.Tryd.func71 (by kernel_rfl)
theorem fnx13 : Fn1 Go.Proofs.Tryd.prog s13 := fn1 Go.Proofs.Tryd.func60 (by kernel_rfl)
theorem fnx14 : Fn1 Go.Proofs.Tryd.prog s14 := fn1 Go.Proofs.Tryd.func61 (by kernel_rfl)
theorem fnx15 : Fn1 Go.Proofs.Tryd.prog s15 := fn1 Go.Proofs.Tryd.func46 (by kernel_rfl)
theorem fnx16 : Fn1 Go.Proofs.Tryd.prog s16 := fn1 Go.Proofs.Tryd.func27 (by kernel_rfl)
theorem fnx17 : Fn1 Go.Proofs.Tryd.prog s17 := fn1 Go.Proofs.Tryd.func43 (by kernel_rfl)
theorem fnx18 : Fn1 Go.Proofs.Tryd.prog s18 := fn1 Go.Proofs.Tryd.func45 (by kernel_rfl)
theorem fnx19 : Fn1 Go.Proofs.Tryd.prog s19 := fn1 Go.Proofs.Tryd.func44 (by kernel_rfl)
theorem fnx20 : Fn1 Go.Proofs.Tryd.prog s20 := fn1 Go.Proofs.Tryd.func26 (by kernel_rfl)
theorem fnx21 : Fn1 Go.Proofs.Tryd.prog s21 := fn1 Go.Proofs.Tryd.func13 (by kernel_rfl)
theorem fnx22 : Fn1 Go.Proofs.Tryd.prog s22 := fn1 Go.Proofs.Tryd.func47 (by kernel_rfl)
theorem fnx23 : Fn1 Go.Proofs.Tryd.prog s23 := fn1 Go.Proofs.Tryd.func48 (by kernel_rfl)
theorem fnx24 : Fn1 Go.Proofs.Tryd.prog s24 := fn1 Go.Proofs.Tryd.func28 (by kernel_rfl)
theorem fnx25 : Fn1 Go.Proofs.Tryd.prog s25 := fn1 Go.Proofs.Tryd.func14 (by kernel_rfl)
theorem fnx26 : Fn1 Go.Proofs.Tryd.prog s26 := fn1 Go.Proofs.Tryd.func29 (by kernel_rfl)
theorem fnx27 : Fn1 Go.Proofs.Tryd.prog s27 := fn1 Go.Proofs.Tryd.func15 (by kernel_rfl)
theorem fnx28 : Fn1 Go.Proofs.Tryd.prog s28 := fn1 Go.Proofs.Tryd.func5 (by kernel_rfl)
theorem fnx29 : Fn1 Go.Proofs.Tryd.prog s29 := fn1 Go.Proofs.Tryd.func49 (by kernel_rfl)
theorem fnx30 : Fn1 Go.Proofs.Tryd.prog s30 := fn1 Go.Proofs.Tryd.func31 (by kernel_rfl)
theorem fnx31 : Fn1 Go.Proofs.Tryd.prog s31 := fn1 Go.Proofs.Tryd.func62 (by kernel_rfl)
theorem fnx32 : Fn1 Go.Proofs.Tryd.prog s32 := fn1 Go.Proofs.Tryd.func50 (by kernel_rfl)
theorem fnx33 : Fn1 Go.Proofs.Tryd.prog s33 := fn1 Go.Proofs.Tryd.func33 (by kernel_rfl)
theorem fnx34 : Fn1 Go.Proofs.Tryd.prog s34 := fn1 Go.Proofs.Tryd.func32 (by kernel_rfl)
theorem fnx35 : Fn1 Go.Proofs.Tryd.prog s35 := fn1 Go.Proofs.Tryd.func34 (by kernel_rfl)
theorem fnx36 : Fn1 Go.Proofs.Tryd.prog s36 := fn1 Go.Proofs.Tryd.func17 (by kernel_rfl)
theorem fnx37 : Fn1 Go.Proofs.Tryd.prog s37 := fn1 Go.Proofs.Tryd.func55 (by kernel_rfl)
theorem fnx38 : Fn1 Go.Proofs.Tryd.prog s38 := fn1 Go.Proofs.Tryd.func65 (by kernel_rfl)
theorem fnx39 : Fn1 Go.Proofs.Tryd.prog s39 := fn1 Go.Proofs.Tryd.func66 (by kernel_rfl)
theorem fnx40 : Fn1 Go.Proofs.Tryd.prog s40 := fn1 Go.Proofs.Tryd.func56 (by kernel_rfl)
theorem fnx41 : Fn1 Go.Proofs.Tryd.prog s41 := fn1 Go.Proofs.Tryd.func36 (by kernel_rfl)
theorem fnx42 : Fn1 Go.Proofs.Tryd.prog s42 := fn1 Go.Proofs.Tryd.func63 (by kernel_rfl)
theorem fnx43 : Fn1 Go.Proofs.Tryd.prog s43 := fn1 Go.Proofs.Tryd.func51 (by kernel_rfl)
theorem fnx44 : Fn1 Go.Proofs.Tryd.prog s44 := fn1 Go.Proofs.Tryd.func52 (by kernel_rfl)
theorem fnx45 : Fn1 Go.Proofs.Tryd.prog s45 := fn1 Go.Proofs.Tryd.func54 (by kernel_rfl)
theorem fnx46 : Fn1 Go.Proofs.Tryd.prog s46 := fn1 Go.Proofs.Tryd.func64 (by kernel_rfl)
theorem fnx47 : Fn1 Go.Proofs.Tryd.prog s47 := fn1 Go.Proofs.Tryd.func53 (by kernel_rfl)
theorem fnx48 : Fn1 Go.Proofs.Tryd.prog s48 := fn1 Go.Proofs.Tryd.func35 (by kernel_rfl)
theorem fnx49 : Fn1 Go.Proofs.Tryd.prog s49 := fn1 Go.Proofs.Tryd.func18 (by kernel_rfl)
theorem fnx50 : Fn1 Go.Proofs.Tryd.prog s50 := fn1 Go.Proofs.Tryd.func38 (by kernel_rfl)
theorem fnx51 : Fn1 Go.Proofs.Tryd.prog s51 := fn1 Go.Proofs.Tryd.func20 (by kernel_rfl)
theorem fnx52 : Fn1 Go.Proofs.Tryd.prog s52 := fn1 Go.Proofs.Tryd.func58 (by kernel_rfl)
theorem fnx53 : Fn1 Go.Proofs.Tryd.prog s53 := fn1 Go.Proofs.Tryd.func37 (by kernel_rfl)
theorem fnx54 : Fn1 Go.Proofs.Tryd.prog s54 := fn1 Go.Proofs.Tryd.func19 (by kernel_rfl)
theorem fnx55 : Fn1 Go.Proofs.Tryd.prog s55 := fn1 Go.Proofs.Tryd.func21 (by kernel_rfl)
theorem fnx56 : Fn1 Go.Proofs.Tryd.prog s56 := fn1 Go.Proofs.Tryd.func39 (by kernel_rfl)
theorem fnx57 : Fn1 Go.Proofs.Tryd.prog s57 := fn1 Go.Proofs.Tryd.func22 (by kernel_rfl)
theorem fnx58 : Fn1 Go.Proofs.Tryd.prog s58 := fn1 Go.Proofs.Tryd.func7 (by kernel_rfl)
theorem fnx59 : Fn1 Go.Proofs.Tryd.prog s59 := fn1 Go.Proofs.Tryd.func40 (by kernel_rfl)
theorem fnx60 : Fn1 Go.Proofs.Tryd.prog s60 := fn1 Go.Proofs.Tryd.func23 (by kernel_rfl)
theorem fnx61 : Fn1 Go.Proofs.Tryd.prog s61 := fn1 Go.Proofs.Tryd.func8 (by kernel_rfl)
theorem fnx62 : Fn1 Go.Proofs.Tryd.prog s62 := fn1 Go.Proofs.Tryd.func3 (by kernel_rfl)
theorem fns_ok : FnsOk Go.Proofs.Tryd.prog Γ := fnsOk (show Fns Go.Proofs.Tryd.prog sigs from ⟨fnx0, fnx1, fnx2, fnx3, fnx4, fnx5, fnx6, fnx7, fnx8, fnx9, fnx10, fnx11, fnx12, fnx13, fnx14, fnx15, fnx16, fnx17, fnx18, fnx19, fnx20, fnx21, fnx22, fnx23, fnx24, fnx25, fnx26, fnx27, fnx28, fnx29, fnx30, fnx31, fnx32, fnx33, fnx34, fnx35, fnx36, fnx37, fnx38, fnx39, fnx40, fnx41, fnx42, fnx43, fnx44, fnx45, fnx46, fnx47, fnx48, fnx49, fnx50, fnx51, fnx52, fnx53, fnx54, fnx55, fnx56, fnx57, fnx58, fnx59, fnx60, fnx61, fnx62, trivial⟩)
theorem ext_ok (O : Fun Γ) (hO : Go.Den.Good Go.Proofs.Tryd.prog Γ tau O) (n : Nat) (a : (prodTy (Γ.insL n)).den) (r : (prodTy (Γ.outsL n)).den) (h : X.has n = true) (hr : X.f O n a = some r) : Holds Go.Proofs.Tryd.prog Γ tau n a r := by
  have h1 : (n == 41 || n == 50 || n == 52) = true := h
  simp only [Bool.or_eq_true, beq_iff_eq] at h1
  rcases h1 with (rfl | rfl) | rfl
  · exact redLap_holds hO ty46 hr
  · exact itoa_holds (fun d => d) Go.Proofs.Tryd.laysM171 (σ := s50) rfl rfl rfl rfl (fun w k => tab_known k) rfl rfl hr
  · exact join_holds (fun d => d) Go.Proofs.Tryd.lays156 Go.Proofs.Tryd.Extra156 (σ := s52) rfl rfl rfl rfl rfl rfl hr
theorem good : Go.Den.Good Go.Proofs.Tryd.prog Γ tau (den Γ X) := den_good (X := X) (by kernel_rfl) tys_ok fns_ok ext_ok
end Go.Proofs.YtgncajnfphlgeaaDoor.D

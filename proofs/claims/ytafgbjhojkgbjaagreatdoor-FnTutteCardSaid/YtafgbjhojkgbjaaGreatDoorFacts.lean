/-
  What is asked of this program's types and functions holds: so what the evaluator tells of a function is what a call of it does.
-/
import Derived.Test.YtafgbjhojkgbjaaGreatDoorCtx
import Derived.Test.YtafgbjhojkgbjaaGreatDoorDnC
import Derived.Test.YtafgbjhojkgbjaaGreatDoorChecked
import Derived.Test.YtafgbjhojkgbjaaGreatDoorLaidW
import Derived.Test.YtafgbjhojkgbjaaGreatDoorLaid
import Derived.Test.YtafgbjhojkgbjaaGreatDoorTuh
import Derived.Test.YtafgbjhojkgbjaaGreatDoorDeh
import Derived.Test.YtafgbjhojkgbjaaGreatDoorRed
import Derived.Test.YtafgbjhojkgbjaaGreatDoorCmp
import Derived.KernelRfl
namespace Go.Proofs.YtafgbjhojkgbjaaGreatDoor.D
open Go Go.Den
set_option linter.unusedVariables false
set_option maxRecDepth 100000
theorem ty2 : TyOk Go.Proofs.Tryz.prog 2 ⟨(.int .i64), [], false⟩ := tyInt Go.Proofs.Tryz.underlying2 (by kernel_rfl) (by kernel_rfl)
theorem ty3 : TyOk Go.Proofs.Tryz.prog 3 ⟨(.int .i64), [], false⟩ := tyInt Go.Proofs.Tryz.underlying3 (by kernel_rfl) (by kernel_rfl)
theorem ty4 : TyOk Go.Proofs.Tryz.prog 4 ⟨.bool, [], false⟩ := tyBool Go.Proofs.Tryz.underlying4 (by kernel_rfl) (by kernel_rfl)
theorem ty5 : TyOk Go.Proofs.Tryz.prog 5 ⟨(.int .u8), [], false⟩ := tyInt Go.Proofs.Tryz.underlying5 (by kernel_rfl) (by kernel_rfl)
theorem ty6 : TyOk Go.Proofs.Tryz.prog 6 ⟨(.int .u8), [], false⟩ := tyInt Go.Proofs.Tryz.underlying6 (by kernel_rfl) (by kernel_rfl)
theorem ty7 : TyOk Go.Proofs.Tryz.prog 7 ⟨(.cons (.int .i64) (.cons (.int .i64) (.cons .bool (.int .u8)))), [([.l], (.int .i64)), ([.r, .l], (.int .i64)), ([.r, .r, .l], .bool), ([.r, .r, .r], (.int .u8))], true⟩ := tyStruct rfl Go.Proofs.Tryz.underlying7 (by kernel_rfl) (by kernel_rfl) (by kernel_rfl) (by kernel_rfl) (fun _ => ⟨by kernel_rfl, by kernel_rfl, by decide, rfl, Go.Proofs.Tryz.underlying2, by decide, rfl, Go.Proofs.Tryz.underlying3, by decide, rfl, Go.Proofs.Tryz.underlying4, by decide, rfl, Go.Proofs.Tryz.underlying6⟩)
theorem ty8 : TyOk Go.Proofs.Tryz.prog 8 ⟨(.cons (.int .i64) (.cons (.int .i64) (.cons .bool (.int .u8)))), [([.l], (.int .i64)), ([.r, .l], (.int .i64)), ([.r, .r, .l], .bool), ([.r, .r, .r], (.int .u8))], true⟩ := tyStruct rfl Go.Proofs.Tryz.underlying8 (by kernel_rfl) (by kernel_rfl) (by kernel_rfl) (by kernel_rfl) (fun _ => ⟨by kernel_rfl, by kernel_rfl, by decide, rfl, Go.Proofs.Tryz.underlying2, by decide, rfl, Go.Proofs.Tryz.underlying3, by decide, rfl, Go.Proofs.Tryz.underlying4, by decide, rfl, Go.Proofs.Tryz.underlying6⟩)
theorem ty9 : TyOk Go.Proofs.Tryz.prog 9 ⟨.str, [], false⟩ := tyStr Go.Proofs.Tryz.underlying9 (by kernel_rfl) (by kernel_rfl)
theorem ty10 : TyOk Go.Proofs.Tryz.prog 10 ⟨.str, [], false⟩ := tyStr Go.Proofs.Tryz.underlying10 (by kernel_rfl) (by kernel_rfl)
theorem ty11 : TyOk Go.Proofs.Tryz.prog 11 ⟨.str, [], false⟩ := tyStr Go.Proofs.Tryz.underlying11 (by kernel_rfl) (by kernel_rfl)
theorem ty12 : TyOk Go.Proofs.Tryz.prog 12 ⟨(.int .u64), [], false⟩ := tyInt Go.Proofs.Tryz.underlying12 (by kernel_rfl) (by kernel_rfl)
theorem ty13 : TyOk Go.Proofs.Tryz.prog 13 ⟨(.cons .str (.int .u64)), [([.l], .str), ([.r], (.int .u64))], false⟩ := tyStruct rfl Go.Proofs.Tryz.underlying13 (by kernel_rfl) (by kernel_rfl) (by kernel_rfl) (by kernel_rfl) (fun h => by cases h)
theorem ty14 : TyOk Go.Proofs.Tryz.prog 14 ⟨(.cons .str (.int .u64)), [([.l], .str), ([.r], (.int .u64))], false⟩ := tyStruct rfl Go.Proofs.Tryz.underlying14 (by kernel_rfl) (by kernel_rfl) (by kernel_rfl) (by kernel_rfl) (fun h => by cases h)
theorem ty21 : TyOk Go.Proofs.Tryz.prog 21 ⟨(.int .i32), [], false⟩ := tyInt Go.Proofs.Tryz.underlying21 (by kernel_rfl) (by kernel_rfl)
theorem ty22 : TyOk Go.Proofs.Tryz.prog 22 ⟨(.sl (.int .u8)), [], false⟩ := tySl Go.Proofs.Tryz.underlying22 (by kernel_rfl) (by kernel_rfl) (by kernel_rfl) (by kernel_rfl) (by kernel_rfl) (by kernel_rfl) Go.Proofs.Tryz.underlying5
theorem ty23 : TyOk Go.Proofs.Tryz.prog 23 ⟨(.sl (.cons (.int .i64) (.int .i64))), [], false⟩ := tySl Go.Proofs.Tryz.underlying23 (by kernel_rfl) (by kernel_rfl) (by kernel_rfl) (by kernel_rfl) (by kernel_rfl) (by kernel_rfl) trivial
theorem ty24 : TyOk Go.Proofs.Tryz.prog 24 ⟨(.cons (.int .i64) (.sl (.cons (.int .i64) (.int .i64)))), [([.l], (.int .i64)), ([.r], (.sl (.cons (.int .i64) (.int .i64))))], false⟩ := tyStruct rfl Go.Proofs.Tryz.underlying24 (by kernel_rfl) (by kernel_rfl) (by kernel_rfl) (by kernel_rfl) (fun h => by cases h)
theorem ty25 : TyOk Go.Proofs.Tryz.prog 25 ⟨(.cons (.int .i64) (.sl (.cons (.int .i64) (.int .i64)))), [([.l], (.int .i64)), ([.r], (.sl (.cons (.int .i64) (.int .i64))))], false⟩ := tyStruct rfl Go.Proofs.Tryz.underlying25 (by kernel_rfl) (by kernel_rfl) (by kernel_rfl) (by kernel_rfl) (fun h => by cases h)
theorem ty28 : TyOk Go.Proofs.Tryz.prog 28 ⟨(.sl (.sl (.int .i64))), [], false⟩ := tySl Go.Proofs.Tryz.underlying28 (by kernel_rfl) (by kernel_rfl) (by kernel_rfl) (by kernel_rfl) (by kernel_rfl) (by kernel_rfl) trivial
theorem ty32 : TyOk Go.Proofs.Tryz.prog 32 ⟨(.sl (.int .i64)), [], false⟩ := tySl Go.Proofs.Tryz.underlying32 (by kernel_rfl) (by kernel_rfl) (by kernel_rfl) (by kernel_rfl) (by kernel_rfl) (by kernel_rfl) Go.Proofs.Tryz.underlying3
theorem ty45 : TyOk Go.Proofs.Tryz.prog 45 ⟨A45, [], false⟩ := tyArr rfl Go.Proofs.Tryz.underlying45 (by kernel_rfl) (by kernel_rfl)
theorem ty46 : TyOk Go.Proofs.Tryz.prog 46 ⟨A46, [], false⟩ := tyArr rfl Go.Proofs.Tryz.underlying46 (by kernel_rfl) (by kernel_rfl)
theorem ty50 : TyOk Go.Proofs.Tryz.prog 50 ⟨(.cons (.int .i64) (.int .i64)), [([.l], (.int .i64)), ([.r], (.int .i64))], true⟩ := tyStruct rfl Go.Proofs.Tryz.underlying50 (by kernel_rfl) (by kernel_rfl) (by kernel_rfl) (by kernel_rfl) (fun _ => ⟨by kernel_rfl, by kernel_rfl, by decide, rfl, Go.Proofs.Tryz.underlying3, by decide, rfl, Go.Proofs.Tryz.underlying3⟩)
theorem ty51 : TyOk Go.Proofs.Tryz.prog 51 ⟨(.cons (.int .i64) (.int .i64)), [([.l], (.int .i64)), ([.r], (.int .i64))], true⟩ := tyStruct rfl Go.Proofs.Tryz.underlying51 (by kernel_rfl) (by kernel_rfl) (by kernel_rfl) (by kernel_rfl) (fun _ => ⟨by kernel_rfl, by kernel_rfl, by decide, rfl, Go.Proofs.Tryz.underlying3, by decide, rfl, Go.Proofs.Tryz.underlying3⟩)
theorem ty58 : TyOk Go.Proofs.Tryz.prog 58 ⟨(.sl .str), [], false⟩ := tySl Go.Proofs.Tryz.underlying58 (by kernel_rfl) (by kernel_rfl) (by kernel_rfl) (by kernel_rfl) (by kernel_rfl) (by kernel_rfl) trivial
theorem ty66 : TyOk Go.Proofs.Tryz.prog 66 ⟨(.cons (.sl (.int .u8)) (.cons (.int .i64) (.int .i64))), [([.l], (.sl (.int .u8))), ([.r, .l], (.int .i64)), ([.r, .r], (.int .i64))], false⟩ := tyStruct rfl Go.Proofs.Tryz.underlying66 (by kernel_rfl) (by kernel_rfl) (by kernel_rfl) (by kernel_rfl) (fun h => by cases h)
theorem ty67 : TyOk Go.Proofs.Tryz.prog 67 ⟨(.cons (.sl (.int .u8)) (.cons (.int .i64) (.int .i64))), [([.l], (.sl (.int .u8))), ([.r, .l], (.int .i64)), ([.r, .r], (.int .i64))], false⟩ := tyStruct rfl Go.Proofs.Tryz.underlying67 (by kernel_rfl) (by kernel_rfl) (by kernel_rfl) (by kernel_rfl) (fun h => by cases h)
theorem ty68 : TyOk Go.Proofs.Tryz.prog 68 ⟨(.int .u64), [], false⟩ := tyInt Go.Proofs.Tryz.underlying68 (by kernel_rfl) (by kernel_rfl)
theorem ty100 : TyOk Go.Proofs.Tryz.prog 100 ⟨(.int .i64), [], false⟩ := tyInt Go.Proofs.Tryz.underlying100 (by kernel_rfl) (by kernel_rfl)
theorem ty108 : TyOk Go.Proofs.Tryz.prog 108 ⟨(.int .u32), [], false⟩ := tyInt Go.Proofs.Tryz.underlying108 (by kernel_rfl) (by kernel_rfl)
theorem ty110 : TyOk Go.Proofs.Tryz.prog 110 ⟨(.int .u64), [], false⟩ := tyInt Go.Proofs.Tryz.underlying110 (by kernel_rfl) (by kernel_rfl)
theorem ty119 : TyOk Go.Proofs.Tryz.prog 119 ⟨(.int .u64), [], false⟩ := tyInt Go.Proofs.Tryz.underlying119 (by kernel_rfl) (by kernel_rfl)
theorem ty148 : TyOk Go.Proofs.Tryz.prog 148 ⟨(.int .u8), [], false⟩ := tyInt Go.Proofs.Tryz.underlying148 (by kernel_rfl) (by kernel_rfl)
theorem ty149 : TyOk Go.Proofs.Tryz.prog 149 ⟨(.int .u8), [], false⟩ := tyInt Go.Proofs.Tryz.underlying149 (by kernel_rfl) (by kernel_rfl)
theorem ty151 : TyOk Go.Proofs.Tryz.prog 151 ⟨(.int .i32), [], false⟩ := tyInt Go.Proofs.Tryz.underlying151 (by kernel_rfl) (by kernel_rfl)
theorem ty152 : TyOk Go.Proofs.Tryz.prog 152 ⟨(.int .i32), [], false⟩ := tyInt Go.Proofs.Tryz.underlying152 (by kernel_rfl) (by kernel_rfl)
theorem arrs_ok : ArrOk Go.Proofs.Tryz.prog Γ := fun T fs h => by
  unfold Ctx.arr at h
  obtain ⟨x, hx, rfl⟩ := Option.map_eq_some_iff.1 h
  have h1 := List.mem_of_find?_eq_some hx
  have h2 : x.1 = T := by simpa using List.find?_some hx
  have h3 : x ∈ ([(45, arr45), (46, arr46)] : List (Nat × List (List Step × Ty))) := h1
  simp only [List.mem_cons, List.not_mem_nil, or_false] at h3
  subst h2
  rcases h3 with rfl | rfl
  · exact arrOne (a := []) (rest := []) (t := A45) (by kernel_rfl) Go.Proofs.Tryz.underlying45 (s := 1) (by kernel_rfl) (by kernel_rfl)
  · exact arrOne (a := []) (rest := []) (t := A46) (by kernel_rfl) Go.Proofs.Tryz.underlying46 (s := 16) (by kernel_rfl) (by kernel_rfl)
theorem tys_ok : TysOk Go.Proofs.Tryz.prog Γ := tysOk (show Tys Go.Proofs.Tryz.prog 0 tys from ⟨ty2, ty3, ty4, ty5, ty6, ty7, ty8, ty9, ty10, ty11, ty12, ty13, ty14, ty21, ty22, ty23, ty24, ty25, ty28, ty32, ty45, ty46, ty50, ty51, ty58, ty66, ty67, ty68, ty100, ty108, ty110, ty119, ty148, ty149, ty151, ty152, trivial⟩) (fun T h => by cases h) arrs_ok
theorem fnx0 : Fn1 Go.Proofs.Tryz.prog s0 := fn1 Go.Proofs.Tryz.func14 (by kernel_rfl)
theorem fnx1 : Fn1 Go.Proofs.Tryz.prog s1 := fn1 Go.Proofs.Tryz.func16 (by kernel_rfl)
theorem fnx2 : Fn1 Go.Proofs.Tryz.prog s2 := fn1 Go.Proofs.Tryz.func31 (by kernel_rfl)
theorem fnx3 : Fn1 Go.Proofs.Tryz.prog s3 := fn1 Go.Proofs.Tryz.func48 (by kernel_rfl)
theorem fnx4 : Fn1 Go.Proofs.Tryz.prog s4 := fn1 Go.Proofs.Tryz.func32 (by kernel_rfl)
theorem fnx5 : Fn1 Go.Proofs.Tryz.prog s5 := fn1 Go.Proofs.Tryz.func50 (by kernel_rfl)
theorem fnx6 : Fn1 Go.Proofs.Tryz.prog s6 := fn1 Go.Proofs.Tryz.func62 (by kernel_rfl)
theorem fnx7 : Fn1 Go.Proofs.Tryz.prog s7 := fn1 Go.Proofs.Tryz.func82 (by kernel_rfl)
theorem fnx8 : Fn1 Go.Proofs.Tryz.prog s8 := fn1 Go.Proofs.Tryz.func63 (by kernel_rfl)
theorem fnx9 : Fn1 Go.Proofs.Tryz.prog s9 := fn1 Go.Proofs.Tryz.func49 (by kernel_rfl)
theorem fnx10 : Fn1 Go.Proofs.Tryz.prog s10 := fn1 Go.Proofs.Tryz.func33 (by kernel_rfl)
theorem fnx11 : Fn1 Go.Proofs.Tryz.prog s11 := fn1 Go.Proofs.Tryz.func13 (by kernel_rfl)
theorem fnx12 : Fn1 Go.Proofs.Tryz.prog s12 := fn1 Go.Proofs.Tryz.func4 (by kernel_rfl)
theorem fnx13 : Fn1 Go.Proofs.Tryz.prog s13 := fn1 Go.Proofs.Tryz.func15 (by kernel_rfl)
theorem fnx14 : Fn1 Go.Proofs.Tryz.prog s14 := fn1 Go.Proofs.Tryz.func5 (by kernel_rfl)
theorem fnx15 : Fn1 Go.Proofs.Tryz.prog s15 := fn1 Go.Proofs.Tryz.func36 (by kernel_rfl)
theorem fnx16 : Fn1 Go.Proofs.Tryz.prog s16 := fn1 Go.Proofs.Tryz.func20 (by kernel_rfl)
theorem fnx17 : Fn1 Go.Proofs.Tryz.prog s17 := fn1 Go.Proofs.Tryz.func51 (by kernel_rfl)
theorem fnx18 : Fn1 Go.Proofs.Tryz.prog s18 := fn1 Go.Proofs.Tryz.func37 (by kernel_rfl)
theorem fnx19 : Fn1 Go.Proofs.Tryz.prog s19 := fn1 Go.Proofs.Tryz.func22 (by kernel_rfl)
theorem fnx20 : Fn1 Go.Proofs.Tryz.prog s20 := fn1 Go.Proofs.Tryz.func21 (by kernel_rfl)
theorem fnx21 : Fn1 Go.Proofs.Tryz.prog s21 := fn1 Go.Proofs.Tryz.func23 (by kernel_rfl)
theorem fnx22 : Fn1 Go.Proofs.Tryz.prog s22 := fn1 Go.Proofs.Tryz.func7 (by kernel_rfl)
theorem fnx23 : Fn1 Go.Proofs.Tryz.prog s23 := fn1 Go.Proofs.Tryz.func34 (by kernel_rfl)
theorem fnx24 : Fn1 Go.Proofs.Tryz.prog s24 := fn1 Go.Proofs.Tryz.func35 (by kernel_rfl)
theorem fnx25 : Fn1 Go.Proofs.Tryz.prog s25 := fn1 Go.Proofs.Tryz.func17 (by kernel_rfl)
theorem fnx26 : Fn1 Go.Proofs.Tryz.prog s26 := fn1 Go.Proofs.Tryz.func19 (by kernel_rfl)
theorem fnx27 : Fn1 Go.Proofs.Tryz.prog s27 := fn1 Go.Proofs.Tryz.func18 (by kernel_rfl)
theorem fnx28 : Fn1 Go.Proofs.Tryz.prog s28 := fn1 Go.Proofs.Tryz.func6 (by kernel_rfl)
theorem fnx29 : Fn1 Go.Proofs.Tryz.prog s29 := fn1 Go.Proofs.Tryz.func38 (by kernel_rfl)
theorem fnx30 : Fn1 Go.Proofs.Tryz.prog s30 := fn1 Go.Proofs.Tryz.func67 (by kernel_rfl)
theorem fnx31 : Fn1 Go.Proofs.Tryz.prog s31 := fn1 Go.Proofs.Tryz.func27 (by kernel_rfl)
theorem fnx32 : Fn1 Go.Proofs.Tryz.prog s32 := fn1 Go.Proofs.Tryz.func86 (by kernel_rfl)
theorem fnx33 : Fn1 Go.Proofs.Tryz.prog s33 := fn1 Go.Proofs.Tryz.func65 (by kernel_rfl)
theorem fnx34 : Fn1 Go.Proofs.Tryz.prog s34 := fn1 Go.Proofs.Tryz.func100 (by kernel_rfl)
theorem fnx35 : Fn1 Go.Proofs.Tryz.prog s35 := fn1 Go.Proofs.Tryz.func83 (by kernel_rfl)
theorem fnx36 : Fn1 Go.Proofs.Tryz.prog s36 := fn1 Go.Proofs.Tryz.func85 (by kernel_rfl)
theorem fnx37 : Fn1 Go.Proofs.Tryz.prog s37 := fn1 Go.Proofs.Tryz.func84 (by kernel_rfl)
theorem fnx38 : Fn1 Go.Proofs.Tryz.prog s38 := fn1 Go.Proofs.Tryz.func64 (by kernel_rfl)
theorem fnx39 : Fn1 Go.Proofs.Tryz.prog s39 := fn1 Go.Proofs.Tryz.func52 (by kernel_rfl)
theorem fnx40 : Fn1 Go.Proofs.Tryz.prog s40 := fn1 Go.Proofs.Tryz.func39 (by kernel_rfl)
theorem fnx41 : Fn1 Go.Proofs.Tryz.prog s41 := fn1 Go.Proofs.Tryz.func40 (by kernel_rfl)
theorem fnx42 : Fn1 Go.Proofs.Tryz.prog s42 := fn1 Go.Proofs.Tryz.func88 (by kernel_rfl)
theorem fnx43 : Fn1 Go.Proofs.Tryz.prog s43 := fn1 Go.Proofs.Tryz.func68 (by kernel_rfl)
theorem fnx44 : Fn1 Go.Proofs.Tryz.prog s44 := fn1 Go.Proofs.Tryz.func55 (by kernel_rfl)
theorem fnx45 : Fn1 Go.Proofs.Tryz.prog s45 := fn1 Go.Proofs.Tryz.func54 (by kernel_rfl)
theorem fnx46 : Fn1 Go.Proofs.Tryz.prog s46 := fn1 Go.Proofs.Tryz.func53 (by kernel_rfl)
theorem fnx47 : Fn1 Go.Proofs.Tryz.prog s47 := fn1 Go.Proofs.Tryz.func41 (by kernel_rfl)
theorem fnx48 : Fn1 Go.Proofs.Tryz.prog s48 := fn1 Go.Proofs.Tryz.func43 (by kernel_rfl)
theorem fnx49 : Fn1 Go.Proofs.Tryz.prog s49 := fn1 Go.Proofs.Tryz.func42 (by kernel_rfl)
theorem fnx50 : Fn1 Go.Proofs.Tryz.prog s50 := fn1 Go.Proofs.Tryz.func44 (by kernel_rfl)
theorem fnx51 : Fn1 Go.Proofs.Tryz.prog s51 := fn1 Go.Proofs.Tryz.func24 (by kernel_rfl)
theorem fnx52 : Fn1 Go.Proofs.Tryz.prog s52 := fn1 Go.Proofs.Tryz.func25 (by kernel_rfl)
theorem fnx53 : Fn1 Go.Proofs.Tryz.prog s53 := fn1 Go.Proofs.Tryz.func26 (by kernel_rfl)
theorem fnx54 : Fn1 Go.Proofs.Tryz.prog s54 := fn1 Go.Proofs.Tryz.func8 (by kernel_rfl)
theorem fnx55 : Fn1 Go.Proofs.Tryz.prog s55 := fn1 Go.Proofs.Tryz.func10 (by kernel_rfl)
theorem fnx56 : Fn1 Go.Proofs.Tryz.prog s56 := fn1 Go.Proofs.Tryz.func9 (by kernel_rfl)
theorem fnx57 : Fn1 Go.Proofs.Tryz.prog s57 := fn1 Go.Proofs.Tryz.func11 (by kernel_rfl)
theorem fnx58 : Fn1 Go.Proofs.Tryz.prog s58 := fn1 Go.Proofs.Tryz.func46 (by kernel_rfl)
theorem fnx59 : Fn1 Go.Proofs.Tryz.prog s59 := fn1 Go.Proofs.Tryz.func29 (by kernel_rfl)
theorem fnx60 : Fn1 Go.Proofs.Tryz.prog s60 := fn1 Go.Proofs.Tryz.func28 (by kernel_rfl)
theorem fnx61 : Fn1 Go.Proofs.Tryz.prog s61 := fn1 Go.Proofs.Tryz.func47 (by kernel_rfl)
theorem fnx62 : Fn1 Go.Proofs.Tryz.prog s62 := fn1 Go.Proofs.Tryz.func30 (by kernel_rfl)
theorem fnx63 : Fn1 Go.Proofs.Tryz.prog s63 := fn1 Go.Proofs.Tryz.func12 (by kernel_rfl)
theorem fnx64 : Fn1 Go.Proofs.Tryz.prog s64 := fn1 Go.Proofs.Tryz.func3 (by kernel_rfl)
theorem fns_ok : FnsOk Go.Proofs.Tryz.prog Γ := fnsOk (show Fns Go.Proofs.Tryz.prog sigs from ⟨fnx0, fnx1, fnx2, fnx3, fnx4, fnx5, fnx6, fnx7, fnx8, fnx9, fnx10, fnx11, fnx12, fnx13, fnx14, fnx15, fnx16, fnx17, fnx18, fnx19, fnx20, fnx21, fnx22, fnx23, fnx24, fnx25, fnx26, fnx27, fnx28, fnx29, fnx30, fnx31, fnx32, fnx33, fnx34, fnx35, fnx36, fnx37, fnx38, fnx39, fnx40, fnx41, fnx42, fnx43, fnx44, fnx45, fnx46, fnx47, fnx48, fnx49, fnx50, fnx51, fnx52, fnx53, fnx54, fnx55, fnx56, fnx57, fnx58, fnx59, fnx60, fnx61, fnx62, fnx63, fnx64, trivial⟩)
theorem ext_ok (O : Fun Γ) (hO : Go.Den.Good Go.Proofs.Tryz.prog Γ tau O) (n : Nat) (a : (prodTy (Γ.insL n)).den) (r : (prodTy (Γ.outsL n)).den) (h : X.has n = true) (hr : X.f O n a = some r) : Holds Go.Proofs.Tryz.prog Γ tau n a r := by
  have h1 : (n == 23 || n == 28 || n == 33 || n == 46 || n == 50 || n == 58 || n == 61) = true := h
  simp only [Bool.or_eq_true, beq_iff_eq] at h1
  rcases h1 with (((((rfl | rfl) | rfl) | rfl) | rfl) | rfl) | rfl
  · exact addTm_holds hr
  · exact tutOf_holds hO hr
  · exact redLap_holds hO ty28 hr
  · exact delRows_holds hO hr
  · exact sort_holds Go.Proofs.Tryz.gSlLaysF6 cmpEnters cmpCalls (σ := s50) rfl rfl rfl rfl rfl rfl rfl rfl hr
  · exact itoa_holds (fun d => d) Go.Proofs.Tryz.laysM171 (σ := s58) rfl rfl rfl rfl (fun w k => tab_known k) rfl rfl hr
  · exact join_holds (fun d => d) Go.Proofs.Tryz.lays156 Go.Proofs.Tryz.Extra156 (σ := s61) rfl rfl rfl rfl rfl rfl hr
theorem good : Go.Den.Good Go.Proofs.Tryz.prog Γ tau (den Γ X) := den_good (X := X) (by kernel_rfl) tys_ok fns_ok ext_ok
end Go.Proofs.YtafgbjhojkgbjaaGreatDoor.D

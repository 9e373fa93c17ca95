/-
  What is asked of this program's types and functions holds: so what the evaluator tells of a function is what a call of it does.
-/
import Derived.Test.YtafgbjhojkgbjaaGreatDoorCtx0
import Derived.Test.YtafgbjhojkgbjaaGreatDoorDnC
import Derived.Test.YtafgbjhojkgbjaaGreatDoorChecked
import Derived.KernelRfl
namespace Go.Proofs.YtafgbjhojkgbjaaGreatDoor.D0
open Go Go.Den
set_option linter.unusedVariables false
set_option maxRecDepth 100000
theorem ty2 : TyOk Go.Proofs.Tryz.prog 2 ⟨(.int .i64), [], false⟩ := tyInt Go.Proofs.Tryz.underlying2 (by kernel_rfl) (by kernel_rfl)
theorem ty3 : TyOk Go.Proofs.Tryz.prog 3 ⟨(.int .i64), [], false⟩ := tyInt Go.Proofs.Tryz.underlying3 (by kernel_rfl) (by kernel_rfl)
theorem ty4 : TyOk Go.Proofs.Tryz.prog 4 ⟨.bool, [], false⟩ := tyBool Go.Proofs.Tryz.underlying4 (by kernel_rfl) (by kernel_rfl)
theorem ty5 : TyOk Go.Proofs.Tryz.prog 5 ⟨(.int .u8), [], false⟩ := tyInt Go.Proofs.Tryz.underlying5 (by kernel_rfl) (by kernel_rfl)
theorem ty6 : TyOk Go.Proofs.Tryz.prog 6 ⟨(.int .u8), [], false⟩ := tyInt Go.Proofs.Tryz.underlying6 (by kernel_rfl) (by kernel_rfl)
theorem ty7 : TyOk Go.Proofs.Tryz.prog 7 ⟨(.cons (.int .i64) (.cons (.int .i64) (.cons .bool (.int .u8)))), [([.l], (.int .i64)), ([.r, .l], (.int .i64)), ([.r, .r, .l], .bool), ([.r, .r, .r], (.int .u8))], true⟩ := tyStruct rfl Go.Proofs.Tryz.underlying7 (by kernel_rfl) (by kernel_rfl) (by kernel_rfl) (by kernel_rfl) (fun _ => ⟨by kernel_rfl, by kernel_rfl, by decide, rfl, Go.Proofs.Tryz.underlying2, by decide, rfl, Go.Proofs.Tryz.underlying3, by decide, rfl, Go.Proofs.Tryz.underlying4, by decide, rfl, Go.Proofs.Tryz.underlying6⟩)
theorem ty8 : TyOk Go.Proofs.Tryz.prog 8 ⟨(.cons (.int .i64) (.cons (.int .i64) (.cons .bool (.int .u8)))), [([.l], (.int .i64)), ([.r, .l], (.int .i64)), ([.r, .r, .l], .bool), ([.r, .r, .r], (.int .u8))], true⟩ := tyStruct rfl Go.Proofs.Tryz.underlying8 (by kernel_rfl) (by kernel_rfl) (by kernel_rfl) (by kernel_rfl) (fun _ => ⟨by kernel_rfl, by kernel_rfl, by decide, rfl, Go.Proofs.Tryz.underlying2, by decide, rfl, Go.Proofs.Tryz.underlying3, by decide, rfl, Go.Proofs.Tryz.underlying4, by decide, rfl, Go.Proofs.Tryz.underlying6⟩)
theorem ty9 : TyOk Go.Proofs.Tryz.prog 9 ⟨.str, [], false⟩ := tyStr Go.Proofs.Tryz.underlying9 (by kernel_rfl) (by kernel_rfl)
theorem ty10 : TyOk Go.Proofs.Tryz.prog 10 ⟨.str, [], false⟩ := tyStr Go.Proofs.Tryz.underlying10 (by kernel_rfl) (by kernel_rfl)
theorem ty11 : TyOk Go.Proofs.Tryz.prog 11 ⟨.str, [], false⟩ := tyStr Go.Proofs.Tryz.underlying11 (by kernel_rfl) (by kernel_rfl)
theorem ty12 : TyOk Go.Proofs.Tryz.prog 12 ⟨(.int .u64), [], false⟩ := tyInt Go.Proofs.Tryz.underlying12 (by kernel_rfl) (by kernel_rfl)
theorem ty13 : TyOk Go.Proofs.Tryz.prog 13 ⟨(.cons .str (.int .u64)), [([.l], .str), ([.r], (.int .u64))], false⟩ := tyStruct rfl Go.Proofs.Tryz.underlying13 (by kernel_rfl) (by kernel_rfl) (by kernel_rfl) (by kernel_rfl) (fun h => by cases h)
theorem ty14 : TyOk Go.Proofs.Tryz.prog 14 ⟨(.cons .str (.int .u64)), [([.l], .str), ([.r], (.int .u64))], false⟩ := tyStruct rfl Go.Proofs.Tryz.underlying14 (by kernel_rfl) (by kernel_rfl) (by kernel_rfl) (by kernel_rfl) (fun h => by cases h)
theorem ty21 : TyOk Go.Proofs.Tryz.prog 21 ⟨(.int .i32), [], false⟩ := tyInt Go.Proofs.Tryz.underlying21 (by kernel_rfl) (by kernel_rfl)
theorem ty22 : TyOk Go.Proofs.Tryz.prog 22 ⟨(.sl (.int .u8)), [], false⟩ := tySl Go.Proofs.Tryz.underlying22 (by kernel_rfl) (by kernel_rfl) (by kernel_rfl) (by kernel_rfl) (by kernel_rfl) (by kernel_rfl) Go.Proofs.Tryz.underlying5
theorem ty23 : TyOk Go.Proofs.Tryz.prog 23 ⟨(.sl (.cons (.int .i64) (.int .i64))), [], false⟩ := tySl Go.Proofs.Tryz.underlying23 (by kernel_rfl) (by kernel_rfl) (by kernel_rfl) (by kernel_rfl) (by kernel_rfl) (by kernel_rfl) trivial
theorem ty24 : TyOk Go.Proofs.Tryz.prog 24 ⟨(.cons (.int .i64) (.sl (.cons (.int .i64) (.int .i64)))), [([.l], (.int .i64)), ([.r], (.sl (.cons (.int .i64) (.int .i64))))], false⟩ := tyStruct rfl Go.Proofs.Tryz.underlying24 (by kernel_rfl) (by kernel_rfl) (by kernel_rfl) (by kernel_rfl) (fun h => by cases h)
theorem ty25 : TyOk Go.Proofs.Tryz.prog 25 ⟨(.cons (.int .i64) (.sl (.cons (.int .i64) (.int .i64)))), [([.l], (.int .i64)), ([.r], (.sl (.cons (.int .i64) (.int .i64))))], false⟩ := tyStruct rfl Go.Proofs.Tryz.underlying25 (by kernel_rfl) (by kernel_rfl) (by kernel_rfl) (by kernel_rfl) (fun h => by cases h)
theorem ty28 : TyOk Go.Proofs.Tryz.prog 28 ⟨(.sl (.sl (.int .i64))), [], false⟩ := tySl Go.Proofs.Tryz.underlying28 (by kernel_rfl) (by kernel_rfl) (by kernel_rfl) (by kernel_rfl) (by kernel_rfl) (by kernel_rfl) trivial
theorem ty32 : TyOk Go.Proofs.Tryz.prog 32 ⟨(.sl (.int .i64)), [], false⟩ := tySl Go.Proofs.Tryz.underlying32 (by kernel_rfl) (by kernel_rfl) (by kernel_rfl) (by kernel_rfl) (by kernel_rfl) (by kernel_rfl) Go.Proofs.Tryz.underlying3
theorem ty45 : TyOk Go.Proofs.Tryz.prog 45 ⟨A45, [], false⟩ := tyArr rfl Go.Proofs.Tryz.underlying45 (by kernel_rfl) (by kernel_rfl)
theorem ty46 : TyOk Go.Proofs.Tryz.prog 46 ⟨A46, [], false⟩ := tyArr rfl Go.Proofs.Tryz.underlying46 (by kernel_rfl) (by kernel_rfl)
theorem ty50 : TyOk Go.Proofs.Tryz.prog 50 ⟨(.cons (.int .i64) (.int .i64)), [([.l], (.int .i64)), ([.r], (.int .i64))], true⟩ := tyStruct rfl Go.Proofs.Tryz.underlying50 (by kernel_rfl) (by kernel_rfl) (by kernel_rfl) (by kernel_rfl) (fun _ => ⟨by kernel_rfl, by kernel_rfl, by decide, rfl, Go.Proofs.Tryz.underlying3, by decide, rfl, Go.Proofs.Tryz.underlying3⟩)
theorem ty51 : TyOk Go.Proofs.Tryz.prog 51 ⟨(.cons (.int .i64) (.int .i64)), [([.l], (.int .i64)), ([.r], (.int .i64))], true⟩ := tyStruct rfl Go.Proofs.Tryz.underlying51 (by kernel_rfl) (by kernel_rfl) (by kernel_rfl) (by kernel_rfl) (fun _ => ⟨by kernel_rfl, by kernel_rfl, by decide, rfl, Go.Proofs.Tryz.underlying3, by decide, rfl, Go.Proofs.Tryz.underlying3⟩)
theorem ty58 : TyOk Go.Proofs.Tryz.prog 58 ⟨(.sl .str), [], false⟩ := tySl Go.Proofs.Tryz.underlying58 (by kernel_rfl) (by kernel_rfl) (by kernel_rfl) (by kernel_rfl) (by kernel_rfl) (by kernel_rfl) trivial
theorem ty66 : TyOk Go.Proofs.Tryz.prog 66 ⟨(.cons (.sl (.int .u8)) (.cons (.int .i64) (.int .i64))), [([.l], (.sl (.int .u8))), ([.r, .l], (.int .i64)), ([.r, .r], (.int .i64))], false⟩ := tyStruct rfl Go.Proofs.Tryz.underlying66 (by kernel_rfl) (by kernel_rfl) (by kernel_rfl) (by kernel_rfl) (fun h => by cases h)
theorem ty67 : TyOk Go.Proofs.Tryz.prog 67 ⟨(.cons (.sl (.int .u8)) (.cons (.int .i64) (.int .i64))), [([.l], (.sl (.int .u8))), ([.r, .l], (.int .i64)), ([.r, .r], (.int .i64))], false⟩ := tyStruct rfl Go.Proofs.Tryz.underlying67 (by kernel_rfl) (by kernel_rfl) (by kernel_rfl) (by kernel_rfl) (fun h => by cases h)
theorem ty68 : TyOk Go.Proofs.Tryz.prog 68 ⟨(.int .u64), [], false⟩ := tyInt Go.Proofs.Tryz.underlying68 (by kernel_rfl) (by kernel_rfl)
theorem ty100 : TyOk Go.Proofs.Tryz.prog 100 ⟨(.int .i64), [], false⟩ := tyInt Go.Proofs.Tryz.underlying100 (by kernel_rfl) (by kernel_rfl)
theorem ty108 : TyOk Go.Proofs.Tryz.prog 108 ⟨(.int .u32), [], false⟩ := tyInt Go.Proofs.Tryz.underlying108 (by kernel_rfl) (by kernel_rfl)
theorem ty110 : TyOk Go.Proofs.Tryz.prog 110 ⟨(.int .u64), [], false⟩ := tyInt Go.Proofs.Tryz.underlying110 (by kernel_rfl) (by kernel_rfl)
theorem ty119 : TyOk Go.Proofs.Tryz.prog 119 ⟨(.int .u64), [], false⟩ := tyInt Go.Proofs.Tryz.underlying119 (by kernel_rfl) (by kernel_rfl)
theorem ty148 : TyOk Go.Proofs.Tryz.prog 148 ⟨(.int .u8), [], false⟩ := tyInt Go.Proofs.Tryz.underlying148 (by kernel_rfl) (by kernel_rfl)
theorem ty149 : TyOk Go.Proofs.Tryz.prog 149 ⟨(.int .u8), [], false⟩ := tyInt Go.Proofs.Tryz.underlying149 (by kernel_rfl) (by kernel_rfl)
theorem ty151 : TyOk Go.Proofs.Tryz.prog 151 ⟨(.int .i32), [], false⟩ := tyInt Go.Proofs.Tryz.underlying151 (by kernel_rfl) (by kernel_rfl)
theorem ty152 : TyOk Go.Proofs.Tryz.prog 152 ⟨(.int .i32), [], false⟩ := tyInt Go.Proofs.Tryz.underlying152 (by kernel_rfl) (by kernel_rfl)
theorem arrs_ok : ArrOk Go.Proofs.Tryz.prog Γ := fun T fs h => by
  unfold Ctx.arr at h
  obtain ⟨x, hx, rfl⟩ := Option.map_eq_some_iff.1 h
  have h1 := List.mem_of_find?_eq_some hx
  have h2 : x.1 = T := by simpa using List.find?_some hx
  have h3 : x ∈ ([(45, arr45), (46, arr46)] : List (Nat × List (List Step × Ty))) := h1
  simp only [List.mem_cons, List.not_mem_nil, or_false] at h3
  subst h2
  rcases h3 with rfl | rfl
  · exact arrOne (a := []) (rest := []) (t := A45) (by kernel_rfl) Go.Proofs.Tryz.underlying45 (s := 1) (by kernel_rfl) (by kernel_rfl)
  · exact arrOne (a := []) (rest := []) (t := A46) (by kernel_rfl) Go.Proofs.Tryz.underlying46 (s := 16) (by kernel_rfl) (by kernel_rfl)
theorem tys_ok : TysOk Go.Proofs.Tryz.prog Γ := tysOk (show Tys Go.Proofs.Tryz.prog 0 tys from ⟨ty2, ty3, ty4, ty5, ty6, ty7, ty8, ty9, ty10, ty11, ty12, ty13, ty14, ty21, ty22, ty23, ty24, ty25, ty28, ty32, ty45, ty46, ty50, ty51, ty58, ty66, ty67, ty68, ty100, ty108, ty110, ty119, ty148, ty149, ty151, ty152, trivial⟩) (fun T h => by cases h) arrs_ok
theorem fnx0 : Fn1 Go.Proofs.Tryz.prog s0 := fn1 Go.Proofs.Tryz.func51 (by kernel_rfl)
theorem fnx1 : Fn1 Go.Proofs.Tryz.prog s1 := fn1 Go.Proofs.Tryz.func37 (by kernel_rfl)
theorem fnx2 : Fn1 Go.Proofs.Tryz.prog s2 := fn1 Go.Proofs.Tryz.func45 (by kernel_rfl)
theorem fns_ok : FnsOk Go.Proofs.Tryz.prog Γ := fnsOk (show Fns Go.Proofs.Tryz.prog sigs from ⟨fnx0, fnx1, fnx2, trivial⟩)
theorem good : Go.Den.Good Go.Proofs.Tryz.prog Γ noTold (den Γ X) := den_good (X := X) (by kernel_rfl) tys_ok fns_ok fun _ _ _ _ _ h => by cases (show false = true from h)
end Go.Proofs.YtafgbjhojkgbjaaGreatDoor.D0

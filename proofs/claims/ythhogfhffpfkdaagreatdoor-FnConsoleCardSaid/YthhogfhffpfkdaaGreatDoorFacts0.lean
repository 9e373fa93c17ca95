/-
  What is asked of this program's types and functions holds: so what the evaluator tells of a function is what a call of it does.
-/
import Derived.Test.YthhogfhffpfkdaaGreatDoorCtx0
import Derived.Test.YthhogfhffpfkdaaGreatDoorDnC
import Derived.Test.YthhogfhffpfkdaaGreatDoorChecked
import Derived.KernelRfl
namespace Go.Proofs.YthhogfhffpfkdaaGreatDoor.D0
open Go Go.Den
set_option linter.unusedVariables false
set_option maxRecDepth 100000
theorem ty2 : TyOk Go.Proofs.Tryz.prog 2 ⟨(.int .i64), [], false⟩ := tyInt Go.Proofs.Tryz.underlying2 (by kernel_rfl) (by kernel_rfl)
theorem ty3 : TyOk Go.Proofs.Tryz.prog 3 ⟨(.int .i64), [], false⟩ := tyInt Go.Proofs.Tryz.underlying3 (by kernel_rfl) (by kernel_rfl)
theorem ty4 : TyOk Go.Proofs.Tryz.prog 4 ⟨.bool, [], false⟩ := tyBool Go.Proofs.Tryz.underlying4 (by kernel_rfl) (by kernel_rfl)
theorem ty5 : TyOk Go.Proofs.Tryz.prog 5 ⟨(.int .u8), [], false⟩ := tyInt Go.Proofs.Tryz.underlying5 (by kernel_rfl) (by kernel_rfl)
theorem ty6 : TyOk Go.Proofs.Tryz.prog 6 ⟨(.int .u8), [], false⟩ := tyInt Go.Proofs.Tryz.underlying6 (by kernel_rfl) (by kernel_rfl)
theorem ty7 : TyOk Go.Proofs.Tryz.prog 7 ⟨(.cons (.int .i64) (.cons (.int .i64) (.cons .bool (.int .u8)))), [([.l], (.int .i64)), ([.r, .l], (.int .i64)), ([.r, .r, .l], .bool), ([.r, .r, .r], (.int .u8))], true⟩ := tyStruct rfl Go.Proofs.Tryz.underlying7 (by kernel_rfl) (by kernel_rfl) (by kernel_rfl) (by kernel_rfl) (fun _ => ⟨by kernel_rfl, by kernel_rfl, by decide, rfl, Go.Proofs.Tryz.underlying2, by decide, rfl, Go.Proofs.Tryz.underlying3, by decide, rfl, Go.Proofs.Tryz.underlying4, by decide, rfl, Go.Proofs.Tryz.underlying6⟩)
theorem ty8 : TyOk Go.Proofs.Tryz.prog 8 ⟨(.cons (.int .i64) (.cons (.int .i64) (.cons .bool (.int .u8)))), [([.l], (.int .i64)), ([.r, .l], (.int .i64)), ([.r, .r, .l], .bool), ([.r, .r, .r], (.int .u8))], true⟩ := tyStruct rfl Go.Proofs.Tryz.underlying8 (by kernel_rfl) (by kernel_rfl) (by kernel_rfl) (by kernel_rfl) (fun _ => ⟨by kernel_rfl, by kernel_rfl, by decide, rfl, Go.Proofs.Tryz.underlying2, by decide, rfl, Go.Proofs.Tryz.underlying3, by decide, rfl, Go.Proofs.Tryz.underlying4, by decide, rfl, Go.Proofs.Tryz.underlying6⟩)
theorem ty9 : TyOk Go.Proofs.Tryz.prog 9 ⟨.str, [], false⟩ := tyStr Go.Proofs.Tryz.underlying9 (by kernel_rfl) (by kernel_rfl)
theorem ty10 : TyOk Go.Proofs.Tryz.prog 10 ⟨.str, [], false⟩ := tyStr Go.Proofs.Tryz.underlying10 (by kernel_rfl) (by kernel_rfl)
theorem ty11 : TyOk Go.Proofs.Tryz.prog 11 ⟨.str, [], false⟩ := tyStr Go.Proofs.Tryz.underlying11 (by kernel_rfl) (by kernel_rfl)
theorem ty12 : TyOk Go.Proofs.Tryz.prog 12 ⟨(.int .u64), [], false⟩ := tyInt Go.Proofs.Tryz.underlying12 (by kernel_rfl) (by kernel_rfl)
theorem ty13 : TyOk Go.Proofs.Tryz.prog 13 ⟨(.cons .str (.int .u64)), [([.l], .str), ([.r], (.int .u64))], false⟩ := tyStruct rfl Go.Proofs.Tryz.underlying13 (by kernel_rfl) (by kernel_rfl) (by kernel_rfl) (by kernel_rfl) (fun h => by cases h)
theorem ty14 : TyOk Go.Proofs.Tryz.prog 14 ⟨(.cons .str (.int .u64)), [([.l], .str), ([.r], (.int .u64))], false⟩ := tyStruct rfl Go.Proofs.Tryz.underlying14 (by kernel_rfl) (by kernel_rfl) (by kernel_rfl) (by kernel_rfl) (fun h => by cases h)
theorem ty21 : TyOk Go.Proofs.Tryz.prog 21 ⟨(.int .i32), [], false⟩ := tyInt Go.Proofs.Tryz.underlying21 (by kernel_rfl) (by kernel_rfl)
theorem ty22 : TyOk Go.Proofs.Tryz.prog 22 ⟨(.sl (.int .u8)), [], false⟩ := tySl Go.Proofs.Tryz.underlying22 (by kernel_rfl) (by kernel_rfl) (by kernel_rfl) (by kernel_rfl) (by kernel_rfl) (by kernel_rfl) Go.Proofs.Tryz.underlying5
theorem ty27 : TyOk Go.Proofs.Tryz.prog 27 ⟨(.sl .str), [], false⟩ := tySl Go.Proofs.Tryz.underlying27 (by kernel_rfl) (by kernel_rfl) (by kernel_rfl) (by kernel_rfl) (by kernel_rfl) (by kernel_rfl) trivial
theorem ty31 : TyOk Go.Proofs.Tryz.prog 31 ⟨(.sl (.cons (.int .i64) (.int .i64))), [], false⟩ := tySl Go.Proofs.Tryz.underlying31 (by kernel_rfl) (by kernel_rfl) (by kernel_rfl) (by kernel_rfl) (by kernel_rfl) (by kernel_rfl) trivial
theorem ty32 : TyOk Go.Proofs.Tryz.prog 32 ⟨(.cons (.int .i64) (.sl (.cons (.int .i64) (.int .i64)))), [([.l], (.int .i64)), ([.r], (.sl (.cons (.int .i64) (.int .i64))))], false⟩ := tyStruct rfl Go.Proofs.Tryz.underlying32 (by kernel_rfl) (by kernel_rfl) (by kernel_rfl) (by kernel_rfl) (fun h => by cases h)
theorem ty33 : TyOk Go.Proofs.Tryz.prog 33 ⟨(.cons (.int .i64) (.sl (.cons (.int .i64) (.int .i64)))), [([.l], (.int .i64)), ([.r], (.sl (.cons (.int .i64) (.int .i64))))], false⟩ := tyStruct rfl Go.Proofs.Tryz.underlying33 (by kernel_rfl) (by kernel_rfl) (by kernel_rfl) (by kernel_rfl) (fun h => by cases h)
theorem ty34 : TyOk Go.Proofs.Tryz.prog 34 ⟨(.sl (.int .i64)), [], false⟩ := tySl Go.Proofs.Tryz.underlying34 (by kernel_rfl) (by kernel_rfl) (by kernel_rfl) (by kernel_rfl) (by kernel_rfl) (by kernel_rfl) Go.Proofs.Tryz.underlying3
theorem ty35 : TyOk Go.Proofs.Tryz.prog 35 ⟨(.cons (.cons (.int .i64) (.sl (.cons (.int .i64) (.int .i64)))) (.cons (.sl (.int .i64)) (.int .i64))), [([.l], (.cons (.int .i64) (.sl (.cons (.int .i64) (.int .i64))))), ([.r, .l], (.sl (.int .i64))), ([.r, .r], (.int .i64))], false⟩ := tyStruct rfl Go.Proofs.Tryz.underlying35 (by kernel_rfl) (by kernel_rfl) (by kernel_rfl) (by kernel_rfl) (fun h => by cases h)
theorem ty36 : TyOk Go.Proofs.Tryz.prog 36 ⟨(.cons (.cons (.int .i64) (.sl (.cons (.int .i64) (.int .i64)))) (.cons (.sl (.int .i64)) (.int .i64))), [([.l], (.cons (.int .i64) (.sl (.cons (.int .i64) (.int .i64))))), ([.r, .l], (.sl (.int .i64))), ([.r, .r], (.int .i64))], false⟩ := tyStruct rfl Go.Proofs.Tryz.underlying36 (by kernel_rfl) (by kernel_rfl) (by kernel_rfl) (by kernel_rfl) (fun h => by cases h)
theorem ty42 : TyOk Go.Proofs.Tryz.prog 42 ⟨(.sl (.cons (.int .i64) (.int .i64))), [], false⟩ := tySl Go.Proofs.Tryz.underlying42 (by kernel_rfl) (by kernel_rfl) (by kernel_rfl) (by kernel_rfl) (by kernel_rfl) (by kernel_rfl) trivial
theorem ty43 : TyOk Go.Proofs.Tryz.prog 43 ⟨(.cons (.int .i64) (.sl (.cons (.int .i64) (.int .i64)))), [([.l], (.int .i64)), ([.r], (.sl (.cons (.int .i64) (.int .i64))))], false⟩ := tyStruct rfl Go.Proofs.Tryz.underlying43 (by kernel_rfl) (by kernel_rfl) (by kernel_rfl) (by kernel_rfl) (fun h => by cases h)
theorem ty44 : TyOk Go.Proofs.Tryz.prog 44 ⟨(.cons (.int .i64) (.sl (.cons (.int .i64) (.int .i64)))), [([.l], (.int .i64)), ([.r], (.sl (.cons (.int .i64) (.int .i64))))], false⟩ := tyStruct rfl Go.Proofs.Tryz.underlying44 (by kernel_rfl) (by kernel_rfl) (by kernel_rfl) (by kernel_rfl) (fun h => by cases h)
theorem ty45 : TyOk Go.Proofs.Tryz.prog 45 ⟨(.cons (.cons (.int .i64) (.sl (.cons (.int .i64) (.int .i64)))) (.cons (.sl (.int .i64)) (.int .i64))), [([.l], (.cons (.int .i64) (.sl (.cons (.int .i64) (.int .i64))))), ([.r, .l], (.sl (.int .i64))), ([.r, .r], (.int .i64))], false⟩ := tyStruct rfl Go.Proofs.Tryz.underlying45 (by kernel_rfl) (by kernel_rfl) (by kernel_rfl) (by kernel_rfl) (fun h => by cases h)
theorem ty46 : TyOk Go.Proofs.Tryz.prog 46 ⟨(.cons (.cons (.int .i64) (.sl (.cons (.int .i64) (.int .i64)))) (.cons (.sl (.int .i64)) (.int .i64))), [([.l], (.cons (.int .i64) (.sl (.cons (.int .i64) (.int .i64))))), ([.r, .l], (.sl (.int .i64))), ([.r, .r], (.int .i64))], false⟩ := tyStruct rfl Go.Proofs.Tryz.underlying46 (by kernel_rfl) (by kernel_rfl) (by kernel_rfl) (by kernel_rfl) (fun h => by cases h)
theorem ty71 : TyOk Go.Proofs.Tryz.prog 71 ⟨(.sl (.sl (.int .i64))), [], false⟩ := tySl Go.Proofs.Tryz.underlying71 (by kernel_rfl) (by kernel_rfl) (by kernel_rfl) (by kernel_rfl) (by kernel_rfl) (by kernel_rfl) trivial
theorem ty96 : TyOk Go.Proofs.Tryz.prog 96 ⟨(.cons (.sl (.int .u8)) (.cons (.int .i64) (.int .i64))), [([.l], (.sl (.int .u8))), ([.r, .l], (.int .i64)), ([.r, .r], (.int .i64))], false⟩ := tyStruct rfl Go.Proofs.Tryz.underlying96 (by kernel_rfl) (by kernel_rfl) (by kernel_rfl) (by kernel_rfl) (fun h => by cases h)
theorem ty97 : TyOk Go.Proofs.Tryz.prog 97 ⟨(.cons (.sl (.int .u8)) (.cons (.int .i64) (.int .i64))), [([.l], (.sl (.int .u8))), ([.r, .l], (.int .i64)), ([.r, .r], (.int .i64))], false⟩ := tyStruct rfl Go.Proofs.Tryz.underlying97 (by kernel_rfl) (by kernel_rfl) (by kernel_rfl) (by kernel_rfl) (fun h => by cases h)
theorem ty98 : TyOk Go.Proofs.Tryz.prog 98 ⟨(.int .u64), [], false⟩ := tyInt Go.Proofs.Tryz.underlying98 (by kernel_rfl) (by kernel_rfl)
theorem ty109 : TyOk Go.Proofs.Tryz.prog 109 ⟨(.cons (.int .i64) (.int .i64)), [([.l], (.int .i64)), ([.r], (.int .i64))], true⟩ := tyStruct rfl Go.Proofs.Tryz.underlying109 (by kernel_rfl) (by kernel_rfl) (by kernel_rfl) (by kernel_rfl) (fun _ => ⟨by kernel_rfl, by kernel_rfl, by decide, rfl, Go.Proofs.Tryz.underlying3, by decide, rfl, Go.Proofs.Tryz.underlying3⟩)
theorem ty110 : TyOk Go.Proofs.Tryz.prog 110 ⟨(.cons (.int .i64) (.int .i64)), [([.l], (.int .i64)), ([.r], (.int .i64))], true⟩ := tyStruct rfl Go.Proofs.Tryz.underlying110 (by kernel_rfl) (by kernel_rfl) (by kernel_rfl) (by kernel_rfl) (fun _ => ⟨by kernel_rfl, by kernel_rfl, by decide, rfl, Go.Proofs.Tryz.underlying3, by decide, rfl, Go.Proofs.Tryz.underlying3⟩)
theorem ty139 : TyOk Go.Proofs.Tryz.prog 139 ⟨A139, [], false⟩ := tyArr rfl Go.Proofs.Tryz.underlying139 (by kernel_rfl) (by kernel_rfl)
theorem ty140 : TyOk Go.Proofs.Tryz.prog 140 ⟨A140, [], false⟩ := tyArr rfl Go.Proofs.Tryz.underlying140 (by kernel_rfl) (by kernel_rfl)
theorem ty186 : TyOk Go.Proofs.Tryz.prog 186 ⟨(.cons (.int .i64) (.int .i64)), [([.l], (.int .i64)), ([.r], (.int .i64))], true⟩ := tyStruct rfl Go.Proofs.Tryz.underlying186 (by kernel_rfl) (by kernel_rfl) (by kernel_rfl) (by kernel_rfl) (fun _ => ⟨by kernel_rfl, by kernel_rfl, by decide, rfl, Go.Proofs.Tryz.underlying3, by decide, rfl, Go.Proofs.Tryz.underlying3⟩)
theorem ty189 : TyOk Go.Proofs.Tryz.prog 189 ⟨(.int .u64), [], false⟩ := tyInt Go.Proofs.Tryz.underlying189 (by kernel_rfl) (by kernel_rfl)
theorem ty201 : TyOk Go.Proofs.Tryz.prog 201 ⟨(.int .i64), [], false⟩ := tyInt Go.Proofs.Tryz.underlying201 (by kernel_rfl) (by kernel_rfl)
theorem ty210 : TyOk Go.Proofs.Tryz.prog 210 ⟨(.int .i64), [], false⟩ := tyInt Go.Proofs.Tryz.underlying210 (by kernel_rfl) (by kernel_rfl)
theorem ty217 : TyOk Go.Proofs.Tryz.prog 217 ⟨(.int .u32), [], false⟩ := tyInt Go.Proofs.Tryz.underlying217 (by kernel_rfl) (by kernel_rfl)
theorem ty235 : TyOk Go.Proofs.Tryz.prog 235 ⟨(.int .u64), [], false⟩ := tyInt Go.Proofs.Tryz.underlying235 (by kernel_rfl) (by kernel_rfl)
theorem ty241 : TyOk Go.Proofs.Tryz.prog 241 ⟨(.sl .bool), [], false⟩ := tySl Go.Proofs.Tryz.underlying241 (by kernel_rfl) (by kernel_rfl) (by kernel_rfl) (by kernel_rfl) (by kernel_rfl) (by kernel_rfl) trivial
theorem ty251 : TyOk Go.Proofs.Tryz.prog 251 ⟨(.one .str), [([.l], .str)], false⟩ := tyStruct rfl Go.Proofs.Tryz.underlying251 (by kernel_rfl) (by kernel_rfl) (by kernel_rfl) (by kernel_rfl) (fun h => by cases h)
theorem ty252 : TyOk Go.Proofs.Tryz.prog 252 ⟨(.one .str), [([.l], .str)], false⟩ := tyStruct rfl Go.Proofs.Tryz.underlying252 (by kernel_rfl) (by kernel_rfl) (by kernel_rfl) (by kernel_rfl) (fun h => by cases h)
theorem ty264 : TyOk Go.Proofs.Tryz.prog 264 ⟨(.int .u8), [], false⟩ := tyInt Go.Proofs.Tryz.underlying264 (by kernel_rfl) (by kernel_rfl)
theorem ty265 : TyOk Go.Proofs.Tryz.prog 265 ⟨(.int .u8), [], false⟩ := tyInt Go.Proofs.Tryz.underlying265 (by kernel_rfl) (by kernel_rfl)
theorem ty267 : TyOk Go.Proofs.Tryz.prog 267 ⟨(.int .i32), [], false⟩ := tyInt Go.Proofs.Tryz.underlying267 (by kernel_rfl) (by kernel_rfl)
theorem ty268 : TyOk Go.Proofs.Tryz.prog 268 ⟨(.int .i32), [], false⟩ := tyInt Go.Proofs.Tryz.underlying268 (by kernel_rfl) (by kernel_rfl)
theorem arrs_ok : ArrOk Go.Proofs.Tryz.prog Γ := fun T fs h => by
  unfold Ctx.arr at h
  obtain ⟨x, hx, rfl⟩ := Option.map_eq_some_iff.1 h
  have h1 := List.mem_of_find?_eq_some hx
  have h2 : x.1 = T := by simpa using List.find?_some hx
  have h3 : x ∈ ([(139, arr139), (140, arr140)] : List (Nat × List (List Step × Ty))) := h1
  simp only [List.mem_cons, List.not_mem_nil, or_false] at h3
  subst h2
  rcases h3 with rfl | rfl
  · exact arrOne (a := []) (rest := []) (t := A139) (by kernel_rfl) Go.Proofs.Tryz.underlying139 (s := 1) (by kernel_rfl) (by kernel_rfl)
  · exact arrOne (a := []) (rest := []) (t := A140) (by kernel_rfl) Go.Proofs.Tryz.underlying140 (s := 16) (by kernel_rfl) (by kernel_rfl)
theorem tys_ok : TysOk Go.Proofs.Tryz.prog Γ := tysOk (show Tys Go.Proofs.Tryz.prog 0 tys from ⟨ty2, ty3, ty4, ty5, ty6, ty7, ty8, ty9, ty10, ty11, ty12, ty13, ty14, ty21, ty22, ty27, ty31, ty32, ty33, ty34, ty35, ty36, ty42, ty43, ty44, ty45, ty46, ty71, ty96, ty97, ty98, ty109, ty110, ty139, ty140, ty186, ty189, ty201, ty210, ty217, ty235, ty241, ty251, ty252, ty264, ty265, ty267, ty268, trivial⟩) (fun T h => by obtain rfl := List.mem_singleton.1 h; exact ⟨_, _, Go.Proofs.Tryz.t3, Go.Proofs.Tryz.underlying173, Go.Proofs.Tryz.underlying9, by kernel_rfl, by kernel_rfl⟩) arrs_ok
theorem fnx0 : Fn1 Go.Proofs.Tryz.prog s0 := fn1 Go.Proofs.Tryz.func268 (by kernel_rfl)
theorem fnx1 : Fn1 Go.Proofs.Tryz.prog s1 := fn1 Go.Proofs.Tryz.func189 (by kernel_rfl)
theorem fnx2 : Fn1 Go.Proofs.Tryz.prog s2 := fn1 Go.Proofs.Tryz.func120 (by kernel_rfl)
theorem fns_ok : FnsOk Go.Proofs.Tryz.prog Γ := fnsOk (show Fns Go.Proofs.Tryz.prog sigs from ⟨fnx0, fnx1, fnx2, trivial⟩)
theorem good : Go.Den.Good Go.Proofs.Tryz.prog Γ noTold (den Γ X) := den_good (X := X) (by kernel_rfl) tys_ok fns_ok fun _ _ _ _ _ h => by cases (show false = true from h)
end Go.Proofs.YthhogfhffpfkdaaGreatDoor.D0

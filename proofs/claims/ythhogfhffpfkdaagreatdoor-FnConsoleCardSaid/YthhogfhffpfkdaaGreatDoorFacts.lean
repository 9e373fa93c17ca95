/-
  What is asked of this program's types and functions holds: so what the evaluator tells of a function is what a call of it does.
-/
import Derived.Test.YthhogfhffpfkdaaGreatDoorCtx
import Derived.Test.YthhogfhffpfkdaaGreatDoorDnC
import Derived.Test.YthhogfhffpfkdaaGreatDoorChecked
import Derived.Test.YthhogfhffpfkdaaGreatDoorLaidW
import Derived.Test.YthhogfhffpfkdaaGreatDoorLaid
import Derived.Test.YthhogfhffpfkdaaGreatDoorTrf
import Derived.Test.YthhogfhffpfkdaaGreatDoorTuh
import Derived.Test.YthhogfhffpfkdaaGreatDoorDeh
import Derived.Test.YthhogfhffpfkdaaGreatDoorRed
import Derived.Test.YthhogfhffpfkdaaGreatDoorPi
import Derived.Test.YthhogfhffpfkdaaGreatDoorCmp
import Derived.KernelRfl
namespace Go.Proofs.YthhogfhffpfkdaaGreatDoor.D
open Go Go.Den
set_option linter.unusedVariables false
set_option maxRecDepth 100000
theorem ty2 : TyOk Go.Proofs.Tryz.prog 2 ⟨(.int .i64), [], false⟩ := tyInt Go.Proofs.Tryz.underlying2 (by kernel_rfl) (by kernel_rfl)
theorem ty3 : TyOk Go.Proofs.Tryz.prog 3 ⟨(.int .i64), [], false⟩ := tyInt Go.Proofs.Tryz.underlying3 (by kernel_rfl) (by kernel_rfl)
theorem ty4 : TyOk Go.Proofs.Tryz.prog 4 ⟨.bool, [], false⟩ := tyBool Go.Proofs.Tryz.underlying4 (by kernel_rfl) (by kernel_rfl)
theorem ty5 : TyOk Go.Proofs.Tryz.prog 5 ⟨(.int .u8), [], false⟩ := tyInt Go.Proofs.Tryz.underlying5 (by kernel_rfl) (by kernel_rfl)
theorem ty6 : TyOk Go.Proofs.Tryz.prog 6 ⟨(.int .u8), [], false⟩ := tyInt Go.Proofs.Tryz.underlying6 (by kernel_rfl) (by kernel_rfl)
theorem ty7 : TyOk Go.Proofs.Tryz.prog 7 ⟨(.cons (.int .i64) (.cons (.int .i64) (.cons .bool (.int .u8)))), [([.l], (.int .i64)), ([.r, .l], (.int .i64)), ([.r, .r, .l], .bool), ([.r, .r, .r], (.int .u8))], true⟩ := tyStruct rfl Go.Proofs.Tryz.underlying7 (by kernel_rfl) (by kernel_rfl) (by kernel_rfl) (by kernel_rfl) (fun _ => ⟨by kernel_rfl, by kernel_rfl, by decide, rfl, Go.Proofs.Tryz.underlying2, by decide, rfl, Go.Proofs.Tryz.underlying3, by decide, rfl, Go.Proofs.Tryz.underlying4, by decide, rfl, Go.Proofs.Tryz.underlying6⟩)
theorem ty8 : TyOk Go.Proofs.Tryz.prog 8 ⟨(.cons (.int .i64) (.cons (.int .i64) (.cons .bool (.int .u8)))), [([.l], (.int .i64)), ([.r, .l], (.int .i64)), ([.r, .r, .l], .bool), ([.r, .r, .r], (.int .u8))], true⟩ := tyStruct rfl Go.Proofs.Tryz.underlying8 (by kernel_rfl) (by kernel_rfl) (by kernel_rfl) (by kernel_rfl) (fun _ => ⟨by kernel_rfl, by kernel_rfl, by decide, rfl, Go.Proofs.Tryz.underlying2, by decide, rfl, Go.Proofs.Tryz.underlying3, by decide, rfl, Go.Proofs.Tryz.underlying4, by decide, rfl, Go.Proofs.Tryz.underlying6⟩)
theorem ty9 : TyOk Go.Proofs.Tryz.prog 9 ⟨.str, [], false⟩ := tyStr Go.Proofs.Tryz.underlying9 (by kernel_rfl) (by kernel_rfl)
theorem ty10 : TyOk Go.Proofs.Tryz.prog 10 ⟨.str, [], false⟩ := tyStr Go.Proofs.Tryz.underlying10 (by kernel_rfl) (by kernel_rfl)
theorem ty11 : TyOk Go.Proofs.Tryz.prog 11 ⟨.str, [], false⟩ := tyStr Go.Proofs.Tryz.underlying11 (by kernel_rfl) (by kernel_rfl)
theorem ty12 : TyOk Go.Proofs.Tryz.prog 12 ⟨(.int .u64), [], false⟩ := tyInt Go.Proofs.Tryz.underlying12 (by kernel_rfl) (by kernel_rfl)
theorem ty13 : TyOk Go.Proofs.Tryz.prog 13 ⟨(.cons .str (.int .u64)), [([.l], .str), ([.r], (.int .u64))], false⟩ := tyStruct rfl Go.Proofs.Tryz.underlying13 (by kernel_rfl) (by kernel_rfl) (by kernel_rfl) (by kernel_rfl) (fun h => by cases h)
theorem ty14 : TyOk Go.Proofs.Tryz.prog 14 ⟨(.cons .str (.int .u64)), [([.l], .str), ([.r], (.int .u64))], false⟩ := tyStruct rfl Go.Proofs.Tryz.underlying14 (by kernel_rfl) (by kernel_rfl) (by kernel_rfl) (by kernel_rfl) (fun h => by cases h)
theorem ty21 : TyOk Go.Proofs.Tryz.prog 21 ⟨(.int .i32), [], false⟩ := tyInt Go.Proofs.Tryz.underlying21 (by kernel_rfl) (by kernel_rfl)
theorem ty22 : TyOk Go.Proofs.Tryz.prog 22 ⟨(.sl (.int .u8)), [], false⟩ := tySl Go.Proofs.Tryz.underlying22 (by kernel_rfl) (by kernel_rfl) (by kernel_rfl) (by kernel_rfl) (by kernel_rfl) (by kernel_rfl) Go.Proofs.Tryz.underlying5
theorem ty27 : TyOk Go.Proofs.Tryz.prog 27 ⟨(.sl .str), [], false⟩ := tySl Go.Proofs.Tryz.underlying27 (by kernel_rfl) (by kernel_rfl) (by kernel_rfl) (by kernel_rfl) (by kernel_rfl) (by kernel_rfl) trivial
theorem ty31 : TyOk Go.Proofs.Tryz.prog 31 ⟨(.sl (.cons (.int .i64) (.int .i64))), [], false⟩ := tySl Go.Proofs.Tryz.underlying31 (by kernel_rfl) (by kernel_rfl) (by kernel_rfl) (by kernel_rfl) (by kernel_rfl) (by kernel_rfl) trivial
theorem ty32 : TyOk Go.Proofs.Tryz.prog 32 ⟨(.cons (.int .i64) (.sl (.cons (.int .i64) (.int .i64)))), [([.l], (.int .i64)), ([.r], (.sl (.cons (.int .i64) (.int .i64))))], false⟩ := tyStruct rfl Go.Proofs.Tryz.underlying32 (by kernel_rfl) (by kernel_rfl) (by kernel_rfl) (by kernel_rfl) (fun h => by cases h)
theorem ty33 : TyOk Go.Proofs.Tryz.prog 33 ⟨(.cons (.int .i64) (.sl (.cons (.int .i64) (.int .i64)))), [([.l], (.int .i64)), ([.r], (.sl (.cons (.int .i64) (.int .i64))))], false⟩ := tyStruct rfl Go.Proofs.Tryz.underlying33 (by kernel_rfl) (by kernel_rfl) (by kernel_rfl) (by kernel_rfl) (fun h => by cases h)
theorem ty34 : TyOk Go.Proofs.Tryz.prog 34 ⟨(.sl (.int .i64)), [], false⟩ := tySl Go.Proofs.Tryz.underlying34 (by kernel_rfl) (by kernel_rfl) (by kernel_rfl) (by kernel_rfl) (by kernel_rfl) (by kernel_rfl) Go.Proofs.Tryz.underlying3
theorem ty35 : TyOk Go.Proofs.Tryz.prog 35 ⟨(.cons (.cons (.int .i64) (.sl (.cons (.int .i64) (.int .i64)))) (.cons (.sl (.int .i64)) (.int .i64))), [([.l], (.cons (.int .i64) (.sl (.cons (.int .i64) (.int .i64))))), ([.r, .l], (.sl (.int .i64))), ([.r, .r], (.int .i64))], false⟩ := tyStruct rfl Go.Proofs.Tryz.underlying35 (by kernel_rfl) (by kernel_rfl) (by kernel_rfl) (by kernel_rfl) (fun h => by cases h)
theorem ty36 : TyOk Go.Proofs.Tryz.prog 36 ⟨(.cons (.cons (.int .i64) (.sl (.cons (.int .i64) (.int .i64)))) (.cons (.sl (.int .i64)) (.int .i64))), [([.l], (.cons (.int .i64) (.sl (.cons (.int .i64) (.int .i64))))), ([.r, .l], (.sl (.int .i64))), ([.r, .r], (.int .i64))], false⟩ := tyStruct rfl Go.Proofs.Tryz.underlying36 (by kernel_rfl) (by kernel_rfl) (by kernel_rfl) (by kernel_rfl) (fun h => by cases h)
theorem ty42 : TyOk Go.Proofs.Tryz.prog 42 ⟨(.sl (.cons (.int .i64) (.int .i64))), [], false⟩ := tySl Go.Proofs.Tryz.underlying42 (by kernel_rfl) (by kernel_rfl) (by kernel_rfl) (by kernel_rfl) (by kernel_rfl) (by kernel_rfl) trivial
theorem ty43 : TyOk Go.Proofs.Tryz.prog 43 ⟨(.cons (.int .i64) (.sl (.cons (.int .i64) (.int .i64)))), [([.l], (.int .i64)), ([.r], (.sl (.cons (.int .i64) (.int .i64))))], false⟩ := tyStruct rfl Go.Proofs.Tryz.underlying43 (by kernel_rfl) (by kernel_rfl) (by kernel_rfl) (by kernel_rfl) (fun h => by cases h)
theorem ty44 : TyOk Go.Proofs.Tryz.prog 44 ⟨(.cons (.int .i64) (.sl (.cons (.int .i64) (.int .i64)))), [([.l], (.int .i64)), ([.r], (.sl (.cons (.int .i64) (.int .i64))))], false⟩ := tyStruct rfl Go.Proofs.Tryz.underlying44 (by kernel_rfl) (by kernel_rfl) (by kernel_rfl) (by kernel_rfl) (fun h => by cases h)
theorem ty45 : TyOk Go.Proofs.Tryz.prog 45 ⟨(.cons (.cons (.int .i64) (.sl (.cons (.int .i64) (.int .i64)))) (.cons (.sl (.int .i64)) (.int .i64))), [([.l], (.cons (.int .i64) (.sl (.cons (.int .i64) (.int .i64))))), ([.r, .l], (.sl (.int .i64))), ([.r, .r], (.int .i64))], false⟩ := tyStruct rfl Go.Proofs.Tryz.underlying45 (by kernel_rfl) (by kernel_rfl) (by kernel_rfl) (by kernel_rfl) (fun h => by cases h)
theorem ty46 : TyOk Go.Proofs.Tryz.prog 46 ⟨(.cons (.cons (.int .i64) (.sl (.cons (.int .i64) (.int .i64)))) (.cons (.sl (.int .i64)) (.int .i64))), [([.l], (.cons (.int .i64) (.sl (.cons (.int .i64) (.int .i64))))), ([.r, .l], (.sl (.int .i64))), ([.r, .r], (.int .i64))], false⟩ := tyStruct rfl Go.Proofs.Tryz.underlying46 (by kernel_rfl) (by kernel_rfl) (by kernel_rfl) (by kernel_rfl) (fun h => by cases h)
theorem ty71 : TyOk Go.Proofs.Tryz.prog 71 ⟨(.sl (.sl (.int .i64))), [], false⟩ := tySl Go.Proofs.Tryz.underlying71 (by kernel_rfl) (by kernel_rfl) (by kernel_rfl) (by kernel_rfl) (by kernel_rfl) (by kernel_rfl) trivial
theorem ty96 : TyOk Go.Proofs.Tryz.prog 96 ⟨(.cons (.sl (.int .u8)) (.cons (.int .i64) (.int .i64))), [([.l], (.sl (.int .u8))), ([.r, .l], (.int .i64)), ([.r, .r], (.int .i64))], false⟩ := tyStruct rfl Go.Proofs.Tryz.underlying96 (by kernel_rfl) (by kernel_rfl) (by kernel_rfl) (by kernel_rfl) (fun h => by cases h)
theorem ty97 : TyOk Go.Proofs.Tryz.prog 97 ⟨(.cons (.sl (.int .u8)) (.cons (.int .i64) (.int .i64))), [([.l], (.sl (.int .u8))), ([.r, .l], (.int .i64)), ([.r, .r], (.int .i64))], false⟩ := tyStruct rfl Go.Proofs.Tryz.underlying97 (by kernel_rfl) (by kernel_rfl) (by kernel_rfl) (by kernel_rfl) (fun h => by cases h)
theorem ty98 : TyOk Go.Proofs.Tryz.prog 98 ⟨(.int .u64), [], false⟩ := tyInt Go.Proofs.Tryz.underlying98 (by kernel_rfl) (by kernel_rfl)
theorem ty109 : TyOk Go.Proofs.Tryz.prog 109 ⟨(.cons (.int .i64) (.int .i64)), [([.l], (.int .i64)), ([.r], (.int .i64))], true⟩ := tyStruct rfl Go.Proofs.Tryz.underlying109 (by kernel_rfl) (by kernel_rfl) (by kernel_rfl) (by kernel_rfl) (fun _ => ⟨by kernel_rfl, by kernel_rfl, by decide, rfl, Go.Proofs.Tryz.underlying3, by decide, rfl, Go.Proofs.Tryz.underlying3⟩)
theorem ty110 : TyOk Go.Proofs.Tryz.prog 110 ⟨(.cons (.int .i64) (.int .i64)), [([.l], (.int .i64)), ([.r], (.int .i64))], true⟩ := tyStruct rfl Go.Proofs.Tryz.underlying110 (by kernel_rfl) (by kernel_rfl) (by kernel_rfl) (by kernel_rfl) (fun _ => ⟨by kernel_rfl, by kernel_rfl, by decide, rfl, Go.Proofs.Tryz.underlying3, by decide, rfl, Go.Proofs.Tryz.underlying3⟩)
theorem ty139 : TyOk Go.Proofs.Tryz.prog 139 ⟨A139, [], false⟩ := tyArr rfl Go.Proofs.Tryz.underlying139 (by kernel_rfl) (by kernel_rfl)
theorem ty140 : TyOk Go.Proofs.Tryz.prog 140 ⟨A140, [], false⟩ := tyArr rfl Go.Proofs.Tryz.underlying140 (by kernel_rfl) (by kernel_rfl)
theorem ty186 : TyOk Go.Proofs.Tryz.prog 186 ⟨(.cons (.int .i64) (.int .i64)), [([.l], (.int .i64)), ([.r], (.int .i64))], true⟩ := tyStruct rfl Go.Proofs.Tryz.underlying186 (by kernel_rfl) (by kernel_rfl) (by kernel_rfl) (by kernel_rfl) (fun _ => ⟨by kernel_rfl, by kernel_rfl, by decide, rfl, Go.Proofs.Tryz.underlying3, by decide, rfl, Go.Proofs.Tryz.underlying3⟩)
theorem ty189 : TyOk Go.Proofs.Tryz.prog 189 ⟨(.int .u64), [], false⟩ := tyInt Go.Proofs.Tryz.underlying189 (by kernel_rfl) (by kernel_rfl)
theorem ty201 : TyOk Go.Proofs.Tryz.prog 201 ⟨(.int .i64), [], false⟩ := tyInt Go.Proofs.Tryz.underlying201 (by kernel_rfl) (by kernel_rfl)
theorem ty210 : TyOk Go.Proofs.Tryz.prog 210 ⟨(.int .i64), [], false⟩ := tyInt Go.Proofs.Tryz.underlying210 (by kernel_rfl) (by kernel_rfl)
theorem ty217 : TyOk Go.Proofs.Tryz.prog 217 ⟨(.int .u32), [], false⟩ := tyInt Go.Proofs.Tryz.underlying217 (by kernel_rfl) (by kernel_rfl)
theorem ty235 : TyOk Go.Proofs.Tryz.prog 235 ⟨(.int .u64), [], false⟩ := tyInt Go.Proofs.Tryz.underlying235 (by kernel_rfl) (by kernel_rfl)
theorem ty241 : TyOk Go.Proofs.Tryz.prog 241 ⟨(.sl .bool), [], false⟩ := tySl Go.Proofs.Tryz.underlying241 (by kernel_rfl) (by kernel_rfl) (by kernel_rfl) (by kernel_rfl) (by kernel_rfl) (by kernel_rfl) trivial
theorem ty251 : TyOk Go.Proofs.Tryz.prog 251 ⟨(.one .str), [([.l], .str)], false⟩ := tyStruct rfl Go.Proofs.Tryz.underlying251 (by kernel_rfl) (by kernel_rfl) (by kernel_rfl) (by kernel_rfl) (fun h => by cases h)
theorem ty252 : TyOk Go.Proofs.Tryz.prog 252 ⟨(.one .str), [([.l], .str)], false⟩ := tyStruct rfl Go.Proofs.Tryz.underlying252 (by kernel_rfl) (by kernel_rfl) (by kernel_rfl) (by kernel_rfl) (fun h => by cases h)
theorem ty264 : TyOk Go.Proofs.Tryz.prog 264 ⟨(.int .u8), [], false⟩ := tyInt Go.Proofs.Tryz.underlying264 (by kernel_rfl) (by kernel_rfl)
theorem ty265 : TyOk Go.Proofs.Tryz.prog 265 ⟨(.int .u8), [], false⟩ := tyInt Go.Proofs.Tryz.underlying265 (by kernel_rfl) (by kernel_rfl)
theorem ty267 : TyOk Go.Proofs.Tryz.prog 267 ⟨(.int .i32), [], false⟩ := tyInt Go.Proofs.Tryz.underlying267 (by kernel_rfl) (by kernel_rfl)
theorem ty268 : TyOk Go.Proofs.Tryz.prog 268 ⟨(.int .i32), [], false⟩ := tyInt Go.Proofs.Tryz.underlying268 (by kernel_rfl) (by kernel_rfl)
theorem arrs_ok : ArrOk Go.Proofs.Tryz.prog Γ := fun T fs h => by
  unfold Ctx.arr at h
  obtain ⟨x, hx, rfl⟩ := Option.map_eq_some_iff.1 h
  have h1 := List.mem_of_find?_eq_some hx
  have h2 : x.1 = T := by simpa using List.find?_some hx
  have h3 : x ∈ ([(139, arr139), (140, arr140)] : List (Nat × List (List Step × Ty))) := h1
  simp only [List.mem_cons, List.not_mem_nil, or_false] at h3
  subst h2
  rcases h3 with rfl | rfl
  · exact arrOne (a := []) (rest := []) (t := A139) (by kernel_rfl) Go.Proofs.Tryz.underlying139 (s := 1) (by kernel_rfl) (by kernel_rfl)
  · exact arrOne (a := []) (rest := []) (t := A140) (by kernel_rfl) Go.Proofs.Tryz.underlying140 (s := 16) (by kernel_rfl) (by kernel_rfl)
theorem tys_ok : TysOk Go.Proofs.Tryz.prog Γ := tysOk (show Tys Go.Proofs.Tryz.prog 0 tys from ⟨ty2, ty3, ty4, ty5, ty6, ty7, ty8, ty9, ty10, ty11, ty12, ty13, ty14, ty21, ty22, ty27, ty31, ty32, ty33, ty34, ty35, ty36, ty42, ty43, ty44, ty45, ty46, ty71, ty96, ty97, ty98, ty109, ty110, ty139, ty140, ty186, ty189, ty201, ty210, ty217, ty235, ty241, ty251, ty252, ty264, ty265, ty267, ty268, trivial⟩) (fun T h => by obtain rfl := List.mem_singleton.1 h; exact ⟨_, _, Go.Proofs.Tryz.t3, Go.Proofs.Tryz.underlying173, Go.Proofs.Tryz.underlying9, by kernel_rfl, by kernel_rfl⟩) arrs_ok
theorem fnx0 : Fn1 Go.Proofs.Tryz.prog s0 := fn1 Go.Proofs.Tryz.func27 (by kernel_rfl)
theorem fnx1 : Fn1 Go.Proofs.Tryz.prog s1 := fn1 Go.Proofs.Tryz.func23 (by kernel_rfl)
theorem fnx2 : Fn1 Go.Proofs.Tryz.prog s2 := fn1 Go.Proofs.Tryz.func22 (by kernel_rfl)
theorem fnx3 : Fn1 Go.Proofs.Tryz.prog s3 := fn1 Go.Proofs.Tryz.func7 (by kernel_rfl)
theorem fnx4 : Fn1 Go.Proofs.Tryz.prog s4 := fn1 Go.Proofs.Tryz.func24 (by kernel_rfl)
theorem fnx5 : Fn1 Go.Proofs.Tryz.prog s5 := fn1 Go.Proofs.Tryz.func8 (by kernel_rfl)
theorem fnx6 : Fn1 Go.Proofs.Tryz.prog s6 := fn1 Go.Proofs.Tryz.func77 (by kernel_rfl)
theorem fnx7 : Fn1 Go.Proofs.Tryz.prog s7 := fn1 Go.Proofs.Tryz.func25 (by kernel_rfl)
theorem fnx8 : Fn1 Go.Proofs.Tryz.prog s8 := fn1 Go.Proofs.Tryz.func10 (by kernel_rfl)
theorem fnx9 : Fn1 Go.Proofs.Tryz.prog s9 := fn1 Go.Proofs.Tryz.func12 (by kernel_rfl)
theorem fnx10 : Fn1 Go.Proofs.Tryz.prog s10 := fn1 Go.Proofs.Tryz.func81 (by kernel_rfl)
theorem fnx11 : Fn1 Go.Proofs.Tryz.prog s11 := fn1 Go.Proofs.Tryz.func31 (by kernel_rfl)
theorem fnx12 : Fn1 Go.Proofs.Tryz.prog s12 := fn1 Go.Proofs.Tryz.func28 (by kernel_rfl)
theorem fnx13 : Fn1 Go.Proofs.Tryz.prog s13 := fn1 Go.Proofs.Tryz.func33 (by kernel_rfl)
theorem fnx14 : Fn1 Go.Proofs.Tryz.prog s14 := fn1 Go.Proofs.Tryz.func57 (by kernel_rfl)
theorem fnx15 : Fn1 Go.Proofs.Tryz.prog s15 := fn1 Go.Proofs.Tryz.func14 (by kernel_rfl)
theorem fnx16 : Fn1 Go.Proofs.Tryz.prog s16 := fn1 Go.Proofs.Tryz.func84 (by kernel_rfl)
theorem fnx17 : Fn1 Go.Proofs.Tryz.prog s17 := fn1 Go.Proofs.Tryz.func36 (by kernel_rfl)
theorem fnx18 : Fn1 Go.Proofs.Tryz.prog s18 := fn1 Go.Proofs.Tryz.func85 (by kernel_rfl)
theorem fnx19 : Fn1 Go.Proofs.Tryz.prog s19 := fn1 Go.Proofs.Tryz.func158 (by kernel_rfl)
theorem fnx20 : Fn1 Go.Proofs.Tryz.prog s20 := fn1 Go.Proofs.Tryz.func268 (by kernel_rfl)
theorem fnx21 : Fn1 Go.Proofs.Tryz.prog s21 := fn1 Go.Proofs.Tryz.func189 (by kernel_rfl)
theorem fnx22 : Fn1 Go.Proofs.Tryz.prog s22 := fn1 Go.Proofs.Tryz.func160 (by kernel_rfl)
theorem fnx23 : Fn1 Go.Proofs.Tryz.prog s23 := fn1 Go.Proofs.Tryz.func159 (by kernel_rfl)
theorem fnx24 : Fn1 Go.Proofs.Tryz.prog s24 := fn1 Go.Proofs.Tryz.func161 (by kernel_rfl)
theorem fnx25 : Fn1 Go.Proofs.Tryz.prog s25 := fn1 Go.Proofs.Tryz.func82 (by kernel_rfl)
theorem fnx26 : Fn1 Go.Proofs.Tryz.prog s26 := fn1 Go.Proofs.Tryz.func86 (by kernel_rfl)
theorem fnx27 : Fn1 Go.Proofs.Tryz.prog s27 := fn1 Go.Proofs.Tryz.func34 (by kernel_rfl)
theorem fnx28 : Fn1 Go.Proofs.Tryz.prog s28 := fn1 Go.Proofs.Tryz.func99 (by kernel_rfl)
theorem fnx29 : Fn1 Go.Proofs.Tryz.prog s29 := fn1 Go.Proofs.Tryz.func250 (by kernel_rfl)
theorem fnx30 : Fn1 Go.Proofs.Tryz.prog s30 := fn1 Go.Proofs.Tryz.func173 (by kernel_rfl)
theorem fnx31 : Fn1 Go.Proofs.Tryz.prog s31 := fn1 Go.Proofs.Tryz.func243 (by kernel_rfl)
theorem fnx32 : Fn1 Go.Proofs.Tryz.prog s32 := fn1 Go.Proofs.Tryz.func165 (by kernel_rfl)
theorem fnx33 : Fn1 Go.Proofs.Tryz.prog s33 := fn1 Go.Proofs.Tryz.func83 (by kernel_rfl)
theorem fnx34 : Fn1 Go.Proofs.Tryz.prog s34 := fn1 Go.Proofs.Tryz.func239 (by kernel_rfl)
theorem fnx35 : Fn1 Go.Proofs.Tryz.prog s35 := fn1 Go.Proofs.Tryz.func240 (by kernel_rfl)
theorem fnx36 : Fn1 Go.Proofs.Tryz.prog s36 := fn1 Go.Proofs.Tryz.func242 (by kernel_rfl)
theorem fnx37 : Fn1 Go.Proofs.Tryz.prog s37 := fn1 Go.Proofs.Tryz.func318 (by kernel_rfl)
theorem fnx38 : Fn1 Go.Proofs.Tryz.prog s38 := fn1 Go.Proofs.Tryz.func241 (by kernel_rfl)
theorem fnx39 : Fn1 Go.Proofs.Tryz.prog s39 := fn1 Go.Proofs.Tryz.func164 (by kernel_rfl)
theorem fnx40 : Fn1 Go.Proofs.Tryz.prog s40 := fn1 Go.Proofs.Tryz.func87 (by kernel_rfl)
theorem fnx41 : Fn1 Go.Proofs.Tryz.prog s41 := fn1 Go.Proofs.Tryz.func32 (by kernel_rfl)
theorem fnx42 : Fn1 Go.Proofs.Tryz.prog s42 := fn1 Go.Proofs.Tryz.func88 (by kernel_rfl)
theorem fnx43 : Fn1 Go.Proofs.Tryz.prog s43 := fn1 Go.Proofs.Tryz.func166 (by kernel_rfl)
theorem fnx44 : Fn1 Go.Proofs.Tryz.prog s44 := fn1 Go.Proofs.Tryz.func89 (by kernel_rfl)
theorem fnx45 : Fn1 Go.Proofs.Tryz.prog s45 := fn1 Go.Proofs.Tryz.func35 (by kernel_rfl)
theorem fnx46 : Fn1 Go.Proofs.Tryz.prog s46 := fn1 Go.Proofs.Tryz.func30 (by kernel_rfl)
theorem fnx47 : Fn1 Go.Proofs.Tryz.prog s47 := fn1 Go.Proofs.Tryz.func169 (by kernel_rfl)
theorem fnx48 : Fn1 Go.Proofs.Tryz.prog s48 := fn1 Go.Proofs.Tryz.func91 (by kernel_rfl)
theorem fnx49 : Fn1 Go.Proofs.Tryz.prog s49 := fn1 Go.Proofs.Tryz.func37 (by kernel_rfl)
theorem fnx50 : Fn1 Go.Proofs.Tryz.prog s50 := fn1 Go.Proofs.Tryz.func29 (by kernel_rfl)
theorem fnx51 : Fn1 Go.Proofs.Tryz.prog s51 := fn1 Go.Proofs.Tryz.func170 (by kernel_rfl)
theorem fnx52 : Fn1 Go.Proofs.Tryz.prog s52 := fn1 Go.Proofs.Tryz.func93 (by kernel_rfl)
theorem fnx53 : Fn1 Go.Proofs.Tryz.prog s53 := fn1 Go.Proofs.Tryz.func38 (by kernel_rfl)
theorem fnx54 : Fn1 Go.Proofs.Tryz.prog s54 := fn1 Go.Proofs.Tryz.func94 (by kernel_rfl)
theorem fnx55 : Fn1 Go.Proofs.Tryz.prog s55 := fn1 Go.Proofs.Tryz.func95 (by kernel_rfl)
theorem fnx56 : Fn1 Go.Proofs.Tryz.prog s56 := fn1 Go.Proofs.Tryz.func171 (by kernel_rfl)
theorem fnx57 : Fn1 Go.Proofs.Tryz.prog s57 := fn1 Go.Proofs.Tryz.func96 (by kernel_rfl)
theorem fnx58 : Fn1 Go.Proofs.Tryz.prog s58 := fn1 Go.Proofs.Tryz.func39 (by kernel_rfl)
theorem fnx59 : Fn1 Go.Proofs.Tryz.prog s59 := fn1 Go.Proofs.Tryz.func97 (by kernel_rfl)
theorem fnx60 : Fn1 Go.Proofs.Tryz.prog s60 := fn1 Go.Proofs.Tryz.func98 (by kernel_rfl)
theorem fnx61 : Fn1 Go.Proofs.Tryz.prog s61 := fn1 Go.Proofs.Tryz.func40 (by kernel_rfl)
theorem fnx62 : Fn1 Go.Proofs.Tryz.prog s62 := fn1 Go.Proofs.Tryz.func172 (by kernel_rfl)
theorem fnx63 : Fn1 Go.Proofs.Tryz.prog s63 := fn1 Go.Proofs.Tryz.func174 (by kernel_rfl)
theorem fnx64 : Fn1 Go.Proofs.Tryz.prog s64 := fn1 Go.Proofs.Tryz.func100 (by kernel_rfl)
theorem fnx65 : Fn1 Go.Proofs.Tryz.prog s65 := fn1 Go.Proofs.Tryz.func41 (by kernel_rfl)
theorem fnx66 : Fn1 Go.Proofs.Tryz.prog s66 := fn1 Go.Proofs.Tryz.func175 (by kernel_rfl)
theorem fnx67 : Fn1 Go.Proofs.Tryz.prog s67 := fn1 Go.Proofs.Tryz.func101 (by kernel_rfl)
theorem fnx68 : Fn1 Go.Proofs.Tryz.prog s68 := fn1 Go.Proofs.Tryz.func176 (by kernel_rfl)
theorem fnx69 : Fn1 Go.Proofs.Tryz.prog s69 := fn1 Go.Proofs.Tryz.func102 (by kernel_rfl)
theorem fnx70 : Fn1 Go.Proofs.Tryz.prog s70 := fn1 Go.Proofs.Tryz.func42 (by kernel_rfl)
theorem fnx71 : Fn1 Go.Proofs.Tryz.prog s71 := fn1 Go.Proofs.Tryz.func109 (by kernel_rfl)
theorem fnx72 : Fn1 Go.Proofs.Tryz.prog s72 := fn1 Go.Proofs.Tryz.func179 (by kernel_rfl)
theorem fnx73 : Fn1 Go.Proofs.Tryz.prog s73 := fn1 Go.Proofs.Tryz.func177 (by kernel_rfl)
theorem fnx74 : Fn1 Go.Proofs.Tryz.prog s74 := fn1 Go.Proofs.Tryz.func251 (by kernel_rfl)
theorem fnx75 : Fn1 Go.Proofs.Tryz.prog s75 := fn1 Go.Proofs.Tryz.func178 (by kernel_rfl)
theorem fnx76 : Fn1 Go.Proofs.Tryz.prog s76 := fn1 Go.Proofs.Tryz.func103 (by kernel_rfl)
theorem fnx77 : Fn1 Go.Proofs.Tryz.prog s77 := fn1 Go.Proofs.Tryz.func180 (by kernel_rfl)
theorem fnx78 : Fn1 Go.Proofs.Tryz.prog s78 := fn1 Go.Proofs.Tryz.func104 (by kernel_rfl)
theorem fnx79 : Fn1 Go.Proofs.Tryz.prog s79 := fn1 Go.Proofs.Tryz.func44 (by kernel_rfl)
theorem fnx80 : Fn1 Go.Proofs.Tryz.prog s80 := fn1 Go.Proofs.Tryz.func43 (by kernel_rfl)
theorem fnx81 : Fn1 Go.Proofs.Tryz.prog s81 := fn1 Go.Proofs.Tryz.func108 (by kernel_rfl)
theorem fnx82 : Fn1 Go.Proofs.Tryz.prog s82 := fn1 Go.Proofs.Tryz.func119 (by kernel_rfl)
theorem fnx83 : Fn1 Go.Proofs.Tryz.prog s83 := fn1 Go.Proofs.Tryz.func112 (by kernel_rfl)
theorem fnx84 : Fn1 Go.Proofs.Tryz.prog s84 := fn1 Go.Proofs.Tryz.func192 (by kernel_rfl)
theorem fnx85 : Fn1 Go.Proofs.Tryz.prog s85 := fn1 Go.Proofs.Tryz.func254 (by kernel_rfl)
theorem fnx86 : Fn1 Go.Proofs.Tryz.prog s86 := fn1 Go.Proofs.Tryz.func253 (by kernel_rfl)
theorem fnx87 : Fn1 Go.Proofs.Tryz.prog s87 := fn1 Go.Proofs.Tryz.func257 (by kernel_rfl)
theorem fnx88 : Fn1 Go.Proofs.Tryz.prog s88 := fn1 Go.Proofs.Tryz.func252 (by kernel_rfl)
theorem fnx89 : Fn1 Go.Proofs.Tryz.prog s89 := fn1 Go.Proofs.Tryz.func181 (by kernel_rfl)
theorem fnx90 : Fn1 Go.Proofs.Tryz.prog s90 := fn1 Go.Proofs.Tryz.func105 (by kernel_rfl)
theorem fnx91 : Fn1 Go.Proofs.Tryz.prog s91 := fn1 Go.Proofs.Tryz.func106 (by kernel_rfl)
theorem fnx92 : Fn1 Go.Proofs.Tryz.prog s92 := fn1 Go.Proofs.Tryz.func45 (by kernel_rfl)
theorem fnx93 : Fn1 Go.Proofs.Tryz.prog s93 := fn1 Go.Proofs.Tryz.func255 (by kernel_rfl)
theorem fnx94 : Fn1 Go.Proofs.Tryz.prog s94 := fn1 Go.Proofs.Tryz.func118 (by kernel_rfl)
theorem fnx95 : Fn1 Go.Proofs.Tryz.prog s95 := fn1 Go.Proofs.Tryz.func117 (by kernel_rfl)
theorem fnx96 : Fn1 Go.Proofs.Tryz.prog s96 := fn1 Go.Proofs.Tryz.func182 (by kernel_rfl)
theorem fnx97 : Fn1 Go.Proofs.Tryz.prog s97 := fn1 Go.Proofs.Tryz.func107 (by kernel_rfl)
theorem fnx98 : Fn1 Go.Proofs.Tryz.prog s98 := fn1 Go.Proofs.Tryz.func46 (by kernel_rfl)
theorem fnx99 : Fn1 Go.Proofs.Tryz.prog s99 := fn1 Go.Proofs.Tryz.func183 (by kernel_rfl)
theorem fnx100 : Fn1 Go.Proofs.Tryz.prog s100 := fn1 Go.Proofs.Tryz.func256 (by kernel_rfl)
theorem fnx101 : Fn1 Go.Proofs.Tryz.prog s101 := fn1 Go.Proofs.Tryz.func184 (by kernel_rfl)
theorem fnx102 : Fn1 Go.Proofs.Tryz.prog s102 := fn1 Go.Proofs.Tryz.func110 (by kernel_rfl)
theorem fnx103 : Fn1 Go.Proofs.Tryz.prog s103 := fn1 Go.Proofs.Tryz.func47 (by kernel_rfl)
theorem fnx104 : Fn1 Go.Proofs.Tryz.prog s104 := fn1 Go.Proofs.Tryz.func49 (by kernel_rfl)
theorem fnx105 : Fn1 Go.Proofs.Tryz.prog s105 := fn1 Go.Proofs.Tryz.func111 (by kernel_rfl)
theorem fnx106 : Fn1 Go.Proofs.Tryz.prog s106 := fn1 Go.Proofs.Tryz.func48 (by kernel_rfl)
theorem fnx107 : Fn1 Go.Proofs.Tryz.prog s107 := fn1 Go.Proofs.Tryz.func115 (by kernel_rfl)
theorem fnx108 : Fn1 Go.Proofs.Tryz.prog s108 := fn1 Go.Proofs.Tryz.func113 (by kernel_rfl)
theorem fnx109 : Fn1 Go.Proofs.Tryz.prog s109 := fn1 Go.Proofs.Tryz.func50 (by kernel_rfl)
theorem fnx110 : Fn1 Go.Proofs.Tryz.prog s110 := fn1 Go.Proofs.Tryz.func114 (by kernel_rfl)
theorem fnx111 : Fn1 Go.Proofs.Tryz.prog s111 := fn1 Go.Proofs.Tryz.func186 (by kernel_rfl)
theorem fnx112 : Fn1 Go.Proofs.Tryz.prog s112 := fn1 Go.Proofs.Tryz.func185 (by kernel_rfl)
theorem fnx113 : Fn1 Go.Proofs.Tryz.prog s113 := fn1 Go.Proofs.Tryz.func116 (by kernel_rfl)
theorem fnx114 : Fn1 Go.Proofs.Tryz.prog s114 := fn1 Go.Proofs.Tryz.func51 (by kernel_rfl)
theorem fnx115 : Fn1 Go.Proofs.Tryz.prog s115 := fn1 Go.Proofs.Tryz.func52 (by kernel_rfl)
theorem fnx116 : Fn1 Go.Proofs.Tryz.prog s116 := fn1 Go.Proofs.Tryz.func190 (by kernel_rfl)
theorem fnx117 : Fn1 Go.Proofs.Tryz.prog s117 := fn1 Go.Proofs.Tryz.func191 (by kernel_rfl)
theorem fnx118 : Fn1 Go.Proofs.Tryz.prog s118 := fn1 Go.Proofs.Tryz.func121 (by kernel_rfl)
theorem fnx119 : Fn1 Go.Proofs.Tryz.prog s119 := fn1 Go.Proofs.Tryz.func122 (by kernel_rfl)
theorem fnx120 : Fn1 Go.Proofs.Tryz.prog s120 := fn1 Go.Proofs.Tryz.func53 (by kernel_rfl)
theorem fnx121 : Fn1 Go.Proofs.Tryz.prog s121 := fn1 Go.Proofs.Tryz.func123 (by kernel_rfl)
theorem fnx122 : Fn1 Go.Proofs.Tryz.prog s122 := fn1 Go.Proofs.Tryz.func54 (by kernel_rfl)
theorem fnx123 : Fn1 Go.Proofs.Tryz.prog s123 := fn1 Go.Proofs.Tryz.func194 (by kernel_rfl)
theorem fnx124 : Fn1 Go.Proofs.Tryz.prog s124 := fn1 Go.Proofs.Tryz.func193 (by kernel_rfl)
theorem fnx125 : Fn1 Go.Proofs.Tryz.prog s125 := fn1 Go.Proofs.Tryz.func124 (by kernel_rfl)
theorem fnx126 : Fn1 Go.Proofs.Tryz.prog s126 := fn1 Go.Proofs.Tryz.func55 (by kernel_rfl)
theorem fnx127 : Fn1 Go.Proofs.Tryz.prog s127 := fn1 Go.Proofs.Tryz.func125 (by kernel_rfl)
theorem fnx128 : Fn1 Go.Proofs.Tryz.prog s128 := fn1 Go.Proofs.Tryz.func56 (by kernel_rfl)
theorem fnx129 : Fn1 Go.Proofs.Tryz.prog s129 := fn1 Go.Proofs.Tryz.func13 (by kernel_rfl)
theorem fnx130 : Fn1 Go.Proofs.Tryz.prog s130 := fn1 Go.Proofs.Tryz.func9 (by kernel_rfl)
theorem fnx131 : Fn1 Go.Proofs.Tryz.prog s131 := fn1 Go.Proofs.Tryz.func3 (by kernel_rfl)
theorem fnx132 : Fn1 Go.Proofs.Tryz.prog s132 := fn1 Go.Proofs.Tryz.func79 (by kernel_rfl)
theorem fnx133 : Fn1 Go.Proofs.Tryz.prog s133 := fn1 Go.Proofs.Tryz.func78 (by kernel_rfl)
theorem fnx134 : Fn1 Go.Proofs.Tryz.prog s134 := fn1 Go.Proofs.Tryz.func80 (by kernel_rfl)
theorem fnx135 : Fn1 Go.Proofs.Tryz.prog s135 := fn1 Go.Proofs.Tryz.func26 (by kernel_rfl)
theorem fnx136 : Fn1 Go.Proofs.Tryz.prog s136 := fn1 Go.Proofs.Tryz.func11 (by kernel_rfl)
theorem fnx137 : Fn1 Go.Proofs.Tryz.prog s137 := fn1 Go.Proofs.Tryz.func4 (by kernel_rfl)
theorem fns_ok : FnsOk Go.Proofs.Tryz.prog Γ := fnsOk (show Fns Go.Proofs.Tryz.prog sigs from ⟨fnx0, fnx1, fnx2, fnx3, fnx4, fnx5, fnx6, fnx7, fnx8, fnx9, fnx10, fnx11, fnx12, fnx13, fnx14, fnx15, fnx16, fnx17, fnx18, fnx19, fnx20, fnx21, fnx22, fnx23, fnx24, fnx25, fnx26, fnx27, fnx28, fnx29, fnx30, fnx31, fnx32, fnx33, fnx34, fnx35, fnx36, fnx37, fnx38, fnx39, fnx40, fnx41, fnx42, fnx43, fnx44, fnx45, fnx46, fnx47, fnx48, fnx49, fnx50, fnx51, fnx52, fnx53, fnx54, fnx55, fnx56, fnx57, fnx58, fnx59, fnx60, fnx61, fnx62, fnx63, fnx64, fnx65, fnx66, fnx67, fnx68, fnx69, fnx70, fnx71, fnx72, fnx73, fnx74, fnx75, fnx76, fnx77, fnx78, fnx79, fnx80, fnx81, fnx82, fnx83, fnx84, fnx85, fnx86, fnx87, fnx88, fnx89, fnx90, fnx91, fnx92, fnx93, fnx94, fnx95, fnx96, fnx97, fnx98, fnx99, fnx100, fnx101, fnx102, fnx103, fnx104, fnx105, fnx106, fnx107, fnx108, fnx109, fnx110, fnx111, fnx112, fnx113, fnx114, fnx115, fnx116, fnx117, fnx118, fnx119, fnx120, fnx121, fnx122, fnx123, fnx124, fnx125, fnx126, fnx127, fnx128, fnx129, fnx130, fnx131, fnx132, fnx133, fnx134, fnx135, fnx136, fnx137, trivial⟩)
theorem ext_ok (O : Fun Γ) (hO : Go.Den.Good Go.Proofs.Tryz.prog Γ tau O) (n : Nat) (a : (prodTy (Γ.insL n)).den) (r : (prodTy (Γ.outsL n)).den) (h : X.has n = true) (hr : X.f O n a = some r) : Holds Go.Proofs.Tryz.prog Γ tau n a r := by
  have h1 : (n == 4 || n == 6 || n == 14 || n == 16 || n == 17 || n == 18 || n == 32 || n == 53 || n == 82 || n == 112 || n == 116 || n == 120) = true := h
  simp only [Bool.or_eq_true, beq_iff_eq] at h1
  rcases h1 with ((((((((((rfl | rfl) | rfl) | rfl) | rfl) | rfl) | rfl) | rfl) | rfl) | rfl) | rfl) | rfl
  · exact itoa_holds (fun d => d) Go.Proofs.Tryz.laysM171 (σ := s4) rfl rfl rfl rfl (fun w k => tab_known k) rfl rfl hr
  · exact indexByte_holds (fun d => d) Go.Proofs.Tryz.lays137 (σ := s6) rfl rfl rfl rfl rfl rfl hr
  · exact join_holds (fun d => d) Go.Proofs.Tryz.lays156 Go.Proofs.Tryz.Extra156 (σ := s14) rfl rfl rfl rfl rfl rfl hr
  · exact trimSuffix_holds (fun d => d) Go.Proofs.Tryz.lays102 (σ := s16) rfl rfl rfl rfl rfl rfl hr
  · exact pint_holds (fun d => d) (σ := s17) rfl rfl rfl (fun s w hs hk => parseInt_walk s w hs hk) rfl rfl hr
  · exact cut_holds (fun d => d) Go.Proofs.Tryz.lays145 (σ := s18) rfl rfl rfl rfl (fun w (k : Known w) => k.2.1) rfl rfl hr
  · exact redLap_holds hO ty71 hr
  · exact treesOf_holds hO hr
  · exact sort_holds Go.Proofs.Tryz.gSlLaysF6 cmpEnters cmpCalls (σ := s82) rfl rfl rfl rfl rfl rfl rfl rfl hr
  · exact delRows_holds hO hr
  · exact addTm_holds hr
  · exact tutOf_holds hO hr
theorem good : Go.Den.Good Go.Proofs.Tryz.prog Γ tau (den Γ X) := den_good (X := X) (by kernel_rfl) tys_ok fns_ok ext_ok
end Go.Proofs.YthhogfhffpfkdaaGreatDoor.D

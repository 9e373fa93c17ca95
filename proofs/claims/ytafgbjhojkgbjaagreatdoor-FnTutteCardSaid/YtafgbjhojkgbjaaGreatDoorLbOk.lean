/-
  Functions of Go's library: a call of each does what is told of it (the kit's contracts, carried to the evaluator's form).
-/
import Derived.Test.YtafgbjhojkgbjaaGreatDoorDnC
import Derived.Test.YtafgbjhojkgbjaaGreatDoorLb
import Derived.Shelf.Strconv.Itoa3
import Derived.Shelf.Strings.OnBuilder
namespace Go.Den
open Go
set_option linter.unusedVariables false
set_option linter.unusedSimpArgs false
section
variable {P : Program} {Γ : Ctx} {τ : Told} {n : Nat} {σ : Sig}
/-- new blocks at most -/
def Bel (B : Nat) (w w' : World) : Prop := RowKit.Below B w w'
/-- one result that holds no rows, and new blocks at most -/
theorem Holds.flat {t : Ty} {y : t.den} {a : (prodTy (Γ.insL n)).den} {r : (prodTy (Γ.outsL n)).den} (hσ : Γ.sigs[n]? = some σ) (ht : t.flat = true) (hres : σ.results = [.val t (.sh false)]) (hback : backSV σ.params [] = some []) (hbo : ∀ vs : List Value, backOf σ.params vs = [])
    (hr : unProd (Γ.outsL n) r = [⟨t, y⟩]) (hdr : ¬ τ.dr)
    (h : ∀ (w : World) (I F : Nat → Prop) (L : List Item), insSV σ.params (unProd (Γ.insL n) a) = some (L.map Item.sv) → Items w I F L → TOk τ F w → Calls P σ.fid (L.map Item.v).toArray w fun e w' => e = .returned (toV t y .lf) ∧ Bel w.heap.size w w') (hcl : σ.clos = [] := by rfl) : Holds P Γ τ n a r := by
  intro σ' hσ' w I F L hL hI hK
  rw [hσ] at hσ'
  cases hσ'
  have hpk : packV σ.clos (L.map Item.v) = L.map Item.v := by rw [hcl]; rfl
  rw [hpk]
  refine Calls.mono (h w I F L hL hI hK) fun e w' ⟨he, hb⟩ => ?_
  subst he
  refine ⟨⟨hb.os, hb.tape, hb.output, hb.size, fun d => (hdr d).elim, fun b hb' _ => hb.block b hb'⟩, fun _ => False, [⟨.val .reg t (.sh false) y, toV t y .lf, ⟨none, .lf⟩⟩], [], ?_, ?_, ⟨fun i hi => ?_, fun i hi => ?_, ?_, fun i hi b hb' => ?_, fun b h => h.elim, fun b hb' => hI.new b (Nat.le_trans hb.size hb')⟩, fun b h => h.elim, rfl, (hbo _).symm, fun i hi b hb' => ?_⟩
  · rw [hr, hres]; simp [resSV, cast_self]
  · rw [hr, hres]; exact hback
  · rw [List.append_nil, List.mem_singleton] at hi
    subst hi
    exact ⟨rfl, Mem.flat ht, Sep.flat ht, rfl⟩
  · rw [List.append_nil, List.mem_singleton] at hi
    subst hi
    exact fun _ _ _ _ _ _ _ c => by cases c
  · rw [List.append_nil]; exact List.pairwise_singleton _ _
  · rw [List.append_nil, List.mem_singleton] at hi
    subst hi
    have hb2 : Own t (.sh false) .lf b := hb'
    exact absurd hb2 (Own.flat ht)
  · rw [List.append_nil, List.mem_singleton] at hi
    subst hi
    have hb2 : Own t (.sh false) .lf b := hb'
    exact absurd hb2 (Own.flat ht)
theorem below_grow (w : World) (k : Nat) (os : Array Obj) : Bel w.heap.size w (Sort.grow (w.drewN k) os) := by
  refine ⟨rfl, rfl, rfl, ?_, fun b hb => ?_⟩
  · show w.heap.size ≤ (w.heap ++ os).size
    simp
  · show (w.heap ++ os)[b]? = w.heap[b]?
    rw [Array.getElem?_append_left hb]
theorem itoa_holds (hdr : ¬ τ.dr) {ρ : Go.Shelf.Ren} (L : Go.Proofs.LaysM.n171 P ρ) (hσ : Γ.sigs[n]? = some σ) (hf : σ.fid = ρ.f 171) (hp : σ.params = [.val (.int .i64)]) (hres : σ.results = [.val .str (.sh false)])
    (hτ : ∀ w, τ.K w → Lib.TabIs P w "internal/strconv.uint64pow10" .u64 Lib.pow10Tab) {x : Int} {s : ByteArray} {a : (prodTy (Γ.insL n)).den} {r : (prodTy (Γ.outsL n)).den} (ha : unProd (Γ.insL n) a = [⟨.int .i64, x⟩]) (hr : unProd (Γ.outsL n) r = [⟨.str, s⟩]) (h : Lb.itoa x = some s) (hcl : σ.clos = [] := by rfl) : Holds P Γ τ n a r := by
  unfold Lb.itoa at h
  split at h
  · rename_i hx
    cases h
    refine Holds.flat (hcl := hcl) hσ rfl hres (by rw [hp]; rfl) (fun vs => by rw [hp]; cases vs <;> rfl) hr hdr fun w I F M hM hI hK => ?_
    rw [hp, ha] at hM
    simp only [insSV, cast_self, Option.bind_some, Option.some.injEq] at hM
    match M, hM with
    | [⟨isv, iv, iγ⟩], hM =>
      simp only [List.map_cons, List.map_nil, List.cons.injEq, and_true] at hM
      subst hM
      have hv : iv = .int .i64 x := (hI.ok ⟨_, iv, iγ⟩ List.mem_cons_self).1
      have hc := Go.Proofs.Any.strconv_Itoa L x hx.1 hx.2 w (hτ w hK.k)
      rw [hf]
      refine Calls.mono (show Calls P (ρ.f 171) #[iv] w _ from hv ▸ hc) fun e w' ⟨he, k, os, hw⟩ => ⟨he, ?_⟩
      subst hw
      exact below_grow w k os
    | [], hM => cases hM
    | _ :: _ :: _, hM => simp at hM
  · cases h
theorem join_holds (hdr : ¬ τ.dr) {ρ : Go.Shelf.Ren} (L : Go.Proofs.Lays.n156 P ρ) (E : Go.Proofs.Builder.Extra P ρ) (hσ : Γ.sigs[n]? = some σ) (hf : σ.fid = ρ.f 156) (hp : σ.params = [.val (.sl .str), .val .str]) (hres : σ.results = [.val .str (.sh false)])
    {x : List ByteArray} {sep s : ByteArray} {a : (prodTy (Γ.insL n)).den} {r : (prodTy (Γ.outsL n)).den} (ha : unProd (Γ.insL n) a = [⟨.sl .str, x⟩, ⟨.str, sep⟩]) (hr : unProd (Γ.outsL n) r = [⟨.str, s⟩]) (h : Lb.join x sep = some s) (hcl : σ.clos = [] := by rfl) : Holds P Γ τ n a r := by
  unfold Lb.join at h
  split at h
  · rename_i hx
    cases h
    refine Holds.flat (hcl := hcl) hσ rfl hres (by rw [hp]; rfl) (fun vs => by rw [hp]; match vs with | [] => rfl | [_] => rfl | [_, _] => rfl | _ :: _ :: _ :: _ => rfl) hr hdr fun w I F M hM hI hK => ?_
    rw [hp, ha] at hM
    simp only [insSV, cast_self, Option.bind_some, Option.some.injEq] at hM
    match M, hM with
    | [⟨isv, iv, iγ⟩, ⟨jsv, jv, jγ⟩], hM =>
      simp only [List.map_cons, List.map_nil, List.cons.injEq, and_true] at hM
      obtain ⟨h1, h2⟩ := hM
      subst h1 h2
      obtain ⟨q1, q2, q3, q4⟩ := hI.ok ⟨_, iv, iγ⟩ List.mem_cons_self
      have hv2 : jv = .string sep := (hI.ok _ (List.mem_cons_of_mem _ List.mem_cons_self)).1
      have hv1 : iv = .slice iγ.g.addr iγ.g.len iγ.g.cap := q1
      have m1 : iγ.g.len = x.length := q2.1
      have m5 : ∀ (d : Addr), iγ.g.addr = some d → 0 < iγ.g.len → I d.block := fun d hd hc => ((q2.2).1.2.1 d hd hc).1
      have m6 : ∀ j, j < iγ.g.len → _ := (q2.2).2
      obtain ⟨⟨m2, m3⟩, m4⟩ := q2.2
      have m2' : iγ.g.len ≤ iγ.g.cap := m2
      rw [hf, hv1, hv2] 
      show Calls P (ρ.f 156) #[.slice iγ.g.addr iγ.g.len iγ.g.cap, .string sep] w _
      rw [m1]
      by_cases hne : x.length = 0
      · have hx0 : x = [] := List.eq_nil_of_length_eq_zero hne
        subst hx0
        refine Calls.mono (Go.Proofs.Any.strings_Join_none L E iγ.g.addr iγ.g.cap sep w) fun e w' ⟨he, hw⟩ => ⟨he, ?_⟩
        subst hw
        exact RowKit.Below.refl _ _
      · have h0 := (m4 0 (by rw [m1]; omega)).1
        obtain ⟨d, hd, hc⟩ := h0 0 _ rfl
        have hIb := m5 d hd (by omega)
        obtain ⟨bk, o, spot⟩ := d
        have hspot : spot = none := by
          have := World.cell?_spot hc
          have h2 : ((⟨bk, o, spot⟩ : Addr).add (0 * Ty.str.size + 0)) = ⟨bk, o, spot⟩ := by rw [Nat.zero_mul]; exact Addr.add_zero' _
          rw [h2] at this
          exact this
        subst hspot
        rw [hd]
        refine Calls.mono (Go.Proofs.Any.strings_Join L E bk o iγ.g.cap x sep w (fun j y hj => ?_) (hI.imm bk hIb) (by omega) (by rw [← m1]; exact m2') hx.2) fun e w' ⟨he, hb⟩ => ⟨he, hb⟩
        have hjl : j < x.length := (List.getElem?_eq_some_iff.1 hj).1
        obtain ⟨d', hd', hc'⟩ := (m6 j (by omega)).1 0 _ rfl
        rw [hd] at hd'
        cases hd'
        have e1 : List.getD x j Ty.str.dflt = y := by rw [List.getD_eq_getElem?_getD, hj]; rfl
        rw [e1] at hc'
        rw [Addr.add_mk] at hc'
        have e2 : o + (j * Ty.str.size + 0) = o + j := by
          have : Ty.str.size = 1 := rfl
          rw [this]; omega
        rw [e2] at hc'
        exact hc'
    | [], hM => cases hM
    | [_], hM => simp at hM
    | _ :: _ :: _ :: _, hM => simp at hM
  · cases h
end
end Go.Den

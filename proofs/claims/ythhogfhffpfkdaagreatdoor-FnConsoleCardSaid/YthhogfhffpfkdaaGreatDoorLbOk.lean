/-
  Functions of Go's library: a call of each does what is told of it (the kit's contracts, carried to the evaluator's form).
-/
import Derived.Test.YthhogfhffpfkdaaGreatDoorDnC
import Derived.Test.YthhogfhffpfkdaaGreatDoorLb
import Derived.Shelf.Strconv.Itoa3
import Derived.Shelf.Strings.OnBuilder
import Derived.Shelf.Small.Strs
import Derived.Shelf.Strings.Cut
import Derived.Shelf.Strings.Prefix
namespace Go.Den
open Go
set_option linter.unusedVariables false
set_option linter.unusedSimpArgs false
section
variable {P : Program} {Γ : Ctx} {τ : Told} {n : Nat} {σ : Sig}
/-- new blocks at most -/
def Bel (B : Nat) (w w' : World) : Prop := RowKit.Below B w w'
/-- one result that holds no rows, and new blocks at most -/
theorem Holds.flat {t : Ty} {y : t.den} {a : (prodTy (Γ.insL n)).den} {r : (prodTy (Γ.outsL n)).den} (hσ : Γ.sigs[n]? = some σ) (ht : t.flat = true) (hres : σ.results = [.val t (.sh false)]) (hback : backSV σ.params [] = some []) (hbo : ∀ vs : List Value, backOf σ.params vs = [])
    (hr : unProd (Γ.outsL n) r = [⟨t, y⟩]) (hdr : ¬ τ.dr)
    (h : ∀ (w : World) (I F : Nat → Prop) (L : List Item), insSV σ.params (unProd (Γ.insL n) a) = some (L.map Item.sv) → Items w I F L → TOk τ F w → Calls P σ.fid (L.map Item.v).toArray w fun e w' => e = .returned (toV t y .lf) ∧ Bel w.heap.size w w') (hcl : σ.clos = [] := by rfl) : Holds P Γ τ n a r := by
  intro σ' hσ' w I F L hL hI hK
  rw [hσ] at hσ'
  cases hσ'
  have hpk : packV σ.clos (L.map Item.v) = L.map Item.v := by rw [hcl]; rfl
  rw [hpk]
  refine Calls.mono (h w I F L hL hI hK) fun e w' ⟨he, hb⟩ => ?_
  subst he
  refine ⟨⟨hb.os, hb.tape, hb.output, hb.size, fun d => (hdr d).elim, fun b hb' _ => hb.block b hb'⟩, fun _ => False, [⟨.val .reg t (.sh false) y, toV t y .lf, ⟨none, .lf⟩⟩], [], ?_, ?_, ⟨fun i hi => ?_, fun i hi => ?_, ?_, fun i hi b hb' => ?_, fun b h => h.elim, fun b hb' => hI.new b (Nat.le_trans hb.size hb')⟩, fun b h => h.elim, rfl, (hbo _).symm, fun i hi b hb' => ?_⟩
  · rw [hr, hres]; simp [resSV, cast_self]
  · rw [hr, hres]; exact hback
  · rw [List.append_nil, List.mem_singleton] at hi
    subst hi
    exact ⟨rfl, Mem.flat ht, Sep.flat ht, rfl⟩
  · rw [List.append_nil, List.mem_singleton] at hi
    subst hi
    exact fun _ _ _ _ _ _ _ c => by cases c
  · rw [List.append_nil]; exact List.pairwise_singleton _ _
  · rw [List.append_nil, List.mem_singleton] at hi
    subst hi
    have hb2 : Own t (.sh false) .lf b := hb'
    exact absurd hb2 (Own.flat ht)
  · rw [List.append_nil, List.mem_singleton] at hi
    subst hi
    have hb2 : Own t (.sh false) .lf b := hb'
    exact absurd hb2 (Own.flat ht)
theorem resSV_flat : ∀ (ds : List ((t : Ty) × t.den)), resSV (ds.map fun d => .val d.1 (.sh false)) ds = some (ds.map fun d => .val .reg d.1 (.sh false) d.2)
  | [] => rfl
  | d :: ds => by
    simp only [List.map_cons, resSV, cast_self, Option.bind_some, resSV_flat ds]
/-- results that hold no rows, and new blocks at most -/
theorem Holds.flats {ds : List ((t : Ty) × t.den)} {a : (prodTy (Γ.insL n)).den} {r : (prodTy (Γ.outsL n)).den} (hσ : Γ.sigs[n]? = some σ) (ht : ∀ d ∈ ds, d.1.flat = true) (hres : σ.results = ds.map fun d => .val d.1 (.sh false)) (hback : backSV σ.params [] = some []) (hbo : ∀ vs : List Value, backOf σ.params vs = [])
    (hr : unProd (Γ.outsL n) r = ds) (hdr : ¬ τ.dr)
    (h : ∀ (w : World) (I F : Nat → Prop) (L : List Item), insSV σ.params (unProd (Γ.insL n) a) = some (L.map Item.sv) → Items w I F L → TOk τ F w → Calls P σ.fid (L.map Item.v).toArray w fun e w' => e = .returned (retV (ds.map fun d => toV d.1 d.2 .lf)) ∧ Bel w.heap.size w w') (hcl : σ.clos = [] := by rfl) : Holds P Γ τ n a r := by
  intro σ' hσ' w I F L hL hI hK
  rw [hσ] at hσ'
  cases hσ'
  have hpk : packV σ.clos (L.map Item.v) = L.map Item.v := by rw [hcl]; rfl
  rw [hpk]
  refine Calls.mono (h w I F L hL hI hK) fun e w' ⟨he, hb⟩ => ?_
  subst he
  have hl : σ.results.length = ds.length := by rw [hres, List.length_map]
  have it : ∀ i ∈ (ds.map fun d => (⟨.val .reg d.1 (.sh false) d.2, toV d.1 d.2 .lf, ⟨none, .lf⟩⟩ : Item)), ∃ d, d ∈ ds ∧ i = ⟨.val .reg d.1 (.sh false) d.2, toV d.1 d.2 .lf, ⟨none, .lf⟩⟩ := fun i hi => by
    obtain ⟨d, hd, rfl⟩ := List.mem_map.1 hi
    exact ⟨d, hd, rfl⟩
  have no : ∀ i ∈ (ds.map fun d => (⟨.val .reg d.1 (.sh false) d.2, toV d.1 d.2 .lf, ⟨none, .lf⟩⟩ : Item)), ∀ b, ¬ OwnS i.z i.γ b := fun i hi b hb => by
    obtain ⟨d, hd, rfl⟩ := it i hi
    have hb2 : Own d.1 (.sh false) .lf b := hb
    exact absurd hb2 (Own.flat (ht d hd))
  refine ⟨⟨hb.os, hb.tape, hb.output, hb.size, fun d => (hdr d).elim, fun b hb' _ => hb.block b hb'⟩, fun _ => False, ds.map fun d => ⟨.val .reg d.1 (.sh false) d.2, toV d.1 d.2 .lf, ⟨none, .lf⟩⟩, [], ?_, ?_, ⟨fun i hi => ?_, fun i hi => ?_, ?_, fun i hi b hb' => ?_, fun b h => h.elim, fun b hb' => hI.new b (Nat.le_trans hb.size hb')⟩, fun b h => h.elim, ?_, (hbo _).symm, fun i hi b hb' => ?_⟩
  · rw [hr, hl, List.take_length, hres, resSV_flat, List.map_map]; rfl
  · rw [hr, hl, List.drop_length]; exact hback
  · rw [List.append_nil] at hi
    obtain ⟨d, hd, rfl⟩ := it i hi
    exact ⟨rfl, Mem.flat (ht d hd), Sep.flat (ht d hd), rfl⟩
  · rw [List.append_nil] at hi
    obtain ⟨d, hd, rfl⟩ := it i hi
    exact fun _ _ _ _ _ _ _ c => by cases c
  · rw [List.append_nil, List.pairwise_map]
    refine List.Pairwise.imp_of_mem (R := fun _ _ => True) (fun {x y} hx hy _ b hb' => ?_) (List.pairwise_of_forall fun _ _ => trivial)
    exact absurd hb' (no _ (List.mem_map_of_mem hx) b)
  · rw [List.append_nil] at hi
    exact absurd hb' (no i hi b)
  · rw [List.map_map]; rfl
  · rw [List.append_nil] at hi
    exact absurd hb' (no i hi b)
theorem below_grow (w : World) (k : Nat) (os : Array Obj) : Bel w.heap.size w (Sort.grow (w.drewN k) os) := by
  refine ⟨rfl, rfl, rfl, ?_, fun b hb => ?_⟩
  · show w.heap.size ≤ (w.heap ++ os).size
    simp
  · show (w.heap ++ os)[b]? = w.heap[b]?
    rw [Array.getElem?_append_left hb]
theorem itoa_holds (hdr : ¬ τ.dr) {ρ : Go.Shelf.Ren} (L : Go.Proofs.LaysM.n171 P ρ) (hσ : Γ.sigs[n]? = some σ) (hf : σ.fid = ρ.f 171) (hp : σ.params = [.val (.int .i64)]) (hres : σ.results = [.val .str (.sh false)])
    (hτ : ∀ w, τ.K w → Lib.TabIs P w "internal/strconv.uint64pow10" .u64 Lib.pow10Tab) {x : Int} {s : ByteArray} {a : (prodTy (Γ.insL n)).den} {r : (prodTy (Γ.outsL n)).den} (ha : unProd (Γ.insL n) a = [⟨.int .i64, x⟩]) (hr : unProd (Γ.outsL n) r = [⟨.str, s⟩]) (h : Lb.itoa x = some s) (hcl : σ.clos = [] := by rfl) : Holds P Γ τ n a r := by
  unfold Lb.itoa at h
  split at h
  · rename_i hx
    cases h
    refine Holds.flat (hcl := hcl) hσ rfl hres (by rw [hp]; rfl) (fun vs => by rw [hp]; cases vs <;> rfl) hr hdr fun w I F M hM hI hK => ?_
    rw [hp, ha] at hM
    simp only [insSV, cast_self, Option.bind_some, Option.some.injEq] at hM
    match M, hM with
    | [⟨isv, iv, iγ⟩], hM =>
      simp only [List.map_cons, List.map_nil, List.cons.injEq, and_true] at hM
      subst hM
      have hv : iv = .int .i64 x := (hI.ok ⟨_, iv, iγ⟩ List.mem_cons_self).1
      have hc := Go.Proofs.Any.strconv_Itoa L x hx.1 hx.2 w (hτ w hK.k)
      rw [hf]
      refine Calls.mono (show Calls P (ρ.f 171) #[iv] w _ from hv ▸ hc) fun e w' ⟨he, k, os, hw⟩ => ⟨he, ?_⟩
      subst hw
      exact below_grow w k os
    | [], hM => cases hM
    | _ :: _ :: _, hM => simp at hM
  · cases h
theorem join_holds (hdr : ¬ τ.dr) {ρ : Go.Shelf.Ren} (L : Go.Proofs.Lays.n156 P ρ) (E : Go.Proofs.Builder.Extra P ρ) (hσ : Γ.sigs[n]? = some σ) (hf : σ.fid = ρ.f 156) (hp : σ.params = [.val (.sl .str), .val .str]) (hres : σ.results = [.val .str (.sh false)])
    {x : List ByteArray} {sep s : ByteArray} {a : (prodTy (Γ.insL n)).den} {r : (prodTy (Γ.outsL n)).den} (ha : unProd (Γ.insL n) a = [⟨.sl .str, x⟩, ⟨.str, sep⟩]) (hr : unProd (Γ.outsL n) r = [⟨.str, s⟩]) (h : Lb.join x sep = some s) (hcl : σ.clos = [] := by rfl) : Holds P Γ τ n a r := by
  unfold Lb.join at h
  split at h
  · rename_i hx
    cases h
    refine Holds.flat (hcl := hcl) hσ rfl hres (by rw [hp]; rfl) (fun vs => by rw [hp]; match vs with | [] => rfl | [_] => rfl | [_, _] => rfl | _ :: _ :: _ :: _ => rfl) hr hdr fun w I F M hM hI hK => ?_
    rw [hp, ha] at hM
    simp only [insSV, cast_self, Option.bind_some, Option.some.injEq] at hM
    match M, hM with
    | [⟨isv, iv, iγ⟩, ⟨jsv, jv, jγ⟩], hM =>
      simp only [List.map_cons, List.map_nil, List.cons.injEq, and_true] at hM
      obtain ⟨h1, h2⟩ := hM
      subst h1 h2
      obtain ⟨q1, q2, q3, q4⟩ := hI.ok ⟨_, iv, iγ⟩ List.mem_cons_self
      have hv2 : jv = .string sep := (hI.ok _ (List.mem_cons_of_mem _ List.mem_cons_self)).1
      have hv1 : iv = .slice iγ.g.addr iγ.g.len iγ.g.cap := q1
      have m1 : iγ.g.len = x.length := q2.1
      have m5 : ∀ (d : Addr), iγ.g.addr = some d → 0 < iγ.g.len → I d.block := fun d hd hc => ((q2.2).1.2.1 d hd hc).1
      have m6 : ∀ j, j < iγ.g.len → _ := (q2.2).2
      obtain ⟨⟨m2, m3⟩, m4⟩ := q2.2
      have m2' : iγ.g.len ≤ iγ.g.cap := m2
      rw [hf, hv1, hv2] 
      show Calls P (ρ.f 156) #[.slice iγ.g.addr iγ.g.len iγ.g.cap, .string sep] w _
      rw [m1]
      by_cases hne : x.length = 0
      · have hx0 : x = [] := List.eq_nil_of_length_eq_zero hne
        subst hx0
        refine Calls.mono (Go.Proofs.Any.strings_Join_none L E iγ.g.addr iγ.g.cap sep w) fun e w' ⟨he, hw⟩ => ⟨he, ?_⟩
        subst hw
        exact RowKit.Below.refl _ _
      · have h0 := (m4 0 (by rw [m1]; omega)).1
        obtain ⟨d, hd, hc⟩ := h0 0 _ rfl
        have hIb := m5 d hd (by omega)
        obtain ⟨bk, o, spot⟩ := d
        have hspot : spot = none := by
          have := World.cell?_spot hc
          have h2 : ((⟨bk, o, spot⟩ : Addr).add (0 * Ty.str.size + 0)) = ⟨bk, o, spot⟩ := by rw [Nat.zero_mul]; exact Addr.add_zero' _
          rw [h2] at this
          exact this
        subst hspot
        rw [hd]
        refine Calls.mono (Go.Proofs.Any.strings_Join L E bk o iγ.g.cap x sep w (fun j y hj => ?_) (hI.imm bk hIb) (by omega) (by rw [← m1]; exact m2') hx.2) fun e w' ⟨he, hb⟩ => ⟨he, hb⟩
        have hjl : j < x.length := (List.getElem?_eq_some_iff.1 hj).1
        obtain ⟨d', hd', hc'⟩ := (m6 j (by omega)).1 0 _ rfl
        rw [hd] at hd'
        cases hd'
        have e1 : List.getD x j Ty.str.dflt = y := by rw [List.getD_eq_getElem?_getD, hj]; rfl
        rw [e1] at hc'
        rw [Addr.add_mk] at hc'
        have e2 : o + (j * Ty.str.size + 0) = o + j := by
          have : Ty.str.size = 1 := rfl
          rw [this]; omega
        rw [e2] at hc'
        exact hc'
    | [], hM => cases hM
    | [_], hM => simp at hM
    | _ :: _ :: _ :: _, hM => simp at hM
  · cases h
theorem below_drewN (w : World) (k : Nat) : Bel w.heap.size w (w.drewN k) := ⟨rfl, rfl, rfl, Nat.le_refl _, fun b hb => rfl⟩
theorem indexByte_holds (hdr : ¬ τ.dr) {ρ : Go.Shelf.Ren} (L : Go.Proofs.Lays.n137 P ρ) (hσ : Γ.sigs[n]? = some σ) (hf : σ.fid = ρ.f 137) (hp : σ.params = [.val .str, .val (.int .u8)]) (hres : σ.results = [.val (.int .i64) (.sh false)])
    {s : ByteArray} {c x : Int} {a : (prodTy (Γ.insL n)).den} {r : (prodTy (Γ.outsL n)).den} (ha : unProd (Γ.insL n) a = [⟨.str, s⟩, ⟨.int .u8, c⟩]) (hr : unProd (Γ.outsL n) r = [⟨.int .i64, x⟩]) (h : Lb.indexByte s c = some x) (hcl : σ.clos = [] := by rfl) : Holds P Γ τ n a r := by
  cases h
  refine Holds.flat (hcl := hcl) hσ rfl hres (by rw [hp]; rfl) (fun vs => by rw [hp]; match vs with | [] => rfl | [_] => rfl | [_, _] => rfl | _ :: _ :: _ :: _ => rfl) hr hdr fun w I F M hM hI hK => ?_
  rw [hp, ha] at hM
  simp only [insSV, cast_self, Option.bind_some, Option.some.injEq] at hM
  match M, hM with
  | [⟨isv, iv, iγ⟩, ⟨jsv, jv, jγ⟩], hM =>
    simp only [List.map_cons, List.map_nil, List.cons.injEq, and_true] at hM
    obtain ⟨h1, h2⟩ := hM
    subst h1 h2
    have hv1 : iv = .string s := (hI.ok _ List.mem_cons_self).1
    have hv2 : jv = .int .u8 c := (hI.ok _ (List.mem_cons_of_mem _ List.mem_cons_self)).1
    rw [hf, hv1, hv2]
    refine Calls.mono (Go.Proofs.Any.strings_IndexByte L s c w) fun e w' ⟨he, hw⟩ => ⟨he, ?_⟩
    subst hw
    exact RowKit.Below.refl _ _
  | [], hM => cases hM
  | [_], hM => simp at hM
  | _ :: _ :: _ :: _, hM => simp at hM
theorem cut_holds (hdr : ¬ τ.dr) {ρ : Go.Shelf.Ren} (L : Go.Proofs.Lays.n145 P ρ) (hσ : Γ.sigs[n]? = some σ) (hf : σ.fid = ρ.f 145) (hp : σ.params = [.val .str, .val .str]) (hres : σ.results = [.val .str (.sh false), .val .str (.sh false), .val .bool (.sh false)]) (hτ : ∀ w, τ.K w → ∃ m, w.cell? ⟨ρ.g 1, 0, none⟩ = some (.int .i64 m))
    {s sep x y : ByteArray} {z : Bool} {a : (prodTy (Γ.insL n)).den} {r : (prodTy (Γ.outsL n)).den} (ha : unProd (Γ.insL n) a = [⟨.str, s⟩, ⟨.str, sep⟩]) (hr : unProd (Γ.outsL n) r = [⟨.str, x⟩, ⟨.str, y⟩, ⟨.bool, z⟩]) (h : Lb.cut s sep = some (x, y, z)) (hcl : σ.clos = [] := by rfl) : Holds P Γ τ n a r := by
  unfold Lb.cut at h
  split at h
  · rename_i hx
    cases h
    refine Holds.flats (hcl := hcl) (ds := [⟨.str, _⟩, ⟨.str, _⟩, ⟨.bool, _⟩]) hσ (fun d hd => ?_) hres (by rw [hp]; rfl) (fun vs => by rw [hp]; match vs with | [] => rfl | [_] => rfl | [_, _] => rfl | _ :: _ :: _ :: _ => rfl) hr hdr fun w I F M hM hI hK => ?_
    · simp only [List.mem_cons, List.not_mem_nil, or_false] at hd
      rcases hd with rfl | rfl | rfl <;> rfl
    rw [hp, ha] at hM
    simp only [insSV, cast_self, Option.bind_some, Option.some.injEq] at hM
    match M, hM with
    | [⟨isv, iv, iγ⟩, ⟨jsv, jv, jγ⟩], hM =>
      simp only [List.map_cons, List.map_nil, List.cons.injEq, and_true] at hM
      obtain ⟨h1, h2⟩ := hM
      subst h1 h2
      have hv1 : iv = .string s := (hI.ok _ List.mem_cons_self).1
      have hv2 : jv = .string sep := (hI.ok _ (List.mem_cons_of_mem _ List.mem_cons_self)).1
      obtain ⟨m, hm⟩ := hτ w hK.k
      rw [hf, hv1, hv2]
      refine Calls.mono (Go.Proofs.Any.strings_Cut L s sep m w hx hm) fun e w' ⟨he, k, hw⟩ => ⟨he, ?_⟩
      subst hw
      exact below_drewN w k
    | [], hM => cases hM
    | [_], hM => simp at hM
    | _ :: _ :: _ :: _, hM => simp at hM
  · cases h
theorem trimSuffix_holds (hdr : ¬ τ.dr) {ρ : Go.Shelf.Ren} (L : Go.Proofs.Lays.n102 P ρ) (hσ : Γ.sigs[n]? = some σ) (hf : σ.fid = ρ.f 102) (hp : σ.params = [.val .str, .val .str]) (hres : σ.results = [.val .str (.sh false)])
    {s p x : ByteArray} {a : (prodTy (Γ.insL n)).den} {r : (prodTy (Γ.outsL n)).den} (ha : unProd (Γ.insL n) a = [⟨.str, s⟩, ⟨.str, p⟩]) (hr : unProd (Γ.outsL n) r = [⟨.str, x⟩]) (h : Lb.trimSuffix s p = some x) (hcl : σ.clos = [] := by rfl) : Holds P Γ τ n a r := by
  unfold Lb.trimSuffix at h
  split at h
  · rename_i hx
    cases h
    refine Holds.flat (hcl := hcl) hσ rfl hres (by rw [hp]; rfl) (fun vs => by rw [hp]; match vs with | [] => rfl | [_] => rfl | [_, _] => rfl | _ :: _ :: _ :: _ => rfl) hr hdr fun w I F M hM hI hK => ?_
    rw [hp, ha] at hM
    simp only [insSV, cast_self, Option.bind_some, Option.some.injEq] at hM
    match M, hM with
    | [⟨isv, iv, iγ⟩, ⟨jsv, jv, jγ⟩], hM =>
      simp only [List.map_cons, List.map_nil, List.cons.injEq, and_true] at hM
      obtain ⟨h1, h2⟩ := hM
      subst h1 h2
      have hv1 : iv = .string s := (hI.ok _ List.mem_cons_self).1
      have hv2 : jv = .string p := (hI.ok _ (List.mem_cons_of_mem _ List.mem_cons_self)).1
      rw [hf, hv1, hv2]
      refine Calls.mono (Go.Proofs.Any.strings_TrimSuffix L s p w hx) fun e w' ⟨he, hw⟩ => ⟨he, ?_⟩
      subst hw
      exact RowKit.Below.refl _ _
    | [], hM => cases hM
    | [_], hM => simp at hM
    | _ :: _ :: _ :: _, hM => simp at hM
  · cases h
/-- a function told by its own walk: one text in, a number and a yes or no out -/
theorem pint_holds (hdr : ¬ τ.dr) (hσ : Γ.sigs[n]? = some σ) (hp : σ.params = [.val .str]) (hres : σ.results = [.val (.int .i64) (.sh false), .val .bool (.sh false)])
    (hw : ∀ (s : ByteArray) (w : World), s.size ≤ 281474976710656 → τ.K w → Calls P σ.fid #[.string s] w fun e w' => e = .returned (.tuple #[.int .i64 (pInt s).1, .bool (pInt s).2]) ∧ Bel w.heap.size w w')
    {s : ByteArray} {x : Int} {z : Bool} {a : (prodTy (Γ.insL n)).den} {r : (prodTy (Γ.outsL n)).den} (ha : unProd (Γ.insL n) a = [⟨.str, s⟩]) (hr : unProd (Γ.outsL n) r = [⟨.int .i64, x⟩, ⟨.bool, z⟩]) (h : Lb.pint s = some (x, z)) (hcl : σ.clos = [] := by rfl) : Holds P Γ τ n a r := by
  unfold Lb.pint at h
  split at h
  · rename_i hx
    have e1 : (pInt s).1 = x := congrArg Prod.fst (Option.some.inj h)
    have e2 : (pInt s).2 = z := congrArg Prod.snd (Option.some.inj h)
    refine Holds.flats (hcl := hcl) (ds := [⟨.int .i64, x⟩, ⟨.bool, z⟩]) hσ (fun d hd => ?_) hres (by rw [hp]; rfl) (fun vs => by rw [hp]; match vs with | [] => rfl | [_] => rfl | _ :: _ :: _ => rfl) hr hdr fun w I F M hM hI hK => ?_
    · simp only [List.mem_cons, List.not_mem_nil, or_false] at hd
      rcases hd with rfl | rfl <;> rfl
    rw [hp, ha] at hM
    simp only [insSV, cast_self, Option.bind_some, Option.some.injEq] at hM
    match M, hM with
    | [⟨isv, iv, iγ⟩], hM =>
      simp only [List.map_cons, List.map_nil, List.cons.injEq, and_true] at hM
      subst hM
      have hv1 : iv = .string s := (hI.ok _ List.mem_cons_self).1
      subst e1 e2
      exact hv1 ▸ hw s w hx hK.k
    | [], hM => cases hM
    | _ :: _ :: _, hM => simp at hM
  · cases h
end
end Go.Den

/-
  The library's sort of numbers: what the evaluator is told of it is what the machine does.
-/
import Derived.Test.YthmddgkpebneoaaDnC
import Derived.Test.YthmddgkpebneoaaLb
import Derived.Shelf.SortG.Plain
import Derived.Shelf.SortG.SortNone
namespace Go.Den
open Go
set_option linter.unusedVariables false
set_option linter.unusedSimpArgs false
abbrev IntsT : Ty := .sl (.int .i64)
/-- the world after the sort -/
def sortedW (w : World) (blk off n : Nat) (d : List Int) (os : Array Obj) : World := Go.Sort.grow (Go.Sort.putRow (Value.int .i64) (Go.Sort.ahead w n) blk off d.toArray) os
theorem sw_heap (w : World) (blk off nn : Nat) (d : List Int) (os : Array Obj) {b : Nat} (hb : b < w.heap.size) (hne : b ≠ blk) : (sortedW w blk off nn d os).heap[b]? = w.heap[b]? := by
  show ((w.heap.modify blk (Go.Sort.onCells (Go.Sort.putCells (Value.int .i64) off d.toArray))) ++ os)[b]? = _
  rw [Array.getElem?_append_left (by simpa using hb), Array.getElem?_modify, if_neg (fun c => hne c.symm)]
theorem sw_at (w : World) (blk off nn : Nat) (d : List Int) (os : Array Obj) {C : Array Value} {te : TypeId} {fz : Nat × Nat} (hC : w.heap[blk]? = some (.cells C te fz)) :
    (sortedW w blk off nn d os).heap[blk]? = some (.cells (Go.Sort.putCells (Value.int .i64) off d.toArray C) te fz) := by
  have hb : blk < w.heap.size := (Array.getElem?_eq_some_iff.1 hC).1
  show ((w.heap.modify blk (Go.Sort.onCells (Go.Sort.putCells (Value.int .i64) off d.toArray))) ++ os)[blk]? = _
  rw [Array.getElem?_append_left (by simpa using hb), Array.getElem?_modify, if_pos rfl, hC]
  rfl
theorem sw_size (w : World) (blk off nn : Nat) (d : List Int) (os : Array Obj) : (sortedW w blk off nn d os).heap.size = w.heap.size + os.size := by
  show ((w.heap.modify blk (Go.Sort.onCells (Go.Sort.putCells (Value.int .i64) off d.toArray))) ++ os).size = _
  simp
theorem sortI_calls {P : Program} {ρ : Go.Shelf.Ren} (L : Go.Proofs.SlLaysN.n53 P ρ) {w : World} {I F : Nat → Prop} {m : Md} {xs ys : List Int} (hs : Lb.sortInts xs = some ys) {g : G}
    (M : Mem w I F IntsT (.own m) xs g) (S : Sep IntsT (.own m) g) (hO : ∀ b, Own IntsT (.own m) g b → F b ∧ ¬ I b ∧ b < w.heap.size) :
    Calls P (ρ.f 53) #[.slice g.addr g.len g.cap] w fun e w' => e = .returned (.tuple #[]) ∧ Wk I F w w' ∧ Mem w' I F IntsT (.own m) ys g := by
  unfold Lb.sortInts at hs
  have hc : xs.length ≤ 1099511627776 := by
    by_cases h : xs.length ≤ 1099511627776
    · exact h
    · rw [if_neg h] at hs; cases hs
  rw [if_pos hc] at hs
  have hy := Option.some.inj hs
  have hgl : g.len = xs.length := M.1
  by_cases hn : xs.length = 0
  · have hx : xs = [] := List.eq_nil_of_length_eq_zero hn
    subst hx
    have hy' : ys = [] := by rw [← hy]; simp
    subst hy'
    rw [hgl]
    refine Calls.mono (Go.Proofs.AnyG.slices_Sort_int_none L g.addr g.cap w) fun e w' ⟨he, hw⟩ => ?_
    subst hw
    exact ⟨he, ⟨rfl, rfl, rfl, Nat.le_refl _, Nat.le_refl _, fun b _ _ => rfl⟩, M⟩
  · rcases M.2.1 with ⟨_, h0, _⟩ | ⟨blk, o, C, te, ha, hC, h1, h2, h3⟩
    · omega
    have hblk : blk < w.heap.size := (Array.getElem?_eq_some_iff.1 hC).1
    have hbo : F blk ∧ ¬ I blk ∧ blk < w.heap.size := hO blk (.inl ⟨_, ha, rfl⟩)
    have hH : Go.Sort.Holds (Value.int .i64) w blk o xs.toArray := fun j hj => by
      have hj' : j < xs.length := by simpa using hj
      refine ⟨?_, ?_⟩
      · have := (M.2.2 j (by rw [hgl]; exact hj')).1
        obtain ⟨dd, q1, q2⟩ := this 0 _ rfl
        rw [ha] at q1; cases q1
        rw [Addr.add_mk] at q2
        have e : xs.toArray[j]! = xs.getD j 0 := by
          rw [getElem!_pos xs.toArray j hj, List.getD_eq_getElem?_getD, List.getElem?_eq_getElem hj']; simp
        have q2' : w.cell? ⟨blk, o + (j * 1 + 0), none⟩ = some (.int .i64 (xs.getD j 0)) := q2
        rw [Nat.mul_one, Nat.add_zero] at q2'
        rw [e]; exact q2'
      · show World.frozen? w _ = false
        unfold World.frozen?
        rw [hC]
        simp
    have main := Go.Proofs.AnyG.slices_Sort_int L blk o g.cap xs w hH hblk (by omega)
    have hsl : (Value.slice g.addr g.len g.cap) = .slice (some ⟨blk, o, none⟩) xs.length g.cap := by rw [ha, hgl]
    rw [hsl]
    refine Calls.mono main fun e w' ⟨he, nn, os, hw⟩ => ?_
    have hw : w' = sortedW w blk o nn ys os := by rw [hw, ← hy]; rfl
    subst hw
    have hyl : ys.length = xs.length := by rw [← hy]; exact List.length_mergeSort _
    have hsz : (Go.Sort.putCells (Value.int .i64) o ys.toArray C).size = C.size := by simp [Go.Sort.putCells]
    refine ⟨he, ⟨rfl, rfl, rfl, by rw [sw_size]; omega, Nat.le_add_right _ _, fun b hb hk => sw_heap w blk o nn ys os hb fun c => by
      subst c
      exact hk.elim hbo.2.1 fun k => k hbo.1⟩, hgl.trans hyl.symm, .inr ⟨blk, o, _, te, ha, sw_at w blk o nn ys os hC, by rw [hsz]; exact h1, h2, h3⟩, fun j hj => ⟨?_, trivial⟩⟩
    have hj' : j < ys.length := by omega
    show At _ g.addr (j * 1) [.int .i64 (ys.getD j 0)]
    rw [Nat.mul_one, ha, At.blk (sw_at w blk o nn ys os hC)]
    intro q v hq
    cases q with
    | succ q => simp at hq
    | zero =>
      simp only [List.getElem?_cons_zero, Option.some.injEq] at hq
      subst hq
      have hjC : o + j < C.size := by
        have : g.cap * Ty.size (.int .i64) = g.cap := Nat.mul_one _
        omega
      have hd : ys.toArray[j]! = ys.getD j 0 := by
        rw [getElem!_pos ys.toArray j (by simpa using hj'), List.getD_eq_getElem?_getD, List.getElem?_eq_getElem hj']; simp
      simp only [Nat.add_zero, Go.Sort.putCells, Array.getElem?_mapIdx, Array.getElem?_eq_getElem hjC, Option.map_some]
      rw [if_pos ⟨by omega, by simp; omega⟩, show o + j - o = j by omega, hd]
theorem sortI_holds {P : Program} {ρ : Go.Shelf.Ren} (L : Go.Proofs.SlLaysN.n53 P ρ) {Γ : Ctx} {τ : Told} {n : Nat} {σ : Sig} {m : Md} (hσ : Γ.sigs[n]? = some σ) (hf : σ.fid = ρ.f 53) (hp : σ.params = [.io IntsT (.own m)]) (hres : σ.results = [])
    {x y : List Int} {a : (prodTy (Γ.insL n)).den} {r : (prodTy (Γ.outsL n)).den} (ha : unProd (Γ.insL n) a = [⟨IntsT, x⟩]) (hr : unProd (Γ.outsL n) r = [⟨IntsT, y⟩]) (h : Lb.sortInts x = some y) : Holds P Γ τ n a r := by
  intro σ' hσ' w I F M hM hI hK
  rw [hσ] at hσ'
  cases hσ'
  rw [hp, ha] at hM
  simp only [insSV, cast_self, Option.bind_some, Option.some.injEq] at hM
  match M, hM with
  | [], hM => cases hM
  | _ :: _ :: _, hM => simp at hM
  | [⟨isv, iv, iγ⟩], hM =>
    simp only [List.map_cons, List.map_nil, List.cons.injEq, and_true] at hM
    subst hM
    have ok1 := hI.ok ⟨_, iv, iγ⟩ List.mem_cons_self
    obtain ⟨v1, v2, v3, v4⟩ := ok1
    have v1' : iv = .slice iγ.g.addr iγ.g.len iγ.g.cap := v1
    have lv : ∀ b, Own IntsT (.own m) iγ.g b → F b ∧ ¬ I b ∧ b < w.heap.size := fun b hb => hI.lv ⟨_, iv, iγ⟩ List.mem_cons_self b hb
    have key := sortI_calls L h v2 v3 lv
    rw [hf]
    subst v1'
    refine Calls.mono key fun e w' he => ?_
    obtain ⟨he, hw, q4⟩ := he
    subst he
    refine ⟨hw.x, fun b => I b ∧ F b, [], [⟨.val .reg IntsT (.own m) y, .slice iγ.g.addr iγ.g.len iγ.g.cap, ⟨none, iγ.g⟩⟩], ?_, ?_, ⟨fun i hi => ?_, fun i hi k r v s d p t c => ?_, List.pairwise_singleton _ _, fun i hi b hb => ?_, fun b hb => Nat.lt_of_lt_of_le (hI.imm b hb.1) hw.size, fun b hb => hI.new b (Nat.le_trans hw.size hb)⟩, fun b hb => .inl hb.2, rfl, ?_, fun i hi b hb => ?_⟩
    · rw [hres]; rfl
    · rw [hp, hr, hres]
      simp [backSV, cast_self]
    · rw [List.nil_append, List.mem_singleton] at hi
      subst hi
      exact ⟨rfl, ⟨q4.1, q4.2.1, fun j hj => ⟨(q4.2.2 j hj).1, trivial⟩⟩, v3, rfl⟩
    · rw [List.nil_append, List.mem_singleton] at hi
      subst hi
      cases c
    · rw [List.nil_append, List.mem_singleton] at hi
      subst hi
      have hb' : Own IntsT (.own m) iγ.g b := hb
      obtain ⟨u1, u2, u3⟩ := lv b hb'
      exact ⟨u1, fun k => u2 k.1, Nat.lt_of_lt_of_le u3 hw.size⟩
    · rw [hp]; rfl
    · rw [List.nil_append, List.mem_singleton] at hi
      subst hi
      have hb' : Own IntsT (.own m) iγ.g b := hb
      exact (lv b hb').2.1
end Go.Den

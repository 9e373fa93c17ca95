/-
  CountMorphisms of the program: what the walk shows, joined to what the evaluator is told.
-/
import Derived.Test.YtgncajnfphlgeaaDnC
import Derived.Test.YtgncajnfphlgeaaCma
import Derived.Test.YtgncajnfphlgeaaCml
import Derived.Test.YtgncajnfphlgeaaCmv
import Derived.Test.YtgncajnfphlgeaaCmm
namespace Go.Proofs.Ytgncajnfphlgeaa.D
open Go Go.Den Go.Proofs.Ytgncajnfphlgeaa
set_option linter.unusedVariables false
set_option linter.unusedSimpArgs false
abbrev GrT : Ty := .cons (.int .i64) (.sl (.cons (.int .i64) (.int .i64)))
abbrev IT : Ty := .sl (.int .i64)
abbrev MorT : Ty := .cons IT IT
theorem ok_call {O : Fun Γ} (hO : Go.Den.Good Try.prog Γ noTold O) (x0 : Lb.GrL) {r : Bool} (hr : (O 23 x0 : Option Bool) = some r) {W : World} {I F : Nat → Prop} {i0 : Den.Item} (h0 : i0.sv = .val .reg GrT (.sh true) x0) (hI : Items W I F [i0]) (hK : TOk noTold F W) :
    Calls Try.prog 22 #[i0.v] W fun e w' => e = .returned (.bool r) ∧ Wx (noTold).dr I F W w' := by
  obtain ⟨sv0, v0, γ0⟩ := i0; obtain rfl : sv0 = _ := h0
  refine Calls.mono (hO 23 x0 r hr s23 rfl W I F [⟨_, v0, γ0⟩] rfl hI hK) fun e w' he => ?_
  cases e with
  | panicked _ => exact he.elim
  | outgrown => exact he.elim
  | returned v =>
    obtain ⟨hw, J, M, N, k1, k2, k3, k4, k5, k6, k7⟩ := he
    refine ⟨?_, hw⟩
    have k1' : some [SV.val .reg .bool (.sh false) r] = some (M.map Den.Item.sv) := k1
    match M, Option.some.inj k1' with
    | [], k => cases k
    | _ :: _ :: _, k => simp at k
    | [⟨isv, iv, iγ⟩], k =>
      simp only [List.map_cons, List.map_nil, List.cons.injEq, and_true] at k
      subst k
      have := (k3.ok ⟨_, iv, iγ⟩ (List.mem_append_left _ List.mem_cons_self)).1
      rw [k5]
      exact congrArg Ending.returned this
theorem har_call {O : Fun Γ} (hO : Go.Den.Good Try.prog Γ noTold O) (x0 : Lb.GrL) (x1 : Lb.GrL) (x2 : List Int × List Int) {r : Bool} (hr : (O 30 (x0, x1, x2) : Option Bool) = some r) {W : World} {I F : Nat → Prop} {i0 i1 i2 : Den.Item} (h0 : i0.sv = .val .reg GrT (.sh true) x0) (h1 : i1.sv = .val .reg GrT (.sh true) x1) (h2 : i2.sv = .val .reg MorT (.sh true) x2) (hI : Items W I F [i0, i1, i2]) (hK : TOk noTold F W) :
    Calls Try.prog 15 #[i0.v, i1.v, i2.v] W fun e w' => e = .returned (.bool r) ∧ Wx (noTold).dr I F W w' := by
  obtain ⟨sv0, v0, γ0⟩ := i0; obtain rfl : sv0 = _ := h0
  obtain ⟨sv1, v1, γ1⟩ := i1; obtain rfl : sv1 = _ := h1
  obtain ⟨sv2, v2, γ2⟩ := i2; obtain rfl : sv2 = _ := h2
  refine Calls.mono (hO 30 (x0, x1, x2) r hr s30 rfl W I F [⟨_, v0, γ0⟩, ⟨_, v1, γ1⟩, ⟨_, v2, γ2⟩] rfl hI hK) fun e w' he => ?_
  cases e with
  | panicked _ => exact he.elim
  | outgrown => exact he.elim
  | returned v =>
    obtain ⟨hw, J, M, N, k1, k2, k3, k4, k5, k6, k7⟩ := he
    refine ⟨?_, hw⟩
    have k1' : some [SV.val .reg .bool (.sh false) r] = some (M.map Den.Item.sv) := k1
    match M, Option.some.inj k1' with
    | [], k => cases k
    | _ :: _ :: _, k => simp at k
    | [⟨isv, iv, iγ⟩], k =>
      simp only [List.map_cons, List.map_nil, List.cons.injEq, and_true] at k
      subst k
      have := (k3.ok ⟨_, iv, iγ⟩ (List.mem_append_left _ List.mem_cons_self)).1
      rw [k5]
      exact congrArg Ending.returned this
theorem min_call {O : Fun Γ} (hO : Go.Den.Good Try.prog Γ noTold O) (x0 : List Int) {r : Int} (hr : (O 28 x0 : Option Int) = some r) {W : World} {I F : Nat → Prop} {i0 : Den.Item} (h0 : i0.sv = .val .reg IT (.sh true) x0) (hI : Items W I F [i0]) (hK : TOk noTold F W) :
    Calls Try.prog 24 #[i0.v] W fun e w' => e = .returned (.int .i64 r) ∧ Wx (noTold).dr I F W w' := by
  obtain ⟨sv0, v0, γ0⟩ := i0; obtain rfl : sv0 = _ := h0
  refine Calls.mono (hO 28 x0 r hr s28 rfl W I F [⟨_, v0, γ0⟩] rfl hI hK) fun e w' he => ?_
  cases e with
  | panicked _ => exact he.elim
  | outgrown => exact he.elim
  | returned v =>
    obtain ⟨hw, J, M, N, k1, k2, k3, k4, k5, k6, k7⟩ := he
    refine ⟨?_, hw⟩
    have k1' : some [SV.val .reg (.int .i64) (.sh false) r] = some (M.map Den.Item.sv) := k1
    match M, Option.some.inj k1' with
    | [], k => cases k
    | _ :: _ :: _, k => simp at k
    | [⟨isv, iv, iγ⟩], k =>
      simp only [List.map_cons, List.map_nil, List.cons.injEq, and_true] at k
      subst k
      have := (k3.ok ⟨_, iv, iγ⟩ (List.mem_append_left _ List.mem_cons_self)).1
      rw [k5]
      exact congrArg Ending.returned this
theorem max_call {O : Fun Γ} (hO : Go.Den.Good Try.prog Γ noTold O) (x0 : List Int) {r : Int} (hr : (O 29 x0 : Option Int) = some r) {W : World} {I F : Nat → Prop} {i0 : Den.Item} (h0 : i0.sv = .val .reg IT (.sh true) x0) (hI : Items W I F [i0]) (hK : TOk noTold F W) :
    Calls Try.prog 25 #[i0.v] W fun e w' => e = .returned (.int .i64 r) ∧ Wx (noTold).dr I F W w' := by
  obtain ⟨sv0, v0, γ0⟩ := i0; obtain rfl : sv0 = _ := h0
  refine Calls.mono (hO 29 x0 r hr s29 rfl W I F [⟨_, v0, γ0⟩] rfl hI hK) fun e w' he => ?_
  cases e with
  | panicked _ => exact he.elim
  | outgrown => exact he.elim
  | returned v =>
    obtain ⟨hw, J, M, N, k1, k2, k3, k4, k5, k6, k7⟩ := he
    refine ⟨?_, hw⟩
    have k1' : some [SV.val .reg (.int .i64) (.sh false) r] = some (M.map Den.Item.sv) := k1
    match M, Option.some.inj k1' with
    | [], k => cases k
    | _ :: _ :: _, k => simp at k
    | [⟨isv, iv, iγ⟩], k =>
      simp only [List.map_cons, List.map_nil, List.cons.injEq, and_true] at k
      subst k
      have := (k3.ok ⟨_, iv, iγ⟩ (List.mem_append_left _ List.mem_cons_self)).1
      rw [k5]
      exact congrArg Ending.returned this

def ints (V : List Int) : Array Value := (V.map (Value.int .i64)).toArray
theorem ints_set (V : List Int) (i : Nat) (x : Int) : (ints V).setIfInBounds i (.int .i64 x) = ints (V.set i x) := by
  simp [ints, List.map_set]
theorem ints_get {V : List Int} {i : Nat} (h : i < V.length) : (ints V)[i]? = some (.int .i64 (V.getD i 0)) := by
  simp [ints, h]
theorem ints_zero (n : Nat) : madeCells #[.int .i64 0] n = ints (List.replicate n 0) := by
  apply Array.toList_inj.1
  rw [toList_madeCells_one]
  simp [ints]
theorem cell_at {W : World} {b i : Nat} {C : Array Value} {t : TypeId} {fz : Nat × Nat} (h : W.heap[b]? = some (.cells C t fz)) : W.cell? ⟨b, i, none⟩ = C[i]? := by
  simp [World.cell?, h]
theorem frozen_at {W : World} {b i : Nat} {C : Array Value} {t : TypeId} (h : W.heap[b]? = some (.cells C t (0, 0))) : W.frozen? ⟨b, i, none⟩ = false := by
  simp [World.frozen?, h]
theorem wx_set {D : Prop} {I F : Nat → Prop} {w W : World} (hx : Wx D I F w W) {b i : Nat} (hb : w.heap.size ≤ b) (v : Value) : Wx D I F w (W.setCell ⟨b, i, none⟩ v) :=
  ⟨hx.os, hx.tape, hx.output, by show _ ≤ (W.heap.modify b _).size; rw [Array.size_modify]; exact hx.size, hx.drawn, fun c hc h => (heap_setCell_other W ⟨b, i, none⟩ c v (by show c ≠ b; omega)).trans (hx.old c hc h)⟩
theorem wx_drewN {D : Prop} {I F : Nat → Prop} {w W : World} (hx : Wx D I F w W) (m : Nat) : Wx D I F w (W.drewN m) :=
  ⟨hx.os, hx.tape, hx.output, hx.size, fun d => Nat.le_trans (hx.drawn d) (Nat.le_add_right _ _), hx.old⟩
/-- where the closures' things lie -/
structure CmB where
  (gb hb mb nb fb tb vb eb : Nat)
/-- none lies where another lies, and all are new -/
structure CmB.Ok (B : CmB) (s : Nat) : Prop where
  e1 : B.gb = s
  e2 : B.hb = s + 1
  e3 : s + 2 ≤ B.vb ∧ s + 2 ≤ B.eb ∧ s + 2 ≤ B.mb
  e4 : B.vb < B.nb ∧ B.eb < B.nb ∧ B.mb < B.nb
  e5 : B.fb = B.nb + 1
  e6 : B.tb = B.nb + 2
  e7 : B.vb ≠ B.eb
  e8 : B.vb ≠ B.mb
  e9 : B.eb ≠ B.mb
/-- what lies where while the closures run -/
structure CmJ (D : Prop) (I F : Nat → Prop) (w : World) (g h : Lb.GrL) (gγ hγ : G) (B : CmB) (N le : Nat) (V E : List Int) (n : Int) (W : World) : Prop where
  x : Wx D I F w W
  gC : W.heap[B.gb]? = some (.cells #[.int .i64 g.1, .slice gγ.snd.addr gγ.snd.len gγ.snd.cap] 29 (0, 0))
  hC : W.heap[B.hb]? = some (.cells #[.int .i64 h.1, .slice hγ.snd.addr hγ.snd.len hγ.snd.cap] 29 (0, 0))
  mC : W.heap[B.mb]? = some (.cells #[.slice (some ⟨B.vb, 0, none⟩) N N, .slice (some ⟨B.eb, 0, none⟩) le le] 37 (0, 0))
  vC : W.heap[B.vb]? = some (.cells (ints V) 3 (0, 0))
  eC : W.heap[B.eb]? = some (.cells (ints E) 3 (0, 0))
  nC : W.heap[B.nb]? = some (.cells #[.int .i64 n] 3 (0, 0))
  fC : W.heap[B.fb]? = some (.cells #[.func (.func 23) #[] #[.pointer (some ⟨B.mb, 0, none⟩), .pointer (some ⟨B.gb, 0, none⟩), .pointer (some ⟨B.hb, 0, none⟩), .pointer (some ⟨B.nb, 0, none⟩), .pointer (some ⟨B.fb, 0, none⟩)]] 50 (0, 0))
  tC : W.heap[B.tb]? = some (.cells #[.func (.func 26) #[] #[.pointer (some ⟨B.gb, 0, none⟩), .pointer (some ⟨B.fb, 0, none⟩), .pointer (some ⟨B.mb, 0, none⟩), .pointer (some ⟨B.hb, 0, none⟩), .pointer (some ⟨B.tb, 0, none⟩)]] 50 (0, 0))
  vl : V.length = N
  el : E.length = le
  n0 : 0 ≤ n
  n1 : n ≤ 1000000
section
variable {D : Prop} {I F : Nat → Prop} {w : World} {g h : Lb.GrL} {gγ hγ : G} {B : CmB} {N le : Nat} {V E : List Int} {n : Int} {W : World}
theorem CmJ.lt (j : CmJ D I F w g h gγ hγ B N le V E n W) : ∀ b, b = B.gb ∨ b = B.hb ∨ b = B.mb ∨ b = B.nb ∨ b = B.fb ∨ b = B.tb ∨ b = B.vb ∨ b = B.eb → b < W.heap.size := by
  rintro b (rfl | rfl | rfl | rfl | rfl | rfl | rfl | rfl)
  · exact lt_of_block j.gC
  · exact lt_of_block j.hC
  · exact lt_of_block j.mC
  · exact lt_of_block j.nC
  · exact lt_of_block j.fC
  · exact lt_of_block j.tC
  · exact lt_of_block j.vC
  · exact lt_of_block j.eC
theorem CmJ.drewN (j : CmJ D I F w g h gγ hγ B N le V E n W) (m : Nat) : CmJ D I F w g h gγ hγ B N le V E n (W.drewN m) :=
  ⟨wx_drewN j.x m, j.gC, j.hC, j.mC, j.vC, j.eC, j.nC, j.fC, j.tC, j.vl, j.el, j.n0, j.n1⟩
theorem CmJ.same {W' : World} (j : CmJ D I F w g h gγ hγ B N le V E n W) (hx : Wx D I F w W') (hs : ∀ b, b = B.gb ∨ b = B.hb ∨ b = B.mb ∨ b = B.nb ∨ b = B.fb ∨ b = B.tb ∨ b = B.vb ∨ b = B.eb → W'.heap[b]? = W.heap[b]?) : CmJ D I F w g h gγ hγ B N le V E n W' :=
  ⟨hx, (hs _ (by simp)).trans j.gC, (hs _ (by simp)).trans j.hC, (hs _ (by simp)).trans j.mC, (hs _ (by simp)).trans j.vC, (hs _ (by simp)).trans j.eC, (hs _ (by simp)).trans j.nC, (hs _ (by simp)).trans j.fC, (hs _ (by simp)).trans j.tC, j.vl, j.el, j.n0, j.n1⟩
theorem CmJ.setV (j : CmJ D I F w g h gγ hγ B N le V E n W) (hB : B.Ok w.heap.size) (i : Nat) (x : Int) : CmJ D I F w g h gγ hγ B N le (V.set i x) E n (W.setCell ⟨B.vb, i, none⟩ (.int .i64 x)) := by
  obtain ⟨e1, e2, e3, e4, e5, e6, e7, e8, e9⟩ := hB
  have o : ∀ b, b ≠ B.vb → (W.setCell ⟨B.vb, i, none⟩ (.int .i64 x)).heap[b]? = W.heap[b]? := fun b hb => heap_setCell_other _ _ _ _ hb
  exact ⟨wx_set j.x (by omega) _, (o _ (by omega)).trans j.gC, (o _ (by omega)).trans j.hC, (o _ (by omega)).trans j.mC, (heap_setCell_same _ _ _ _ _ _ j.vC).trans (by rw [ints_set]), (o _ (by omega)).trans j.eC, (o _ (by omega)).trans j.nC, (o _ (by omega)).trans j.fC, (o _ (by omega)).trans j.tC, by rw [List.length_set]; exact j.vl, j.el, j.n0, j.n1⟩
theorem CmJ.setE (j : CmJ D I F w g h gγ hγ B N le V E n W) (hB : B.Ok w.heap.size) (i : Nat) (x : Int) : CmJ D I F w g h gγ hγ B N le V (E.set i x) n (W.setCell ⟨B.eb, i, none⟩ (.int .i64 x)) := by
  obtain ⟨e1, e2, e3, e4, e5, e6, e7, e8, e9⟩ := hB
  have o : ∀ b, b ≠ B.eb → (W.setCell ⟨B.eb, i, none⟩ (.int .i64 x)).heap[b]? = W.heap[b]? := fun b hb => heap_setCell_other _ _ _ _ hb
  exact ⟨wx_set j.x (by omega) _, (o _ (by omega)).trans j.gC, (o _ (by omega)).trans j.hC, (o _ (by omega)).trans j.mC, (o _ (by omega)).trans j.vC, (heap_setCell_same _ _ _ _ _ _ j.eC).trans (by rw [ints_set]), (o _ (by omega)).trans j.nC, (o _ (by omega)).trans j.fC, (o _ (by omega)).trans j.tC, j.vl, by rw [List.length_set]; exact j.el, j.n0, j.n1⟩
theorem CmJ.setN (j : CmJ D I F w g h gγ hγ B N le V E n W) (hB : B.Ok w.heap.size) (x : Int) (hx0 : 0 ≤ x) (hx1 : x ≤ 1000000) : CmJ D I F w g h gγ hγ B N le V E x (W.setCell ⟨B.nb, 0, none⟩ (.int .i64 x)) := by
  obtain ⟨e1, e2, e3, e4, e5, e6, e7, e8, e9⟩ := hB
  have o : ∀ b, b ≠ B.nb → (W.setCell ⟨B.nb, 0, none⟩ (.int .i64 x)).heap[b]? = W.heap[b]? := fun b hb => heap_setCell_other _ _ _ _ hb
  exact ⟨wx_set j.x (by omega) _, (o _ (by omega)).trans j.gC, (o _ (by omega)).trans j.hC, (o _ (by omega)).trans j.mC, (o _ (by omega)).trans j.vC, (o _ (by omega)).trans j.eC, one_setCell j.nC, (o _ (by omega)).trans j.fC, (o _ (by omega)).trans j.tC, j.vl, j.el, hx0, hx1⟩
theorem pw {α : Type} {R : α → α → Prop} : ∀ l : List α, (∀ a ∈ l, ∀ b ∈ l, R a b) → l.Pairwise R
  | [], _ => .nil
  | a :: l, h => .cons (fun b hb => h a List.mem_cons_self b (List.mem_cons_of_mem _ hb)) (pw l fun x hx y hy => h x (List.mem_cons_of_mem _ hx) y (List.mem_cons_of_mem _ hy))
theorem cm_items {gi hi : Den.Item} (hI : Items w I F [gi, hi]) (hx : Wx D I F w W) {I' F' : Nat → Prop} (hI' : ∀ b, I b → I' b) (hIF : ∀ b, I b → F b → F' b) (hlt : ∀ b, I' b → b < W.heap.size) (hnew : ∀ b, W.heap.size ≤ b → F' b) {L : List Den.Item}
    (no : ∀ i ∈ [gi, hi], ∀ b, ¬ OwnS i.z i.γ b) (hN : ∀ i ∈ L, i ∈ [gi, hi] ∨ (SlotOk W I' F' i.z i.v i.γ ∧ (∀ k r v s d p t, i.sv ≠ .ref k r v s d p t) ∧ ∀ b, ¬ OwnS i.z i.γ b)) : Items W I' F' L := by
  have no' : ∀ i ∈ L, ∀ b, ¬ OwnS i.z i.γ b := fun i hi => (hN i hi).elim (no i) fun h => h.2.2
  refine ⟨fun i hi => ?_, fun i hi => ?_, pw _ fun a ha b hb c hc => absurd hc (no' a ha c), fun i hi b hb => absurd hb (no' i hi b), hlt, hnew⟩
  · rcases hN i hi with h | h
    · exact ((hI.ok i h).frame fun b hb => hb.elim (fun hb => absurd hb (no i h b)) fun hb => hx.old b (hI.imm b hb) (.inl hb)).mono2 hI' hIF
    · exact h.1
  · rcases hN i hi with h | h
    · exact hI.noref i h
    · exact h.2.1
theorem row_ok {I' F' : Nat → Prop} {b l : Nat} {X : List Int} (hC : W.heap[b]? = some (.cells (ints X) 3 (0, 0))) (hl : X.length = l) (hb : I' b) : Mem W I' F' IT (.sh true) X (.hd (some ⟨b, 0, none⟩) l l fun _ => .lf) := by
  subst hl
  refine ⟨rfl, ⟨Nat.le_refl _, fun d hd _ => ⟨by cases hd; exact hb, fun c => by cases c⟩, fun c => by cases c⟩, fun i hi => ⟨?_, trivial⟩⟩
  show At W (some ⟨b, 0, none⟩) (i * 1) [.int .i64 (X.getD i 0)]
  rw [Nat.mul_one, At.blk hC]
  intro k v hk
  cases k with
  | succ k => simp at hk
  | zero =>
    simp only [List.getElem?_cons_zero, Option.some.injEq] at hk
    subst hk
    rw [Nat.add_zero, Nat.zero_add]
    exact ints_get hi
end
end Go.Proofs.Ytgncajnfphlgeaa.D

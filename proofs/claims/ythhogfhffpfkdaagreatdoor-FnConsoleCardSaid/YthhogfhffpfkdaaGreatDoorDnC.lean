/-
  The evaluator, calls and whole functions: what it tells of a function is what a call of it does; the road to a row.
-/
import Derived.Test.YthhogfhffpfkdaaGreatDoorDnB
import Derived.ProofKit
import Derived.SizedLaws
import Derived.Carry
/-
  Calls: what a call is handed and what it gives back.
-/
namespace Go.Den
open Go
set_option linter.unusedVariables false
set_option linter.unusedSimpArgs false

/-- a slot's content, its value, and where its rows lie -/
structure Item where
  sv : SV
  v : Value
  γ : Gs
def Item.z (i : Item) : Slot := ⟨0, 0, 0, i.sv⟩
/-- contents that share nothing -/
structure Items (w : World) (I F : Nat → Prop) (L : List Item) : Prop where
  ok : ∀ i ∈ L, SlotOk w I F i.z i.v i.γ
  noref : ∀ i ∈ L, ∀ k r v s d p t, i.sv ≠ .ref k r v s d p t
  sep : L.Pairwise fun i j => ∀ b, OwnS i.z i.γ b → ¬ OwnS j.z j.γ b
  lv : ∀ i ∈ L, ∀ b, OwnS i.z i.γ b → F b ∧ ¬ I b ∧ b < w.heap.size
  imm : ∀ b, I b → b < w.heap.size
  new : ∀ b, w.heap.size ≤ b → F b
def noItem : Item := ⟨.no, undef, ⟨none, .lf⟩⟩
def itemAt (L : List Item) (n : Nat) : Item := (L[n]?).getD noItem
theorem OwnS.z0 {z : Slot} {γ : Gs} {b : Nat} : OwnS ⟨0, 0, 0, z.sv⟩ γ b ↔ OwnS z γ b := Iff.rfl
theorem pairwise_get {α : Type} {R : α → α → Prop} (hs : ∀ a b, R a b → R b a) : ∀ {L : List α}, L.Pairwise R → ∀ {i j : Nat} {a b : α}, i ≠ j → L[i]? = some a → L[j]? = some b → R a b
  | [], _, i, j, a, b, _, h, _ => by simp at h
  | x :: L, hp, i, j, a, b, hij, hi, hj => by
    rw [List.pairwise_cons] at hp
    cases i with
    | zero =>
      cases j with
      | zero => exact absurd rfl hij
      | succ j =>
        simp only [List.getElem?_cons_zero, Option.some.injEq] at hi
        simp only [List.getElem?_cons_succ] at hj
        subst hi
        exact hp.1 b (List.mem_of_getElem? hj)
    | succ i =>
      simp only [List.getElem?_cons_succ] at hi
      cases j with
      | zero =>
        simp only [List.getElem?_cons_zero, Option.some.injEq] at hj
        subst hj
        exact hs _ _ (hp.1 a (List.mem_of_getElem? hi))
      | succ j =>
        simp only [List.getElem?_cons_succ] at hj
        exact pairwise_get hs hp.2 (by omega) hi hj
/-- the state of a call's begin -/
theorem Items.st {w : World} {I F : Nat → Prop} {L : List Item} (h : Items w I F L) (hcl : ∀ i ∈ L, ∀ g cs, i.sv ≠ .clo g cs) {e : Env} (he : ∀ n, e.get n = (itemAt L n).z) {a : Nat → Value} (ha : ∀ n, n < L.length → a n = (itemAt L n).v) :
    St w a e (fun n => (itemAt L n).γ) I F (fun _ => False) (fun _ => False) := by
  have mem : ∀ n, n < L.length → ∃ i, L[n]? = some i ∧ i ∈ L ∧ itemAt L n = i := fun n hn => ⟨L[n], List.getElem?_eq_getElem hn, List.getElem_mem _, by simp [itemAt, hn]⟩
  have out : ∀ n, ¬ n < L.length → itemAt L n = noItem := fun n hn => by simp [itemAt, List.getElem?_eq_none (Nat.le_of_not_lt hn)]
  have own : ∀ n b, OwnS (e.get n) (itemAt L n).γ b → n < L.length := fun n b hb => by
    rcases Nat.lt_or_ge n L.length with h | h
    · exact h
    · rw [he, out n (by omega)] at hb; exact hb.elim
  refine ⟨fun n _ => ?_, fun n k r v s d p t hr => ?_, fun n n' b _ _ hne h1 h2 => ?_, fun _ _ _ _ k => k, fun n b _ hb => ?_, fun _ k => k.elim, h.imm, h.new, ⟨fun n g cs hn => ?_⟩⟩
  · rw [he]
    rcases Nat.lt_or_ge n L.length with hn | hn
    · rw [ha n hn]
      obtain ⟨i, _, hi, e1⟩ := mem n hn
      rw [e1]; exact h.ok i hi
    · rw [out n (by omega)]; trivial
  · rw [he] at hr
    rcases Nat.lt_or_ge n L.length with hn | hn
    · obtain ⟨i, _, hi, e1⟩ := mem n hn
      rw [e1] at hr
      exact absurd hr (h.noref i hi _ _ _ _ _ _ _)
    · rw [out n (by omega)] at hr; cases hr
  · obtain ⟨i, hi, _, e1⟩ := mem n (own n b h1)
    obtain ⟨j, hj, _, e2⟩ := mem n' (own n' b h2)
    rw [he, e1] at h1
    rw [he, e2] at h2
    exact pairwise_get (R := fun i j => ∀ b, OwnS i.z i.γ b → ¬ OwnS j.z j.γ b) (fun a b k q h1 h2 => k q h2 h1) h.sep hne hi hj b h1 h2
  · obtain ⟨i, _, hi, e1⟩ := mem n (own n b hb)
    rw [he, e1] at hb
    exact h.lv i hi b hb
  · rw [he] at hn
    rcases Nat.lt_or_ge n L.length with hl | hl
    · obtain ⟨i, _, hi, e1⟩ := mem n hl
      rw [e1] at hn
      exact absurd hn (hcl i hi _ _)
    · rw [out n (by omega)] at hn; cases hn

/-- what a function's slots hold at its begin -/
def insSV : List PSig → List ((t : Ty) × t.den) → Option (List SV)
  | [], [] => some []
  | .val t :: r, d :: ds => (d.1.cast t d.2).bind fun x => (insSV r ds).bind fun l => some (.val .reg t (if t.flat then .sh false else .sh true) x :: l)
  | .mv t m :: r, d :: ds => (d.1.cast t d.2).bind fun x => (insSV r ds).bind fun l => some (.val .reg t m x :: l)
  | .io t m :: r, d :: ds => (d.1.cast t d.2).bind fun x => (insSV r ds).bind fun l => some (.val .reg t m x :: l)
  | .pio t m _ :: r, d :: ds => (d.1.cast t d.2).bind fun x => (insSV r ds).bind fun l => some (.val .box t m x :: l)
  | .fn g [] :: r, ds => (insSV r ds).bind fun l => some (.fn g [] :: l)
  | .pin f t :: r, d :: ds => (d.1.cast t d.2).bind fun x => (insSV r ds).bind fun l => some (.val (.pin f) t (if t.flat then .sh false else .sh true) x :: l)
  | _, _ => none
/-- what comes back: the results, then what was handed in and out -/
def resSV : List RSig → List ((t : Ty) × t.den) → Option (List SV)
  | [], [] => some []
  | .val t m :: r, d :: ds => (d.1.cast t d.2).bind fun x => (resSV r ds).bind fun l => some (.val .reg t m x :: l)
  | .ptr t m :: r, d :: ds => (d.1.cast t d.2).bind fun x => (resSV r ds).bind fun l => some (.val .box t m x :: l)
  | _, _ => none
def backSV : List PSig → List ((t : Ty) × t.den) → Option (List SV)
  | [], [] => some []
  | .io t m :: r, d :: ds => (d.1.cast t d.2).bind fun x => (backSV r ds).bind fun l => some (.val .reg t m x :: l)
  | .pio t _ m :: r, d :: ds => (d.1.cast t d.2).bind fun x => (backSV r ds).bind fun l => some (.val .box t m x :: l)
  | .val _ :: r, ds => backSV r ds
  | .mv _ _ :: r, ds => backSV r ds
  | .fn _ _ :: r, ds => backSV r ds
  | .pin _ _ :: r, ds => backSV r ds
  | _, _ => none
/-- of the arguments' values, those that are handed in and out -/
def backOf {α : Type} : List PSig → List α → List α
  | .io _ _ :: r, v :: vs => v :: backOf r vs
  | .pio _ _ _ :: r, v :: vs => v :: backOf r vs
  | _ :: r, _ :: vs => backOf r vs
  | _, _ => []
def retV (vs : List Value) : Value := match vs with
  | [v] => v
  | vs => .tuple vs.toArray
/-- the world goes on; told besides, if D: that nothing drawn is given back -/
structure Wx (D : Prop) (I F : Nat → Prop) (w w' : World) : Prop where
  os : w'.os = w.os
  tape : w'.tape = w.tape
  output : w'.output = w.output
  size : w.heap.size ≤ w'.heap.size
  drawn : D → w.drawn ≤ w'.drawn
  old : ∀ b, b < w.heap.size → (I b ∨ ¬ F b) → w'.heap[b]? = w.heap[b]?
theorem Wk.x {D : Prop} {I F : Nat → Prop} {w w' : World} (h : Wk I F w w') : Wx D I F w w' := ⟨h.os, h.tape, h.output, h.size, fun _ => h.drawn, h.old⟩
theorem Wx.refl (D : Prop) (I F : Nat → Prop) (w : World) : Wx D I F w w := (Wk.refl I F w).x
theorem Wx.trans {D : Prop} {I I' F : Nat → Prop} {w w' w'' : World} (h : Wx D I F w w') (k : Wx D I' F w' w'') (hI : ∀ b, I b → I' b) : Wx D I F w w'' :=
  ⟨k.os.trans h.os, k.tape.trans h.tape, k.output.trans h.output, Nat.le_trans h.size k.size, fun d => Nat.le_trans (h.drawn d) (k.drawn d), fun b hb hF => (k.old b (Nat.lt_of_lt_of_le hb h.size) (hF.imp (hI b) id)).trans (h.old b hb hF)⟩
/-- what is known of some blocks that no call writes -/
structure Told where
  dr : Prop
  D : Nat → Prop
  K : World → Prop
  keep : ∀ w w' : World, (∀ b, D b → w'.heap[b]? = w.heap[b]?) → K w → K w'
structure TOk (τ : Told) (F : Nat → Prop) (w : World) : Prop where
  k : τ.K w
  d : ∀ b, τ.D b → b < w.heap.size ∧ ¬ F b
theorem TOk.wk {τ : Told} {I F : Nat → Prop} {w w' : World} (h : TOk τ F w) (k : Wx τ.dr I F w w') : TOk τ F w' :=
  ⟨τ.keep w w' (fun b hb => k.old b (h.d b hb).1 (.inr (h.d b hb).2)) h.k, fun b hb => ⟨Nat.lt_of_lt_of_le (h.d b hb).1 k.size, (h.d b hb).2⟩⟩
theorem TOk.less {τ : Told} {F F' : Nat → Prop} {w : World} (h : TOk τ F w) (k : ∀ b, F' b → F b) : TOk τ F' w := ⟨h.k, fun b hb => ⟨(h.d b hb).1, fun c => (h.d b hb).2 (k b c)⟩⟩
def noTold : Told := ⟨True, fun _ => False, fun _ => True, fun _ _ _ _ => trivial⟩
theorem noTold_ok {F : Nat → Prop} {w : World} : TOk noTold F w := ⟨trivial, fun _ h => h.elim⟩
/-- the arguments' values: closures over what is told in their places -/
def packV : List (Option (Nat × Nat)) → List Value → List Value
  | [], vs => vs
  | none :: l, v :: vs => v :: packV l vs
  | none :: l, [] => packV l []
  | some (g, k) :: l, vs => .func (.func g) #[] (vs.take k).toArray :: packV l (vs.drop k)
/-- a call of the n-th function at these data yields those -/
def Holds (P : Program) (Γ : Ctx) (τ : Told) (n : Nat) (a : (prodTy (Γ.insL n)).den) (r : (prodTy (Γ.outsL n)).den) : Prop :=
  ∀ σ, Γ.sigs[n]? = some σ → ∀ (w : World) (I F : Nat → Prop) (L : List Item), insSV σ.params (unProd (Γ.insL n) a) = some (L.map Item.sv) → Items w I F L → TOk τ F w →
    Calls P σ.fid (packV σ.clos (L.map Item.v)).toArray w fun e w' => match e with
      | .returned v => Wx τ.dr I F w w' ∧ ∃ (J : Nat → Prop) (M N : List Item), resSV σ.results ((unProd (Γ.outsL n) r).take σ.results.length) = some (M.map Item.sv) ∧ backSV σ.params ((unProd (Γ.outsL n) r).drop σ.results.length) = some (N.map Item.sv) ∧
          Items w' J F (M ++ N) ∧ (∀ b, J b → F b ∨ (σ.retain = true ∧ I b)) ∧ v = retV (M.map Item.v) ∧ N.map Item.v = backOf σ.params (L.map Item.v) ∧ (∀ i ∈ M ++ N, ∀ b, OwnS i.z i.γ b → ¬ I b)
      | _ => False
def Good (P : Program) (Γ : Ctx) (τ : Told) (O : Fun Γ) : Prop := ∀ n a r, O n a = some r → Holds P Γ τ n a r
end Go.Den
/-
  Operations in their order, code, loops: what the evaluator tells is what the machine does.
-/
namespace Go.Den
open Go
set_option linter.unusedVariables false
set_option linter.unusedSimpArgs false

/-- a frame under way: the world since the call's begin, the slots, what is held -/
structure FS (τ : Told) (w0 : World) (I0 F : Nat → Prop) (σ : Sig) (v0 : Nat → Value) (A : Act) (w : World) (e : Env) : Prop where
  st : ∃ γ I, St w (av A) e γ I F (fun _ => False) (fun _ => False) ∧ (∀ b, I0 b → I b) ∧ (∀ b, I b → I0 b ∨ F b)
  wk : Wx τ.dr I0 F w0 w
  size : σ.fn.ntmps ≤ A.tmps.size
  defers : A.defers = []
  held : ∀ j ∈ σ.held, av A j = v0 j
  told : TOk τ F w

section
variable {τ : Told} {P : Program} {Γ : Ctx} {O : Fun Γ} {R : Type} {w w' w0 : World} {A : Act} {e : Env} {I0 F : Nat → Prop} {r : R} {o : Oper} {next : Act → World → Prop} {Q : Exit → Act → World → Prop} {σ : Sig} {v0 : Nat → Value}

/-- a call does what is told of it -/
def CallsOk (P : Program) (Γ : Ctx) (τ : Told) (O : Fun Γ) : Prop :=
  ∀ {R : Type} {r : R} {w : World} {A : Act} {e : Env} {γ : Nat → Gs} {I F : Nat → Prop} {o : Oper} {next : Act → World → Prop} {Q : Exit → Act → World → Prop} {k : Unit → Env → Option R} (f : Operand) (as : Array Operand) (ts : Array TypeId),
    St w (av A) e γ I F (fun _ => False) (fun _ => False) → TOk τ F w → o.op = .call ⟨.value f, as, ts⟩ → (callAny (Γ := Γ) o.dst f as.toList).run O e k = some r →
    (∀ v w', Wx τ.dr I F w w' → Done k r w' (outP o.dst (av A) v) I F (fun _ => False) → next (A.put o.dst v) w') → o.wp P A w next Q
theorem put_size {d : Option Tmp} {v : Value} : (A.put d v).tmps.size = A.tmps.size := by cases d <;> simp [Act.put]
theorem put_defers {d : Option Tmp} {v : Value} : (A.put d v).defers = A.defers := by cases d <;> rfl
theorem FS.step (S : FS τ w0 I0 F σ v0 A w e) (ho : okDst σ o = true) {I : Nat → Prop} (hI : ∀ b, I0 b → I b) (hI' : ∀ b, I b → I0 b ∨ F b) {v : Value} (hw : Wx τ.dr I F w w') {k : Unit → Env → Option R} (hD : Done k r w' (outP o.dst (av A) v) I F (fun _ => False)) :
    ∃ e', k () e' = some r ∧ FS τ w0 I0 F σ v0 (A.put o.dst v) w' e' := by
  obtain ⟨e', γ', I', h1, h2, h3, h4⟩ := hD
  have hd : ∀ n, o.dst = some n → n < A.tmps.size ∧ n ∉ σ.held := fun n hn => by
    unfold okDst at ho
    rw [hn] at ho
    simp only [Bool.and_eq_true, decide_eq_true_eq, Bool.not_eq_true', List.contains_eq_mem, decide_eq_false_iff_not] at ho
    exact ⟨Nat.lt_of_lt_of_le ho.1 S.size, ho.2⟩
  have hav := av_put (A := A) (d := o.dst) (v := v) fun n hn => (hd n hn).1
  refine ⟨e', h1, ⟨γ', I', by rw [hav]; exact h2, fun b hb => h3 b (hI b hb), fun b hb => (h4 b hb).elim (hI' b) .inr⟩, S.wk.trans hw hI, by rw [put_size]; exact S.size, by rw [put_defers]; exact S.defers, fun j hj => ?_, S.told.wk hw⟩
  rw [hav]
  cases hn : o.dst with
  | none => exact S.held j hj
  | some n =>
    have : j ≠ n := fun c => (hd n hn).2 (c ▸ hj)
    simp only [outP, upd_ne _ _ this]
    exact S.held j hj

theorem FS.env (S : FS τ w0 I0 F σ v0 A w e) {e' : Env} (h : ∀ n, e'.get n = e.get n) : FS τ w0 I0 F σ v0 A w e' := by
  obtain ⟨γ, I, h1, h2⟩ := S.st
  exact ⟨⟨γ, I, h1.env h, h2⟩, S.wk, S.size, S.defers, S.held, S.told⟩
theorem bool_slot {γ : Nat → Gs} {I H Ω : Nat → Prop} (S : St w (av A) e γ I F H Ω) {n : Nat} (hn : ¬ H n) {ve s d : Nat} {m : Md} {b : Bool} (h : e.get n = ⟨ve, s, d, .val .reg .bool m b⟩) : A.tmps[n]? = some (.bool b) := by
  have := S.slot n hn
  rw [h] at this
  have hv : av A n = .bool b := this.1
  unfold av at hv
  rw [Array.getD_eq_getD_getElem?] at hv
  cases hx : A.tmps[n]? with
  | none => rw [hx] at hv; cases hv
  | some v => rw [hx] at hv; exact congrArg some hv
theorem und_slot {γ : Nat → Gs} {I H Ω : Nat → Prop} (S : St w (av A) e γ I F H Ω) {n : Nat} (hn : ¬ H n) {ve s d : Nat} (h : e.get n = ⟨ve, s, d, .und⟩) : A.tmps[n]? = none ∨ A.tmps[n]? = some undef := by
  have := S.slot n hn
  rw [h] at this
  have hv : av A n = undef := this
  unfold av at hv
  rw [Array.getD_eq_getD_getElem?] at hv
  cases hx : A.tmps[n]? with
  | none => exact .inl rfl
  | some v => rw [hx] at hv; exact .inr (congrArg some hv)
theorem stepM_ok (hT : TysOk P Γ) (hC : CallsOk P Γ τ O) {ops : Array Oper} {i reg : Nat} (hi : ops[i]? = some o) (S : FS τ w0 I0 F σ v0 A w e) {k : Unit → Env → Option R} (h : (stepM Γ σ reg ops.toList i o).run O e k = some r)
    (hnext : ∀ A' w' e', FS τ w0 I0 F σ v0 A' w' e' → k () e' = some r → next A' w') : wpOp P ops Q i next A w := by
  unfold stepM at h
  split at h
  · rename_i hok
    obtain ⟨γ, I, St0, hI, hI'⟩ := S.st
    have nf : ∀ n : Nat, ¬ (fun _ : Nat => False) n := fun _ => id
    have run : (opM Γ σ reg i o).run O e k = some r → o.wp P A w next Q := fun h =>
      opM_ok hT St0 nf h (fun f as ts ho h => hC f as ts St0 S.told ho h fun v w' hw hD => by
        obtain ⟨e', h1, h2⟩ := S.step hok hI hI' hw hD
        exact hnext _ _ _ h2 h1) fun v w' hw hD => by
        obtain ⟨e', h1, h2⟩ := S.step hok hI hI' hw.x hD
        exact hnext _ _ _ h2 h1
    have skip : (out (Γ := Γ) o.dst .und).run O e k = some r → next (A.put o.dst undef) w := fun h => by
      obtain ⟨e', h1, h2⟩ := S.step hok hI hI' (Wx.refl _ _ _ _) (Done.of (outUnd_ok St0 nf h))
      exact hnext _ _ _ h2 h1
    unfold wpOp
    rw [hi]
    simp only
    unfold guardM at h
    cases hg : o.guard with
    | none =>
      rw [hg] at h
      have hw : Region.wanted o (yielded ops A.tmps) = true := by simp [Region.wanted, hg]
      rw [if_pos hw]
      exact .inl (run h)
    | some jw =>
      obtain ⟨j, want⟩ := jw
      rw [hg] at h
      simp only at h
      cases hs : (ops.toList[j]?).bind Oper.dst with
      | none => rw [hs] at h; cases h
      | some s =>
        rw [hs] at h
        rw [Array.getElem?_toList] at hs
        simp only [M.run] at h
        have hy : yielded ops A.tmps j = match A.tmps[s]? with | some (.bool b) => some b | _ => none := by
          unfold yielded
          have : ((ops[j]?).bind fun x => x.dst) = some s := hs
          rw [this]; rfl
        generalize hz : e.get s = z at h
        obtain ⟨ve, sv, dv, z⟩ := z
        simp only at h
        split at h
        · rename_i m b
          have hb := bool_slot St0 (nf s) hz
          rw [hb] at hy
          simp only at hy
          rcases run_ite h with ⟨hc, h⟩ | ⟨hc, h⟩
          · have hw : Region.wanted o (yielded ops A.tmps) = true := by simp [Region.wanted, hg, hy]; simpa using hc
            rw [if_pos hw]
            exact .inl (run h)
          · have hw : ¬ Region.wanted o (yielded ops A.tmps) = true := by simp [Region.wanted, hg, hy]; simpa using hc
            rw [if_neg hw]
            exact skip h
        · have hu := und_slot St0 (nf s) hz
          have hy' : yielded ops A.tmps j = none := by
            rw [hy]; rcases hu with hu | hu <;> rw [hu] <;> rfl
          have hw : ¬ Region.wanted o (yielded ops A.tmps) = true := by simp [Region.wanted, hg, hy']
          rw [if_neg hw]
          exact skip h
        · cases h
  · cases h
theorem fork_ok {b : Bool} {d : Option Nat} {k : Env → Option R} (h : fork b d k e = some r) (S : FS τ w0 I0 F σ v0 A w e) : ∃ e', FS τ w0 I0 F σ v0 A w e' ∧ k e' = some r := by
  unfold fork at h
  cases b with
  | false => exact ⟨e, S, h⟩
  | true =>
    simp only [if_true] at h
    cases d with
    | none => exact ⟨e, S, h⟩
    | some d =>
      simp only at h
      split at h
      · rename_i ve s dv m x heq
        have : ∀ n, (e.set d ⟨ve, s, dv, .val .reg .bool m x⟩).get n = e.get n := fun n => by
          rw [Env.get_set]
          split
          · rename_i hn; rw [hn, heq]
          · rfl
        cases x with
        | true => exact ⟨_, S.env this, h⟩
        | false => exact ⟨_, S.env this, h⟩
      · exact ⟨e, S, h⟩
theorem runOps_ok (hT : TysOk P Γ) (hC : CallsOk P Γ τ O) {ops : Array Oper} {reg : Nat} {k : Env → Option R} (hk : ∀ A w e, FS τ w0 I0 F σ v0 A w e → k e = some r → Q .normal A w) :
    ∀ (l : List Oper) (i : Nat) {A : Act} {w : World} {e : Env}, l = ops.toList.drop i → FS τ w0 I0 F σ v0 A w e → runOps Γ O σ reg ops.toList l i k e = some r → wpOps P ops Q (List.range' i l.length) A w
  | [], i, A, w, e, _, S, h => hk A w e S h
  | o :: l, i, A, w, e, hl, S, h => by
    have hi : ops[i]? = some o := by
      have := congrArg (fun z => z[0]?) hl
      simp only [List.getElem?_cons_zero, List.getElem?_drop, Nat.add_zero, Array.getElem?_toList] at this
      exact this.symm
    have hl' : l = ops.toList.drop (i + 1) := by
      have := congrArg (List.drop 1) hl
      simp only [List.drop_succ_cons, List.drop_zero, List.drop_drop] at this
      exact this
    rw [List.length_cons, List.range'_succ, wpOps_cons]
    refine stepM_ok hT hC hi S h fun A' w' e' S' h' => ?_
    obtain ⟨e2, S2, h2⟩ := fork_ok h' S'
    exact runOps_ok hT hC hk l (i + 1) hl' S2 h2
end
end Go.Den
/-
  Loops' heads: what is carried round, in the told shape.
-/
namespace Go.Den
open Go
set_option linter.unusedVariables false
set_option linter.unusedSimpArgs false

theorem norm_get {e : Env} : ∀ {l : List (Nat × Shape)} {e2 : Env}, norm e l = some e2 → ∀ n, match l.find? (fun x => decide (x.1 = n)) with
    | none => e2.get n = ⟨0, 0, 0, .no⟩
    | some x => ∃ sv, shapeM e (e.get n) x.2 = some sv ∧ e2.get n = ⟨0, 0, 0, sv⟩
  | [], e2, h, n => by
    simp only [norm, Option.some.injEq] at h
    subst h; rfl
  | (i, s) :: l, e2, h, n => by
    simp only [norm] at h
    obtain ⟨v, hv, h⟩ := Option.bind_eq_some_iff.1 h
    obtain ⟨e', he', h⟩ := Option.bind_eq_some_iff.1 h
    cases h
    simp only [List.find?_cons]
    by_cases c : i = n
    · subst c
      simp only [decide_true]
      exact ⟨v, hv, by simp [Env.get]⟩
    · simp only [c, decide_false]
      have := norm_get he' n
      have hg : Env.get ((i, ⟨0, 0, 0, v⟩) :: e') n = e'.get n := by simp [Env.get, c]
      rw [hg]
      exact this
theorem shapes_ref {all : List (Nat × Shape)} : ∀ {l : List (Nat × Shape)}, shapesOk l all = true → ∀ x ∈ l, ∀ k r p t, x.2 = .ref k r p t → ∃ y kk T M, all.find? (fun x => decide (x.1 = r)) = some y ∧ y.2 = .val kk T M
  | [], _, x, hx, _, _, _, _, _ => by cases hx
  | (n, s) :: l, h, x, hx, k, r, p, t, hs => by
    have tail : shapesOk l all = true := by
      cases s <;> simp only [shapesOk, Bool.and_eq_true] at h <;> first | exact h.2 | exact h
    rcases List.mem_cons.1 hx with rfl | hx
    · simp only at hs
      subst hs
      simp only [shapesOk, Bool.and_eq_true] at h
      have h1 := h.1
      split at h1
      · rename_i n' kk T M heq
        exact ⟨_, kk, T, M, heq, rfl⟩
      · cases h1
    · exact shapes_ref tail x hx k r p t hs

theorem shapes_row {all : List (Nat × Shape)} : ∀ {l : List (Nat × Shape)}, shapesOk l all = true → ∀ x ∈ l, ∀ k r t, x.2 = .row k r t → ∃ y kk T M, all.find? (fun x => decide (x.1 = r)) = some y ∧ y.2 = .val kk T M
  | [], _, x, hx, _, _, _, _ => by cases hx
  | (n, s) :: l, h, x, hx, k, r, t, hs => by
    have tail : shapesOk l all = true := by
      cases s <;> simp only [shapesOk, Bool.and_eq_true] at h <;> first | exact h.2 | exact h
    rcases List.mem_cons.1 hx with rfl | hx
    · simp only at hs
      subst hs
      simp only [shapesOk, Bool.and_eq_true] at h
      have h1 := h.1
      split at h1
      · rename_i n' kk T M heq
        exact ⟨_, kk, T, M, heq, rfl⟩
      · cases h1
    · exact shapes_row tail x hx k r t hs

section
variable {τ : Told} {P : Program} {Γ : Ctx} {O : Fun Γ} {R : Type} {w w' w0 : World} {A : Act} {e e2 : Env} {I0 F : Nat → Prop} {r : R} {Q : Exit → Act → World → Prop} {σ : Sig} {v0 : Nat → Value}

theorem norm_st {a : Nat → Value} {γ : Nat → Gs} {I : Nat → Prop} (S : St w a e γ I F (fun _ => False) (fun _ => False)) {l : List (Nat × Shape)} (h : norm e l = some e2) (hs : shapesOk l l = true) :
    ∃ γ2 I2, St w a e2 γ2 I2 F (fun _ => False) (fun _ => False) ∧ (∀ b, I b → I2 b) ∧ ∀ b, I2 b → I b ∨ F b := by
  have nf : ∀ n : Nat, ¬ (fun _ : Nat => False) n := fun _ => id
  have G := norm_get h
  -- each slot: as it was, coerced, or nothing
  have key : ∀ n, (e2.get n = ⟨0, 0, 0, .no⟩) ∨ (∃ k t m m' x, (e.get n).sv = .val k t m' x ∧ t.coer m' m = true ∧ e2.get n = ⟨0, 0, 0, .val k t m x⟩ ∧ (k.lent = true → m' = m)) ∨
      (∃ el m, (e.get n).sv = .nil ∧ (Ty.sl el).coer (.own el.mine) m = true ∧ e2.get n = ⟨0, 0, 0, .val .reg (.sl el) m ([] : List el.den)⟩) ∨
      (∃ k r v s d p t y kk T M, (e.get n).sv = .ref k r v s d p t ∧ refOk k p t v s d (e.get r) = true ∧ e2.get n = ⟨0, 0, 0, .ref k r 0 0 0 p t⟩ ∧ l.find? (fun x => decide (x.1 = r)) = some y ∧ y.2 = .val kk T M) ∨
      (∃ g cs, (e.get n).sv = .fn g cs ∧ e2.get n = ⟨0, 0, 0, .fn g cs⟩) ∨
      (∃ g cs, (e.get n).sv = .clo g cs ∧ (cs.all fun c => decide ((e.get c.1).ver = c.2)) = true ∧ e2.get n = ⟨0, 0, 0, .clo g (cs.map fun c => (c.1, 0))⟩) := by
    intro n
    have g := G n
    cases hf : l.find? (fun x => decide (x.1 = n)) with
    | none => rw [hf] at g; exact .inl g
    | some x =>
      rw [hf] at g
      obtain ⟨sv, h1, h2⟩ := g
      obtain ⟨i, s⟩ := x
      simp only at h1
      cases s with
      | val k t m =>
        unfold shapeM at h1
        simp only at h1
        split at h1
        · rename_i k' t' m' x heq
          split at h1
          · rename_i hc
            simp only [Bool.and_eq_true, decide_eq_true_eq] at hc
            obtain ⟨⟨hk, hc⟩, hlm⟩ := hc
            obtain ⟨y, hy, h1⟩ := Option.bind_eq_some_iff.1 h1
            unfold Ty.cast at hy
            split at hy
            · rename_i ht
              subst ht; subst hk
              cases hy; cases h1
              exact .inr (.inl ⟨k, t', m, m', x, heq, hc, h2, fun hl => by simpa [hl] using hlm⟩)
            · cases hy
          · cases h1
        · rename_i heq
          split at h1
          · rename_i el
            split at h1
            · rename_i hc
              cases h1
              exact .inr (.inr (.inl ⟨el, m, heq, hc, h2⟩))
            · cases h1
          · cases h1
        · cases h1
      | ref k r p t =>
        unfold shapeM at h1
        simp only at h1
        split at h1
        · rename_i k' r' v s d p' t' heq
          split at h1
          · rename_i hc
            simp only [Bool.and_eq_true, decide_eq_true_eq] at hc
            obtain ⟨⟨⟨⟨rfl, rfl⟩, rfl⟩, rfl⟩, hc⟩ := hc
            cases h1
            obtain ⟨y, kk, T, M, y1, y2⟩ := shapes_ref hs _ (List.mem_of_find?_eq_some hf) k r p t rfl
            exact .inr (.inr (.inr (.inl ⟨k, r, v, s, d, p, t, y, kk, T, M, heq, hc, h2, y1, y2⟩)))
          · cases h1
        · cases h1
      | row k r t =>
        unfold shapeM at h1
        simp only at h1
        split at h1
        · rename_i k' r' v s d p' t' heq
          split at h1
          · rename_i hc
            simp only [Bool.and_eq_true, decide_eq_true_eq] at hc
            obtain ⟨⟨⟨rfl, rfl⟩, rfl⟩, hc⟩ := hc
            cases h1
            obtain ⟨y, kk, T, M, y1, y2⟩ := shapes_row hs _ (List.mem_of_find?_eq_some hf) k r t rfl
            exact .inr (.inr (.inr (.inl ⟨k, r, v, s, d, p', t, y, kk, T, M, heq, hc, h2, y1, y2⟩)))
          · cases h1
        · cases h1
      | fn g cs =>
        unfold shapeM at h1
        simp only at h1
        split at h1
        · rename_i g' cs' heq
          split at h1
          · rename_i hc
            simp only [Bool.and_eq_true, decide_eq_true_eq] at hc
            obtain ⟨rfl, rfl⟩ := hc
            cases h1
            exact .inr (.inr (.inr (.inr (.inl ⟨g, cs, heq, h2⟩))))
          · cases h1
        · cases h1
      | clo g cs =>
        unfold shapeM at h1
        simp only at h1
        split at h1
        · rename_i g' cs' heq
          split at h1
          · rename_i hc
            simp only [Bool.and_eq_true, decide_eq_true_eq] at hc
            obtain ⟨⟨rfl, hc1⟩, hc2⟩ := hc
            cases h1
            refine .inr (.inr (.inr (.inr (.inr ⟨g, cs', heq, hc2, ?_⟩))))
            rw [h2, ← hc1, List.map_map]
            rfl
          · cases h1
        · cases h1
  -- where the rows lie now
  let γ2 : Nat → Gs := fun n => match (e.get n).sv with
    | .nil => ⟨none, .lf⟩
    | _ => γ n
  have γv : ∀ n k t m x, (e.get n).sv = .val k t m x → γ2 n = γ n := fun n k t m x hv => by simp only [γ2, hv]
  have γn : ∀ n, (e.get n).sv = .nil → γ2 n = ⟨none, .lf⟩ := fun n hv => by simp only [γ2, hv]
  have ow : ∀ n b, OwnS (e2.get n) (γ2 n) b → OwnS (e.get n) (γ n) b := fun n b hb => by
    rcases key n with h0 | ⟨k, t, m, m', x, h1, h2, h3, hlm⟩ | ⟨el, m, h1, h2, h3⟩ | ⟨k, r, v, s, d, p, t, y, kk, T, M, h1, h2, h3, _⟩ | ⟨g, cs, h1, h3⟩ | ⟨g, cs, h1, _, h3⟩
    · rw [h0] at hb; exact hb.elim
    · rw [h3, γv n _ _ _ _ h1, OwnS.val] at hb
      have : OwnS (e.get n) (γ n) b ↔ boxed k (γ n) b ∨ Own t m' (γ n).g b := by
        generalize e.get n = z at h1
        obtain ⟨_, _, _, z⟩ := z
        simp only at h1; subst h1
        exact OwnS.val
      rw [this]
      exact hb.imp id fun hb => hb.coer h2
    · rw [h3, γn n h1, OwnS.val] at hb
      rcases hb with (⟨hb, _⟩ | ⟨hb, _⟩) | hb
      · cases hb
      · cases hb
      · exact absurd (hb.coer h2) ((dflt_ok (w := w) (I := I) (F := F) (.sl el)).2.2 b)
    · rw [h3] at hb; exact hb.elim
    · rw [h3] at hb; exact hb.elim
    · rw [h3] at hb; exact hb.elim
  let I2 : Nat → Prop := fun b => I b ∨ ∃ n, OwnS (e.get n) (γ n) b ∧ ¬ OwnS (e2.get n) (γ2 n) b
  have hI2 : ∀ n b, OwnS (e2.get n) (γ2 n) b → ¬ I2 b := fun n b hb k => by
    rcases k with k | ⟨n', k1, k2⟩
    · exact (S.lv n b (nf n) (ow n b hb)).2.1 k
    · by_cases c : n = n'
      · subst c; exact k2 hb
      · exact S.sep n n' b (nf n) (nf n') c (ow n b hb) k1
  refine ⟨γ2, I2, ⟨fun n _ => ?_, fun n k r v s d p t hr => ?_, fun n n' b _ _ hne h1 h2 => S.sep n n' b (nf n) (nf n') hne (ow n b h1) (ow n' b h2), fun _ _ _ _ k => k, fun n b _ hb => ?_, fun _ k => k.elim, fun b hb => ?_, S.new, ⟨fun n g cs hn => ?_⟩⟩, fun b hb => .inl hb, fun b hb => ?_⟩
  · rcases key n with h0 | ⟨k, t, m, m', x, h1, h2, h3, hlm⟩ | ⟨el, m, h1, h2, h3⟩ | ⟨k, r, v, s, d, p, t, y, kk, T, M, h1, h2, h3, _⟩ | ⟨g, cs, h1, h3⟩ | ⟨g, cs, h1, _, h3⟩
    · rw [h0]; trivial
    · have slot := S.slot n (nf n)
      have hgv := γv n _ _ _ _ h1
      by_cases hlent : k.lent = true
      · have hmm := hlm hlent
        subst hmm
        have he : e.get n = ⟨(e.get n).ver, (e.get n).sver, (e.get n).dver, .val k t m' x⟩ := by rw [← h1]
        rw [h3, hgv]
        have hI : ∀ b, I b → I2 b := fun b hb => .inl hb
        have s' := slot.mono hI
        unfold SlotOk at s' ⊢
        rw [h1] at s'
        exact s'
      replace hlent : k.lent = false := by simpa using hlent
      have lost : ∀ b, Own t m' (γ n).g b → ¬ Own t m (γ n).g b → (∀ a, (γ n).b = some a → k = .box → a.block ≠ b) → I2 b := fun b hb hnb hbx => by
        refine .inr ⟨n, ?_, ?_⟩
        · generalize e.get n = z at h1
          obtain ⟨_, _, _, z⟩ := z
          simp only at h1; subst h1
          exact OwnS.val.2 (.inr hb)
        · rw [h3, hgv, OwnS.val]
          rintro (hb' | hb')
          · obtain ⟨hk, a', ha, hab⟩ := hb'.box hlent
            exact hbx a' ha hk hab
          · exact hnb hb'
      have hF : ∀ b, Own t m' (γ n).g b → F b := fun b hb => by
        refine (S.lv n b (nf n) ?_).1
        generalize e.get n = z at h1
        obtain ⟨_, _, _, z⟩ := z
        simp only at h1; subst h1
        exact OwnS.val.2 (.inr hb)
      rw [h3, hgv]
      unfold SlotOk at slot ⊢
      rw [h1] at slot
      obtain ⟨s1, s2, s3, s4⟩ := slot
      have hbox : ∀ a, (γ n).b = some a → k = .box → ¬ Own t m' (γ n).g a.block := fun a ha hk => by
        subst hk
        obtain ⟨a', C, te, ha', _, _, _, hno⟩ := s4
        rw [ha] at ha'; cases ha'; exact hno
      refine ⟨s1, s2.coer h2 s3 (fun b hb => .inl hb) hF fun b hb hnb => lost b hb hnb fun a ha hk c => hbox a ha hk (c ▸ hb), s3.coer h2, ?_⟩
      cases k with
      | box =>
        obtain ⟨a', C, te, q1, q2, q3, q4, q5⟩ := s4
        exact ⟨a', C, te, q1, q2, q3, q4, fun c => q5 (c.coer h2)⟩
      | reg => exact s4
      | tup => exact s4
      | map => cases hlent
      | pin f => cases hlent
    · have slot := S.slot n (nf n)
      unfold SlotOk at slot
      rw [h1] at slot
      rw [h3, γn n h1]
      obtain ⟨d1, d2, d3⟩ := dflt_ok (w := w) (I := I) (F := F) (.sl el)
      have hb0 : ∀ b, ¬ Own (.sl el) (.own el.mine) .lf b := d3
      exact ⟨slot, Mem.coer h2 d1 d2 (fun b hb => .inl hb) (fun b hb => absurd hb (hb0 b)) (fun b hb => absurd hb (hb0 b)), Sep.coer h2 d2, rfl⟩
    · rw [h3]; trivial
    · have slot := S.slot n (nf n)
      unfold SlotOk at slot
      rw [h1] at slot
      rw [h3]
      exact slot
    · rw [h3]; trivial
  · rcases key n with h0 | ⟨k', t', m, m', x, h1, h2, h3, hlm⟩ | ⟨el, m, h1, h2, h3⟩ | ⟨k', r', v', s', d', p', t', y, kk, T, M, h1, h2, h3, y1, y2⟩ | ⟨g, cs, h1, h3⟩ | ⟨g, cs, h1, _, h3⟩
    · rw [h0] at hr; cases hr
    · rw [h3] at hr; cases hr
    · rw [h3] at hr; cases hr
    · rw [h3] at hr
      cases hr
      obtain ⟨q1, q2⟩ := S.ref n _ _ _ _ _ _ _ h1
      obtain ⟨kk', T', M', X', z1, z2⟩ := q2 h2
      have hk := key r
      have g := G r
      rw [y1] at g
      obtain ⟨sv, g1, g2⟩ := g
      rcases hk with h0 | ⟨k2, t2, m2, m2', x2, w1, w2, w3, _⟩ | ⟨_, _, w1, _⟩ | ⟨_, _, _, _, _, _, _, _, _, _, _, w1, _⟩ | ⟨_, _, w1, _⟩ | ⟨_, _, w1, _⟩
      · rw [y2] at g1
        rw [h0] at g2
        have : sv = .no := (congrArg Slot.sv g2).symm
        subst this
        unfold shapeM at g1
        simp only at g1
        rw [z1] at g1
        simp only at g1
        split at g1
        · obtain ⟨_, _, g1⟩ := Option.bind_eq_some_iff.1 g1; cases g1
        · cases g1
      · rw [z1] at w1
        cases w1
        rw [w3, γv r _ _ _ _ z1]
        exact ⟨⟨Nat.le_refl _, fun _ => ⟨Nat.le_refl _, fun _ => Nat.le_refl _⟩⟩, fun _ => ⟨_, _, _, _, rfl, z2⟩⟩
      · rw [z1] at w1; cases w1
      · rw [z1] at w1; cases w1
      · rw [z1] at w1; cases w1
      · rw [z1] at w1; cases w1
    · rw [h3] at hr; cases hr
    · rw [h3] at hr; cases hr
  · obtain ⟨l1, l2, l3⟩ := S.lv n b (nf n) (ow n b hb)
    exact ⟨l1, hI2 n b hb, l3⟩
  · rcases hb with hb | ⟨n, hb, _⟩
    · exact S.imm b hb
    · exact (S.lv n b (nf n) hb).2.2
  · rcases key n with h0 | ⟨k', t', m, m', x, h1, h2, h3, hlm⟩ | ⟨el, m, h1, h2, h3⟩ | ⟨k', r', v', s', d', p', t', y, kk, T, M, h1, h2, h3, y1, y2⟩ | ⟨g', cs', h1, h3⟩ | ⟨g', cs', h1, hv, h3⟩
    · rw [h0] at hn; cases hn
    · rw [h3] at hn; cases hn
    · rw [h3] at hn; cases hn
    · rw [h3] at hn; cases hn
    · rw [h3] at hn; cases hn
    · rw [h3] at hn
      cases hn
      obtain ⟨vs, q1, q2, q3⟩ := S.fn.clo n g cs' h1
      refine ⟨vs, q1, by rw [q2, List.length_map], fun i c hc => ⟨?_, fun _ => ?_⟩⟩
      · rw [List.getElem?_map] at hc
        obtain ⟨c0, _, rfl⟩ := Option.map_eq_some_iff.1 hc
        exact Nat.zero_le _
      · rw [List.getElem?_map] at hc
        obtain ⟨c0, hc0, rfl⟩ := Option.map_eq_some_iff.1 hc
        exact (q3 i c0 hc0).2 (of_decide_eq_true (List.all_eq_true.1 hv c0 (List.mem_of_getElem? hc0)))
  · rcases hb with hb | ⟨n, hb, _⟩
    · exact .inl hb
    · exact .inr (S.lv n b (nf n) hb).1
theorem norm_ok (S : FS τ w0 I0 F σ v0 A w e) {l : List (Nat × Shape)} (h : norm e l = some e2) (hs : shapesOk l l = true) : FS τ w0 I0 F σ v0 A w e2 := by
  obtain ⟨γ, I, h1, h2, h3⟩ := S.st
  obtain ⟨γ2, I2, k1, k2, k3⟩ := norm_st h1 h hs
  exact ⟨⟨γ2, I2, k1, fun b hb => k2 b (h2 b hb), fun b hb => (k3 b hb).elim (h3 b) .inr⟩, S.wk, S.size, S.defers, S.held, S.told⟩
theorem enter_ok (S : FS τ w0 I0 F σ v0 A w e) {l : List (Nat × Shape)} (hs : shapesOk l l = true) {k : Env → Option R} (h : enter l k e = some r) : ∃ e2, FS τ w0 I0 F σ v0 A w e2 ∧ k e2 = some r := by
  unfold enter at h
  obtain ⟨e2, h1, h2⟩ := Option.bind_eq_some_iff.1 h
  exact ⟨e2, norm_ok S h1 hs, h2⟩
end
end Go.Den
/-
  Code: what the evaluator tells is what the machine does.
-/
namespace Go.Den
open Go
set_option linter.unusedVariables false
set_option linter.unusedSimpArgs false

/-- a loop whose rounds are counted down -/
theorem wp_loop_down {P : Program} {Q : Exit → Act → World → Prop} {c : Code} (J : Nat → Act → World → Prop) (h0 : ∀ a w, ¬ J 0 a w)
    (round : ∀ n a w, J (n + 1) a w → c.wp P (Exit.then (J n) Q) a w) : ∀ (n : Nat) (a : Act) (w : World), J n a w → (Code.loop c).wp P Q a w := by
  intro n a w hJ b k cs
  have key : ∀ n a w, J n a w → ∃ e a' w', Q e a' w' ∧ Arrives P (lone (b.at a (.code c :: .inLoop c :: k)) cs w) b k cs e a' w' := by
    intro n
    induction n with
    | zero => exact fun a w h => absurd h (h0 a w)
    | succ n ih =>
      intro a w h
      obtain ⟨e, a₁, w₁, hq, harr⟩ := round n a w h b (.inLoop c :: k) cs
      cases e with
      | normal =>
        obtain ⟨e₂, a₂, w₂, hq₂, harr₂⟩ := ih a₁ w₁ hq
        exact ⟨e₂, a₂, w₂, hq₂, .of_steps (Steps.trans harr (.one step_inLoop)) harr₂⟩
      | exit id => exact ⟨_, a₁, w₁, hq, .pass (x := .inLoop c) rfl (fun _ _ => .inl (by simp)) harr⟩
      | goto l => exact ⟨_, a₁, w₁, hq, .pass (x := .inLoop c) rfl (fun _ _ => .inl (by simp)) harr⟩
      | ret => exact ⟨_, a₁, w₁, hq, .pass (x := .inLoop c) rfl (fun _ _ => .inl (by simp)) harr⟩
      | panic ch => exact ⟨_, a₁, w₁, hq, .pass (x := .inLoop c) rfl (fun _ _ => .inl (by simp)) harr⟩
      | outgrown => exact ⟨_, a₁, w₁, hq, .pass (x := .inLoop c) rfl (fun _ _ => .inl (by simp)) harr⟩
  obtain ⟨e, a', w', hq, harr⟩ := key n a w hJ
  exact ⟨e, a', w', hq, .of_steps (.one step_loop) harr⟩

section
variable {τ : Told} {P : Program} {Γ : Ctx} {O : Fun Γ} {R : Type} {w0 : World} {I0 F : Nat → Prop} {r : R} {σ : Sig} {v0 : Nat → Value}

/-- a region whose order is drawn -/
def DrawOk (P : Program) (Γ : Ctx) (τ : Told) (O : Fun Γ) : Prop :=
  ∀ {R : Type} {r : R} {w0 : World} {I0 F : Nat → Prop} {σ : Sig} {v0 : Nat → Value} {Q : Exit → Act → World → Prop} {id : Nat} {ops : Array Oper} {k : Env → Option R} {A : Act} {w : World} {e : Env},
    (∀ A w e, FS τ w0 I0 F σ v0 A w e → k e = some r → Q .normal A w) → FS τ w0 I0 F σ v0 A w e → runDraw Γ O σ id ops.toList ops.toList 0 [] k e = some r → (Code.region id ops true).wp P Q A w
theorem regK_ok (hT : TysOk P Γ) (hC : CallsOk P Γ τ O) (hD : DrawOk P Γ τ O) {Q : Exit → Act → World → Prop} {id : Nat} {ops : Array Oper} {draw : Bool} {k : Env → Option R} {A : Act} {w : World} {e : Env}
    (hk : ∀ A w e, FS τ w0 I0 F σ v0 A w e → k e = some r → Q .normal A w) (S : FS τ w0 I0 F σ v0 A w e) (h : regK Γ O σ id ops.toList draw k e = some r) : (Code.region id ops draw).wp P Q A w := by
  unfold regK at h
  cases draw with
  | true => exact hD hk S h
  | false =>
    have := runOps_ok hT hC hk ops.toList 0 rfl S h
    rw [Array.length_toList, ← List.range_eq_range'] at this
    exact wp_region this
theorem lub_some {α : Type} {c : Nat → Option α} {r : α} (h : lub c = some r) : ∃ n, c n = some r := by
  unfold lub at h
  split at h
  · rename_i hx
    obtain ⟨n, hn⟩ := hx.choose_spec
    exact ⟨n, hn.trans h⟩
  · cases h
theorem evalC_ok (hT : TysOk P Γ) (hC : CallsOk P Γ τ O) (hD : DrawOk P Γ τ O) : ∀ (c : Code) {n : Nat} {ks : Ks R} {k : Env → Option R} {Q : Exit → Act → World → Prop} {A : Act} {w : World} {e : Env},
    (∀ A w e, FS τ w0 I0 F σ v0 A w e → k e = some r → Q .normal A w) → (∀ id A w e, FS τ w0 I0 F σ v0 A w e → exitOf ks.exits id e = some r → Q (.exit id) A w) → (∀ A w e, FS τ w0 I0 F σ v0 A w e → ks.ret e = some r → Q .ret A w) →
    FS τ w0 I0 F σ v0 A w e → evalC Γ O σ c n ks k e = some r → c.wp P Q A w
  | .skip, n, ks, k, Q, A, w, e, hk, hx, hr, S, h => wp_skip (hk A w e S h)
  | .region id ops draw, n, ks, k, Q, A, w, e, hk, hx, hr, S, h => by
    simp only [evalC] at h
    cases ha : ann σ (100000 + id) with
    | none => rw [ha] at h; exact regK_ok hT hC hD hk S h
    | some l =>
      rw [ha] at h
      have hl : shapesOk l l = true := by
        unfold ann at ha
        split at ha
        · split at ha
          · rename_i hs; cases ha; exact hs
          · cases ha
        · cases ha
      obtain ⟨e2, S2, h2⟩ := enter_ok S hl h
      rw [hold_eq] at h2
      exact regK_ok hT hC hD hk S2 h2
  | .seq a b, n, ks, k, Q, A, w, e, hk, hx, hr, S, h =>
    wp_seq (evalC_ok hT hC hD a (Q := Exit.then (b.wp P Q) Q) (fun A w e S h => evalC_ok hT hC hD b hk hx hr S h) hx hr S h)
  | .cond c a b, n, ks, k, Q, A, w, e, hk, hx, hr, S, h => by
    simp only [evalC, condB] at h
    rw [run_bind] at h
    obtain ⟨γ, I, S0, _⟩ := S.st
    obtain ⟨o, D, h⟩ := rd_ok S0 (fun _ => id) c h
    obtain ⟨t, ht, h⟩ := asBool_ok D h
    rw [← eval_ev] at ht
    cases t with
    | true => exact wp_cond_true ht (evalC_ok hT hC hD a hk hx hr S h)
    | false => exact wp_cond_false ht (evalC_ok hT hC hD b hk hx hr S h)
  | .block id c, n, ks, k, Q, A, w, e, hk, hx, hr, S, h => by
    refine wp_block (evalC_ok hT hC hD c (n := id) (ks := ⟨(id, k) :: ks.exits, ks.ret⟩) (k := k) (Q := Exit.inBlock id Q) hk (fun id' A w e S h => ?_) hr S h)
    simp only [exitOf] at h
    simp only [Exit.inBlock]
    split at h
    · rename_i hi
      rw [if_pos hi.symm]
      exact hk A w e S h
    · rename_i hi
      rw [if_neg fun c => hi c.symm]
      exact hx id' A w e S h
  | .loop c, n, ks, k, Q, A, w, e, hk, hx, hr, S, h => by
    simp only [evalC] at h
    cases ha : ann σ n with
    | none => rw [ha] at h; cases h
    | some l =>
      rw [ha] at h
      have hl : shapesOk l l = true := by
        unfold ann at ha
        split at ha
        · split at ha
          · rename_i hs; cases ha; exact hs
          · cases ha
        · cases ha
      obtain ⟨e2, S2, h2⟩ := enter_ok S hl h
      obtain ⟨m, hm⟩ := lub_some h2
      refine wp_loop_down (fun m A w => ∃ e, FS τ w0 I0 F σ v0 A w e ∧ iterN (fun k => evalC Γ O σ c n ks (enter l k)) m e = some r) (fun a w hz => ?_) (fun m A w hJ => ?_) m A w ⟨e2, S2, hm⟩
      · obtain ⟨e, _, hz⟩ := hz
        cases hz
      · obtain ⟨e, S, hJ⟩ := hJ
        refine evalC_ok hT hC hD c (k := enter l (iterN (fun k => evalC Γ O σ c n ks (enter l k)) m)) (Q := Exit.then _ Q) (fun A w e S h => ?_) hx hr S hJ
        obtain ⟨e3, S3, h3⟩ := enter_ok S hl h
        exact ⟨e3, S3, h3⟩
  | .exit id, n, ks, k, Q, A, w, e, hk, hx, hr, S, h => wp_exit (hx id A w e S h)
  | .ret, n, ks, k, Q, A, w, e, hk, hx, hr, S, h => wp_ret (hr A w e S h)
  | .rangeFunc .., n, ks, k, Q, A, w, e, hk, hx, hr, S, h => by cases h
  | .scope _, n, ks, k, Q, A, w, e, hk, hx, hr, S, h => by cases h
  | .label _, n, ks, k, Q, A, w, e, hk, hx, hr, S, h => by cases h
  | .goto _, n, ks, k, Q, A, w, e, hk, hx, hr, S, h => by cases h
  | .refuse _, n, ks, k, Q, A, w, e, hk, hx, hr, S, h => by cases h
end
end Go.Den
/-
  A function's end: what is taken out of the frame.
-/
namespace Go.Den
open Go
set_option linter.unusedVariables false
set_option linter.unusedSimpArgs false

theorem Mem.young {w : World} {I F : Nat → Prop} {rt : Bool} : ∀ {t : Ty} {m : Md} {x : t.den} {g : G}, Mem w I F t m x g → (rt = true ∨ t.old m = false) → Mem w (fun b => I b ∧ (F b ∨ rt = true)) F t m x g
  | .int _, _, _, _, _, _ => trivial
  | .bool, _, _, _, _, _ => trivial
  | .str, _, _, _, _, _ => trivial
  | .unit, _, _, _, _, _ => trivial
  | .one a, m, x, g, h, ho => Mem.young (t := a) h ho
  | .cons a b, m, x, g, h, ho => by
    simp only [Ty.old, Bool.or_eq_false_iff] at ho
    exact ⟨Mem.young h.1 (ho.imp id (·.1)), Mem.young h.2 (ho.imp id (·.2))⟩
  | .sl e, m, x, g, h, ho => by
    refine ⟨h.1, ?_⟩
    have h2 := h.2
    cases m with
    | own me => exact ⟨h2.1, fun i hi => ⟨(h2.2 i hi).1, Mem.young (h2.2 i hi).2 ho⟩⟩
    | sh o =>
      have ho2 : rt = true ∨ e.old (.sh o) = false := by
        rcases ho with ho | ho
        · exact .inl ho
        · simp only [Ty.old] at ho
          subst ho
          right
          have : ∀ t : Ty, t.old (.sh false) = false := by
            intro t
            induction t with
            | one a ih => exact ih
            | cons a b iha ihb => simp [Ty.old, Md.fst, Md.snd, iha, ihb]
            | _ => rfl
          exact this e
      refine ⟨⟨h2.1.1, fun d hd hl => ⟨⟨(h2.1.2.1 d hd hl).1, ?_⟩, (h2.1.2.1 d hd hl).2⟩, fun k => ⟨(h2.1.2.2 k).1, fun d hd => ⟨⟨((h2.1.2.2 k).2 d hd).1, .inl ((h2.1.2.2 k).2 d hd).2⟩, ((h2.1.2.2 k).2 d hd).2⟩⟩⟩, fun i hi => ⟨(h2.2 i hi).1, Mem.young (h2.2 i hi).2 ho2⟩⟩
      rcases ho with ho | ho
      · exact .inr ho
      · simp only [Ty.old] at ho; exact .inl ((h2.1.2.1 d hd hl).2 ho)
    | pr a b => trivial
    | gone => trivial

/-- taken out of the frame -/
structure Took (w : World) (a : Nat → Value) (e' : Env) (I I' F Ω Ω' : Nat → Prop) (rt : Bool) (i : Item) : Prop where
  st : ∃ γ', St w a e' γ' I' F (fun _ => False) Ω'
  ok : SlotOk w (fun b => I' b ∧ (F b ∨ rt = true)) F i.z i.v i.γ
  noref : ∀ k r v s d p t, i.sv ≠ .ref k r v s d p t
  own : ∀ b, OwnS i.z i.γ b → Ω' b ∧ ¬ Ω b
  flt : ∀ b, Ω b → Ω' b
  imm : ∀ b, I b → I' b
  new : ∀ b, I' b → I b ∨ F b

section
variable {P : Program} {Γ : Ctx} {O : Fun Γ} {R : Type} {w : World} {a : Nat → Value} {e : Env} {γ : Nat → Gs} {I F Ω : Nat → Prop} {r : R}

/-- data in flight, taken for a weaker mode -/
theorem took_data {rt : Bool} {e' : Env} {Ω' : Nat → Prop} {t : Ty} {m m' : Md} {x : t.den} {g : G} (S : St w a e' γ I F (fun _ => False) Ω') (hM : Mem w I F t m x g) (hS : Sep t m g) (hO : ∀ b, Own t m g b → Ω' b ∧ ¬ Ω b) (hΩ : ∀ b, Ω b → Ω' b) (hc : t.coer m m' = true) (ho : rt = true ∨ t.old m' = false) :
    ∃ I' Ω'', Took w a e' I I' F Ω Ω'' rt ⟨.val .reg t m' x, toV t x g, ⟨none, g⟩⟩ := by
  let I' : Nat → Prop := fun b => I b ∨ (Own t m g b ∧ ¬ Own t m' g b)
  have S' := S.shut (I' := I') (fun b hb => .inl hb) fun b hb => hb.imp id fun hb => (hO b hb.1).1
  have hM' : Mem w I' F t m' x g := hM.coer hc hS (fun b hb => .inl hb) (fun b hb => (S.lvΩ b (hO b hb).1).1) fun b h1 h2 => .inr ⟨h1, h2⟩
  refine ⟨I', _, ⟨⟨γ, S'⟩, ⟨rfl, hM'.young ho, hS.coer hc, rfl⟩, fun _ _ _ _ _ _ _ c => (by cases c), fun b hb => ?_, fun b hb => ⟨hΩ b hb, fun k => ?_⟩, fun b hb => .inl hb, fun b hb => hb.imp id fun hb => (S.lvΩ b (hO b hb.1).1).1⟩⟩
  · have hb' : Own t m' g b := hb
    have h1 := hb'.coer hc
    exact ⟨⟨(hO b h1).1, fun k => k.elim (S.lvΩ b (hO b h1).1).2.1 fun k => k.2 hb'⟩, (hO b h1).2⟩
  · rcases k with k | k
    · exact (S.lvΩ b (hΩ b hb)).2.1 k
    · exact (hO b k.1).2 hb
/-- a box, taken whole -/
theorem took_box (S : St w a e γ I F (fun _ => False) Ω) {rt : Bool} {n ve s d : Nat} {t : Ty} {m m' : Md} {x : t.den} (hq : e.get n = ⟨ve, s, d, .val .box t m x⟩) (hc : t.coer m m' = true) (ho : rt = true ∨ t.old m' = false) :
    ∃ I' Ω'', Took w a (e.set n ⟨ve + 1, 0, 0, .no⟩) I I' F Ω Ω'' rt ⟨.val .box t m' x, .pointer (γ n).b, γ n⟩ := by
  have slot := S.slot n id
  rw [hq] at slot
  obtain ⟨v1, v2, v3, ad, C, te, b1, b2, b3, b4, b5⟩ := slot
  have own : ∀ b, OwnS (e.get n) (γ n) b ↔ (∃ a, (γ n).b = some a ∧ a.block = b) ∨ Own t m (γ n).g b := fun b => by rw [hq, OwnS.val]; simp [boxed]
  have So := S.opened n id
  have hcl := So.closed (r := n) (.inr rfl) (z := ⟨ve + 1, 0, 0, .no⟩) (γ' := γ n) (v := a n) trivial rfl (fun b hb => hb.elim) (fun k v s' d' p t' y hr => by
    rw [hq] at hr
    obtain ⟨⟨h1, h2⟩, h3⟩ := hr
    simp only at h1
    refine ⟨⟨by simp only; omega, fun c => by simp only at c; omega⟩, fun c => ?_⟩
    simp only [refOk, Bool.and_eq_true, decide_eq_true_eq] at c
    omega) (fun _ _ _ _ _ _ _ c => by cases c)
  have hcl2 := hcl.holes (H' := fun _ => False) fun j hj => hj.1.elim id fun k => hj.2 k
  have hge : upd γ n (γ n) = γ := upd_eq_self γ n
  rw [hge] at hcl2
  let I' : Nat → Prop := fun b => I b ∨ (Own t m (γ n).g b ∧ ¬ Own t m' (γ n).g b)
  have hfl : ∀ b, OwnS (e.get n) (γ n) b → ¬ Ω b := fun b hb => S.flt n b id hb
  have S' := hcl2.shut (I' := I') (fun b hb => .inl hb) fun b hb => hb.imp id fun hb => ⟨.inr ((own b).2 (.inr hb.1)), fun k => k⟩
  have hM' : Mem w I' F t m' x (γ n).g := v2.coer hc v3 (fun b hb => .inl hb) (fun b hb => (S.lv n b id ((own b).2 (.inr hb))).1) fun b h1 h2 => .inr ⟨h1, h2⟩
  refine ⟨I', _, ⟨⟨γ, S'⟩, ⟨rfl, hM'.young ho, v3.coer hc, ad, C, te, b1, b2, b3, b4, fun k => b5 (k.coer hc)⟩, fun _ _ _ _ _ _ _ c => (by cases c), fun b hb => ?_, fun b hb => ⟨⟨.inl hb, fun k => k⟩, fun k => ?_⟩, fun b hb => .inl hb, fun b hb => hb.imp id fun hb => (S.lv n b id ((own b).2 (.inr hb.1))).1⟩⟩
  · have hb' := OwnS.box (z := (⟨.val .box t m' x, .pointer (γ n).b, γ n⟩ : Item).z) rfl hb
    have h1 : OwnS (e.get n) (γ n) b := (own b).2 (hb'.imp id fun k => k.coer hc)
    refine ⟨⟨⟨.inr h1, fun k => k⟩, fun k => k.elim (S.lv n b id h1).2.1 fun k => ?_⟩, hfl b h1⟩
    rcases hb' with ⟨a', ha, hab⟩ | hb'
    · rw [b1] at ha; cases ha; subst hab; exact b5 k.1
    · exact k.2 hb'
  · rcases k with k | k
    · exact (S.lvΩ b hb).2.1 k
    · exact hfl b ((own b).2 (.inr k.1)) hb

/-- the machine's own reading of a result -/
def rvSem (a : Nat → Value) : ResultVar → Sem Value
  | .tmp t => pure (a t)
  | .cell s T => do loadVar T (← asAddr (a s))
theorem cast_some {T t : Ty} {X : T.den} {x : t.den} (h : T.cast t X = some x) : ∃ e : T = t, e ▸ X = x := by
  unfold Ty.cast at h
  split at h
  · rename_i e; cases h; exact ⟨e, rfl⟩
  · cases h
theorem cast_self {t : Ty} {x : t.den} : t.cast t x = some x := by simp [Ty.cast]
theorem takeRes_ok (hT : TysOk P Γ) (S : St w a e γ I F (fun _ => False) Ω) {rt : Bool} {g : RSig} {v : ResultVar} {k : ((t : Ty) × t.den) → Env → Option R} (h : (takeRes (Γ := Γ) rt g v).run O e k = some r) :
    ∃ x i e' I' Ω', k x e' = some r ∧ resSV [g] [x] = some [i.sv] ∧ Took w a e' I I' F Ω Ω' rt i ∧ (rvSem a v).run P w = .ok i.v w := by
  have nf : ∀ n : Nat, ¬ (fun _ : Nat => False) n := fun _ => id
  have oldOk : ∀ {t : Ty} {m : Md}, (rt || !t.old m) = true → rt = true ∨ t.old m = false := fun {t m} c => by
    simp only [Bool.or_eq_true, Bool.not_eq_true'] at c; exact c
  cases g with
  | val t m =>
    cases v with
    | tmp s =>
      simp only [takeRes, run_bind] at h
      obtain ⟨o, D, h⟩ := rdSlot_ok S nf s h
      obtain ⟨my, y, src, g, Dd, h⟩ := asData_ok D h
      split at h
      · rename_i hc
        simp only [Bool.and_eq_true] at hc
        rw [run_bind] at h
        obtain ⟨m', e', I1, Ω1, h, HD⟩ := handOver_ok S nf Dd.mem Dd.sep Dd.src h
        split at h
        · rename_i hc2
          obtain ⟨I', Ω'', K⟩ := took_data HD.st HD.mem HD.sep HD.own HD.flt hc2 (oldOk hc.2)
          exact ⟨⟨t, y⟩, _, e', I', Ω'', h, by simp [resSV, cast_self], { K with imm := fun b hb => K.imm b (HD.imm b hb), new := fun b hb => (K.new b hb).elim (fun k => (HD.new b k).imp id (·.1)) .inr }, by rw [rvSem, Dd.v]; rfl⟩
        · cases h
      · cases h
    | cell s T =>
      simp only [takeRes, run_bind] at h
      obtain ⟨i, hi, h⟩ := run_ty h
      split at h
      · cases h
      · rename_i hit
        simp only [ne_eq, Decidable.not_not] at hit
        rw [run_bind] at h
        obtain ⟨o, D, h⟩ := rdSlot_ok S nf s h
        cases o with
        | ptr n p t' =>
          simp only [M.run] at h
          split at h
          · rename_i kk T' N X hq
            split at h
            · rename_i z hz
              split at h
              · rename_i hc
                simp only [Bool.and_eq_true] at hc
                simp only [run_bind] at h
                obtain ⟨x, hx, h⟩ := run_ofOpt h
                obtain ⟨zt, zm, zx⟩ := z
                obtain ⟨he, hx⟩ := cast_some hx
                simp only at he
                subst he
                simp only at hx
                subst hx
                obtain ⟨ad, h1, h2, W, h3, hat, hk⟩ := PtrOk.load S nf D hq hz
                obtain ⟨_, M1, M2⟩ := (S.slot n (nf n)).valMem hq
                have W0 : Way T' N X (γ n).g p zt zm zx (gsub T' (γ n).g p) := W
                have A : SrcAt e γ (some (n, p)) zt zm zx (gsub T' (γ n).g p) := ⟨kk, T', N, X, hq, W0⟩
                obtain ⟨m', e', I1, Ω1, h', HD⟩ := handOver_ok S nf (W0.mem M1) (W0.sep M2).1 A h
                obtain ⟨e1, e2⟩ := HD.take rfl
                subst e1
                rw [e2] at HD
                obtain ⟨I', Ω'', K⟩ := took_data HD.st HD.mem HD.sep HD.own HD.flt hc.1 (oldOk hc.2)
                refine ⟨⟨zt, zx⟩, _, e', I', Ω'', h', by simp [resSV, cast_self], K, ?_⟩
                subst hit
                simp [rvSem, h1, asAddr, loadVar_run (hT.1 T i hi) hat]
              · cases h
            · cases h
          · cases h
        | data k' _ _ _ _ => cases k' <;> cases h
        | clo _ _ _ _ => cases h
        | cl _ _ => cases h
        | fn _ _ => cases h
        | nil => cases h
        | cst _ => cases h
  | ptr t m =>
    cases v with
    | cell s T => cases h
    | tmp s =>
      simp only [takeRes, run_bind] at h
      obtain ⟨o, D, h⟩ := rdSlot_ok S nf s h
      cases o with
      | ptr n p t' =>
        cases p with
        | cons _ _ => cases h
        | nil =>
          simp only [M.run] at h
          generalize hq : e.get n = q at h
          obtain ⟨ve, sv, dv, q⟩ := q
          simp only at h
          split at h
          · rename_i T N X
            split at h
            · rename_i hc
              simp only [Bool.and_eq_true] at hc
              rw [run_bind] at h
              obtain ⟨x, hx, h⟩ := run_ofOpt h
              obtain ⟨he, hx⟩ := cast_some hx
              subst he
              simp only at hx
              subst hx
              obtain ⟨I', Ω'', K⟩ := took_box S hq hc.1 (oldOk hc.2)
              refine ⟨⟨T, X⟩, _, _, I', Ω'', h, by simp [resSV, cast_self], K, ?_⟩
              obtain ⟨kk, T', N', X', e1, o1, _, ad, o3, o4⟩ := D
              rw [hq] at e1
              cases e1
              have : place T (γ n).g (γ n).b [] = (γ n).b := by cases T <;> rfl
              rw [this] at o3
              rw [rvSem, o4, ← o3]; rfl
            · cases h
          · cases h
      | data k' _ _ _ _ => cases k' <;> cases h
      | clo _ _ _ _ => cases h
      | cl _ _ => cases h
      | fn _ _ => cases h
      | nil => cases h
      | cst _ => cases h

def PSig.isBack : PSig → Bool
  | .io _ _ => true
  | .pio _ _ _ => true
  | _ => false
theorem takeBack_ok (S : St w a e γ I F (fun _ => False) Ω) {rt : Bool} {g : PSig} {n : Nat} {k : List ((t : Ty) × t.den) → Env → Option R} (h : (takeBack (Γ := Γ) rt g n).run O e k = some r) :
    (g.isBack = false ∧ k [] e = some r) ∨ ∃ x i e' I' Ω', g.isBack = true ∧ k [x] e' = some r ∧ backSV [g] [x] = some [i.sv] ∧ Took w a e' I I' F Ω Ω' rt i ∧ i.v = a n := by
  have nf : ∀ n : Nat, ¬ (fun _ : Nat => False) n := fun _ => id
  have oldOk : ∀ {t : Ty} {m : Md}, (rt || !t.old m) = true → rt = true ∨ t.old m = false := fun {t m} c => by
    simp only [Bool.or_eq_true, Bool.not_eq_true'] at c; exact c
  cases g with
  | val t => exact .inl ⟨rfl, h⟩
  | mv t m => exact .inl ⟨rfl, h⟩
  | fn g cs => exact .inl ⟨rfl, h⟩
  | pin f t => exact .inl ⟨rfl, h⟩
  | io t m =>
    right
    simp only [takeBack, run_bind] at h
    obtain ⟨o, D, h⟩ := rdSlot_ok S nf n h
    obtain ⟨my, y, src, g, Dd, h⟩ := asData_ok D h
    split at h
    · rename_i hc
      simp only [Bool.and_eq_true] at hc
      rw [run_bind] at h
      obtain ⟨m', e', I1, Ω1, h, HD⟩ := handOver_ok S nf Dd.mem Dd.sep Dd.src h
      obtain ⟨e1, e2⟩ := HD.take rfl
      subst e1 e2
      obtain ⟨I', Ω'', K⟩ := took_data HD.st HD.mem HD.sep HD.own HD.flt hc.1.1 (oldOk hc.2)
      exact ⟨⟨t, y⟩, _, e', I', Ω'', rfl, h, by simp [backSV, cast_self], K, Dd.v.symm⟩
    · cases h
  | pio t m0 m =>
    right
    simp only [takeBack, M.run] at h
    generalize hq : e.get n = q at h
    obtain ⟨ve, sv, dv, q⟩ := q
    simp only at h
    split at h
    · rename_i T N X
      split at h
      · rename_i hc
        simp only [Bool.and_eq_true] at hc
        rw [run_bind] at h
        obtain ⟨x, hx, h⟩ := run_ofOpt h
        obtain ⟨he, hx⟩ := cast_some hx
        subst he
        simp only at hx
        subst hx
        obtain ⟨I', Ω'', K⟩ := took_box S hq hc.1 (oldOk hc.2)
        have slot := S.slot n id
        rw [hq] at slot
        exact ⟨⟨T, X⟩, _, _, I', Ω'', rfl, h, by simp [backSV, cast_self], K, slot.1.symm⟩
      · cases h
    · cases h

/-- what was taken so far -/
structure Bag (w : World) (a : Nat → Value) (e : Env) (I F Ω : Nat → Prop) (rt : Bool) (L : List Item) : Prop where
  st : ∃ γ, St w a e γ I F (fun _ => False) Ω
  ok : ∀ i ∈ L, SlotOk w (fun b => I b ∧ (F b ∨ rt = true)) F i.z i.v i.γ
  noref : ∀ i ∈ L, ∀ k r v s d p t, i.sv ≠ .ref k r v s d p t
  sep : L.Pairwise fun i j => ∀ b, OwnS i.z i.γ b → ¬ OwnS j.z j.γ b
  own : ∀ i ∈ L, ∀ b, OwnS i.z i.γ b → Ω b
theorem Bag.step {L : List Item} {rt : Bool} (B : Bag w a e I F Ω rt L) {e' : Env} {I' Ω' : Nat → Prop} {i : Item} (K : Took w a e' I I' F Ω Ω' rt i) : Bag w a e' I' F Ω' rt (L ++ [i]) := by
  refine ⟨K.st, fun j hj => ?_, fun j hj => ?_, ?_, fun j hj b hb => ?_⟩
  · rcases List.mem_append.1 hj with hj | hj
    · exact (B.ok j hj).mono fun b hb => ⟨K.imm b hb.1, hb.2⟩
    · rw [List.mem_singleton.1 hj]; exact K.ok
  · rcases List.mem_append.1 hj with hj | hj
    · exact B.noref j hj
    · rw [List.mem_singleton.1 hj]; exact K.noref
  · rw [List.pairwise_append]
    refine ⟨B.sep, List.pairwise_singleton _ _, fun x hx y hy b h1 h2 => ?_⟩
    rw [List.mem_singleton.1 hy] at h2
    exact (K.own b h2).2 (B.own x hx b h1)
  · rcases List.mem_append.1 hj with hj | hj
    · exact K.flt b (B.own j hj b hb)
    · rw [List.mem_singleton.1 hj] at hb; exact (K.own b hb).1
theorem resSV_cons {g : RSig} {gs : List RSig} {x : (t : Ty) × t.den} {xs : List ((t : Ty) × t.den)} {v : SV} {vs : List SV} (h1 : resSV [g] [x] = some [v]) (h2 : resSV gs xs = some vs) : resSV (g :: gs) (x :: xs) = some (v :: vs) := by
  cases g <;>
  · simp only [resSV] at h1 ⊢
    obtain ⟨y, hy, h1⟩ := Option.bind_eq_some_iff.1 h1
    simp only [Option.bind_some, Option.some.injEq, List.cons.injEq, and_true] at h1
    subst h1
    rw [hy, h2]; rfl
theorem endRes_ok (hT : TysOk P Γ) {rt : Bool} {fin : List ((t : Ty) × t.den) → Env → Option R} : ∀ (gs : List RSig) (vs : List ResultVar) {ds : List ((t : Ty) × t.den)} {e : Env} {I Ω : Nat → Prop} {L : List Item}, Bag w a e I F Ω rt L →
    endRes (Γ := Γ) O rt fin gs vs ds e = some r →
    ∃ xs its e' I' Ω', fin (ds ++ xs) e' = some r ∧ resSV gs xs = some (its.map Item.sv) ∧ Bag w a e' I' F Ω' rt (L ++ its) ∧ (∀ b, I b → I' b) ∧ (∀ b, I' b → I b ∨ F b) ∧ xs.length = gs.length ∧
      (vs.mapM (rvSem a)).run P w = .ok (its.map Item.v) w
  | [], [], ds, e, I, Ω, L, B, h => ⟨[], [], e, I, Ω, by rw [List.append_nil]; exact h, rfl, by rw [List.append_nil]; exact B, fun _ h => h, fun _ h => .inl h, rfl, rfl⟩
  | g :: gs, v :: vs, ds, e, I, Ω, L, B, h => by
    simp only [endRes] at h
    obtain ⟨γ, S⟩ := B.st
    obtain ⟨x, i, e1, I1, Ω1, h1, h2, K, h3⟩ := takeRes_ok hT S h
    obtain ⟨xs, its, e2, I2, Ω2, t1, t2, t3, t4, t5, t6, t7⟩ := endRes_ok hT gs vs (B.step K) h1
    refine ⟨x :: xs, i :: its, e2, I2, Ω2, ?_, resSV_cons h2 t2, ?_, fun b hb => t4 b (K.imm b hb), fun b hb => (t5 b hb).elim (K.new b) .inr, by simp [t6], ?_⟩
    · rw [List.append_assoc] at t1; exact t1
    · rw [List.append_assoc] at t3; exact t3
    · rw [List.mapM_cons]
      simp only [Sem.run_bind, h3, Result.andThen_ok, t7, Sem.run_pure, List.map_cons]
  | [], _ :: _, ds, e, I, Ω, L, B, h => by cases h
  | _ :: _, [], ds, e, I, Ω, L, B, h => by cases h

theorem backSV_skip {g : PSig} (hg : g.isBack = false) {gs : List PSig} {xs : List ((t : Ty) × t.den)} : backSV (g :: gs) xs = backSV gs xs := by
  cases g <;> first | rfl | cases hg
theorem backSV_cons {g : PSig} {gs : List PSig} {x : (t : Ty) × t.den} {xs : List ((t : Ty) × t.den)} {v : SV} {vs : List SV} (hg : g.isBack = true) (h1 : backSV [g] [x] = some [v]) (h2 : backSV gs xs = some vs) : backSV (g :: gs) (x :: xs) = some (v :: vs) := by
  cases g <;> first
  | (cases hg; done)
  | (simp only [backSV] at h1 ⊢
     obtain ⟨y, hy, h1⟩ := Option.bind_eq_some_iff.1 h1
     simp only [Option.bind_some, Option.some.injEq, List.cons.injEq, and_true] at h1
     subst h1
     rw [hy, h2]; rfl)
theorem endBack_ok {rt : Bool} {fin : List ((t : Ty) × t.den) → Option R} {v0 : Nat → Value} : ∀ (gs : List PSig) (n : Nat) {ds : List ((t : Ty) × t.den)} {e : Env} {I Ω : Nat → Prop} {L : List Item}, Bag w a e I F Ω rt L → (∀ j g, gs[j]? = some g → g.isBack = true → a (n + j) = v0 (n + j)) →
    endBack (Γ := Γ) O rt fin gs n ds e = some r →
    ∃ xs its e' I' Ω', fin (ds ++ xs) = some r ∧ backSV gs xs = some (its.map Item.sv) ∧ Bag w a e' I' F Ω' rt (L ++ its) ∧ (∀ b, I b → I' b) ∧ (∀ b, I' b → I b ∨ F b) ∧
      its.map Item.v = backOf gs ((List.range' n gs.length).map v0)
  | [], n, ds, e, I, Ω, L, B, _, h => ⟨[], [], e, I, Ω, by rw [List.append_nil]; exact h, rfl, by rw [List.append_nil]; exact B, fun _ h => h, fun _ h => .inl h, rfl⟩
  | g :: gs, n, ds, e, I, Ω, L, B, hv, h => by
    simp only [endBack] at h
    obtain ⟨γ, S⟩ := B.st
    have hv' : ∀ j g, gs[j]? = some g → g.isBack = true → a (n + 1 + j) = v0 (n + 1 + j) := fun j g hj hg => by
      have := hv (j + 1) g (by simpa using hj) hg
      rw [show n + 1 + j = n + (j + 1) by omega]; exact this
    rcases takeBack_ok S h with ⟨hg, h⟩ | ⟨x, i, e1, I1, Ω1, hg, h1, h2, K, h3⟩
    · simp only [List.append_nil] at h
      obtain ⟨xs, its, e2, I2, Ω2, t1, t2, t3, t4, t5, t6⟩ := endBack_ok gs (n + 1) B hv' h
      refine ⟨xs, its, e2, I2, Ω2, t1, by rw [backSV_skip hg]; exact t2, t3, t4, t5, ?_⟩
      rw [t6, List.length_cons, List.range'_succ, List.map_cons]
      cases g <;> first | rfl | cases hg
    · obtain ⟨xs, its, e2, I2, Ω2, t1, t2, t3, t4, t5, t6⟩ := endBack_ok gs (n + 1) (B.step K) hv' h1
      refine ⟨x :: xs, i :: its, e2, I2, Ω2, ?_, backSV_cons hg h2 t2, ?_, fun b hb => t4 b (K.imm b hb), fun b hb => (t5 b hb).elim (K.new b) .inr, ?_⟩
      · rw [List.append_assoc] at t1; exact t1
      · rw [List.append_assoc] at t3; exact t3
      · rw [List.map_cons, t6, h3, List.length_cons, List.range'_succ, List.map_cons]
        have := hv 0 g rfl hg
        rw [Nat.add_zero] at this
        rw [this]
        cases g <;> first | rfl | cases hg
end
end Go.Den
/-
  Whole functions.
-/
namespace Go.Den
open Go
set_option linter.unusedVariables false
set_option linter.unusedSimpArgs false

theorem startSV_get : ∀ {ps : List PSig} {ds : List ((t : Ty) × t.den)} {svs : List SV} {i : Nat} {e : Env}, insSV ps ds = some svs → startSV ps i ds = some e →
    ∀ n, e.get n = ⟨0, 0, 0, if n < i then .no else (svs[n - i]?).getD .no⟩ := by
  have cons : ∀ {sv : SV} {l : List SV} {i : Nat} {e : Env}, (∀ n, e.get n = ⟨0, 0, 0, if n < i + 1 then .no else (l[n - (i + 1)]?).getD .no⟩) →
      ∀ n, Env.get ((i, ⟨0, 0, 0, sv⟩) :: e) n = ⟨0, 0, 0, if n < i then .no else ((sv :: l)[n - i]?).getD .no⟩ := by
    intro sv l i e h n
    simp only [Env.get]
    by_cases c : i = n
    · subst c; simp
    · rw [if_neg c, h n]
      by_cases c2 : n < i
      · rw [if_pos (by omega), if_pos c2]
      · rw [if_neg (by omega), if_neg c2]
        have : n - i = (n - (i + 1)) + 1 := by omega
        rw [this, List.getElem?_cons_succ]
  intro ps
  induction ps with
  | nil =>
    intro ds svs i e h1 h2 n
    cases ds with
    | nil =>
      simp only [insSV, Option.some.injEq] at h1
      simp only [startSV, Option.some.injEq] at h2
      subst h1 h2
      simp [Env.get]
    | cons d ds => cases h1
  | cons p ps ih =>
    intro ds svs i e h1 h2
    cases p with
    | fn g cs =>
      cases cs with
      | cons _ _ => cases ds <;> cases h1
      | nil =>
        have h1' : (insSV ps ds).bind (fun l => some (.fn g [] :: l)) = some svs := by cases ds <;> exact h1
        have h2' : (startSV ps (i + 1) ds).bind (fun e => some ((i, ⟨0, 0, 0, .fn g []⟩) :: e)) = some e := by cases ds <;> exact h2
        obtain ⟨l, k1, k2⟩ := Option.bind_eq_some_iff.1 h1'
        obtain ⟨e1, k3, k4⟩ := Option.bind_eq_some_iff.1 h2'
        cases k2; cases k4
        exact cons (ih k1 k3)
    | val t =>
      cases ds with
      | nil => cases h1
      | cons d ds =>
        obtain ⟨x, q1, h1⟩ := Option.bind_eq_some_iff.1 h1
        obtain ⟨l, k1, k2⟩ := Option.bind_eq_some_iff.1 h1
        obtain ⟨y, q2, h2⟩ := Option.bind_eq_some_iff.1 h2
        obtain ⟨e1, k3, k4⟩ := Option.bind_eq_some_iff.1 h2
        rw [q1] at q2; cases q2; cases k2; cases k4
        exact cons (ih k1 k3)
    | pin f t =>
      cases ds with
      | nil => cases h1
      | cons d ds =>
        obtain ⟨x, q1, h1⟩ := Option.bind_eq_some_iff.1 h1
        obtain ⟨l, k1, k2⟩ := Option.bind_eq_some_iff.1 h1
        obtain ⟨y, q2, h2⟩ := Option.bind_eq_some_iff.1 h2
        obtain ⟨e1, k3, k4⟩ := Option.bind_eq_some_iff.1 h2
        rw [q1] at q2; cases q2; cases k2; cases k4
        exact cons (ih k1 k3)
    | mv t m =>
      cases ds with
      | nil => cases h1
      | cons d ds =>
        obtain ⟨x, q1, h1⟩ := Option.bind_eq_some_iff.1 h1
        obtain ⟨l, k1, k2⟩ := Option.bind_eq_some_iff.1 h1
        obtain ⟨y, q2, h2⟩ := Option.bind_eq_some_iff.1 h2
        obtain ⟨e1, k3, k4⟩ := Option.bind_eq_some_iff.1 h2
        rw [q1] at q2; cases q2; cases k2; cases k4
        exact cons (ih k1 k3)
    | io t m =>
      cases ds with
      | nil => cases h1
      | cons d ds =>
        obtain ⟨x, q1, h1⟩ := Option.bind_eq_some_iff.1 h1
        obtain ⟨l, k1, k2⟩ := Option.bind_eq_some_iff.1 h1
        obtain ⟨y, q2, h2⟩ := Option.bind_eq_some_iff.1 h2
        obtain ⟨e1, k3, k4⟩ := Option.bind_eq_some_iff.1 h2
        rw [q1] at q2; cases q2; cases k2; cases k4
        exact cons (ih k1 k3)
    | pio t m m0 =>
      cases ds with
      | nil => cases h1
      | cons d ds =>
        obtain ⟨x, q1, h1⟩ := Option.bind_eq_some_iff.1 h1
        obtain ⟨l, k1, k2⟩ := Option.bind_eq_some_iff.1 h1
        obtain ⟨y, q2, h2⟩ := Option.bind_eq_some_iff.1 h2
        obtain ⟨e1, k3, k4⟩ := Option.bind_eq_some_iff.1 h2
        rw [q1] at q2; cases q2; cases k2; cases k4
        exact cons (ih k1 k3)
theorem mkProd_two {t u : Ty} {r : List Ty} {d : (t : Ty) × t.den} {ds : List ((t : Ty) × t.den)} : mkProd (t :: u :: r) (d :: ds) = (d.1.cast t d.2).bind fun a => (mkProd (u :: r) ds).bind fun b => some (a, b) := rfl
theorem unProd_two {t u : Ty} {r : List Ty} {y : t.den} {z : (prodTy (u :: r)).den} : unProd (t :: u :: r) ((y, z) : t.den × (prodTy (u :: r)).den) = ⟨t, y⟩ :: unProd (u :: r) z := rfl
theorem unProd_mk : ∀ (ts : List Ty) (ds : List ((t : Ty) × t.den)) (x : (prodTy ts).den), mkProd ts ds = some x → unProd ts x = ds := by
  intro ts
  induction ts with
  | nil =>
    intro ds x h
    cases ds with
    | nil => rfl
    | cons _ _ => cases h
  | cons t r ih =>
    intro ds x h
    cases r with
    | nil =>
      cases ds with
      | nil => cases h
      | cons d ds =>
        cases ds with
        | cons _ _ => cases h
        | nil =>
          obtain ⟨t', d⟩ := d
          obtain ⟨he, hx⟩ := cast_some (T := t') (t := t) (X := d) h
          subst he
          simp only at hx
          subst hx
          rfl
    | cons u r =>
      cases ds with
      | nil => cases h
      | cons d ds =>
        rw [mkProd_two] at h
        obtain ⟨y, hy, h⟩ := Option.bind_eq_some_iff.1 h
        obtain ⟨z, hz, h⟩ := Option.bind_eq_some_iff.1 h
        have hx := Option.some.inj h
        obtain ⟨t', d⟩ := d
        obtain ⟨he, hx2⟩ := cast_some (T := t') (t := t) (X := d) hy
        subst he
        simp only at hx2
        subst hx2
        rw [← hx, unProd_two, ih ds z hz]
end Go.Den
/-
  A function does what its text tells.
-/
namespace Go.Den
open Go
set_option linter.unusedVariables false
set_option linter.unusedSimpArgs false
def FnsOk (P : Program) (Γ : Ctx) : Prop := ∀ (n : Nat) (σ : Sig), Γ.sigs[n]? = some σ → P.funcs[σ.fid]? = some σ.fn ∧ σ.params.length ≤ σ.fn.ntmps ∧ σ.fn.body.isSome = true ∧ σ.fn.name ≠ "runtime.NumGoroutine"
theorem insSV_len : ∀ {ps : List PSig} {ds : List ((t : Ty) × t.den)} {svs : List SV}, insSV ps ds = some svs → svs.length = ps.length
  | [], [], svs, h => by cases h; rfl
  | .val t :: ps, d :: ds, svs, h => by
    obtain ⟨x, _, h⟩ := Option.bind_eq_some_iff.1 h
    obtain ⟨l, h1, h2⟩ := Option.bind_eq_some_iff.1 h
    cases h2; simp [insSV_len h1]
  | .mv t m :: ps, d :: ds, svs, h => by
    obtain ⟨x, _, h⟩ := Option.bind_eq_some_iff.1 h
    obtain ⟨l, h1, h2⟩ := Option.bind_eq_some_iff.1 h
    cases h2; simp [insSV_len h1]
  | .io t m :: ps, d :: ds, svs, h => by
    obtain ⟨x, _, h⟩ := Option.bind_eq_some_iff.1 h
    obtain ⟨l, h1, h2⟩ := Option.bind_eq_some_iff.1 h
    cases h2; simp [insSV_len h1]
  | .pio t m _ :: ps, d :: ds, svs, h => by
    obtain ⟨x, _, h⟩ := Option.bind_eq_some_iff.1 h
    obtain ⟨l, h1, h2⟩ := Option.bind_eq_some_iff.1 h
    cases h2; simp [insSV_len h1]
  | .fn g [] :: ps, ds, svs, h => by
    have h' : (insSV ps ds).bind (fun l => some (.fn g [] :: l)) = some svs := by cases ds <;> exact h
    obtain ⟨l, h1, h2⟩ := Option.bind_eq_some_iff.1 h'
    cases h2; simp [insSV_len h1]
  | .fn g (_ :: _) :: ps, ds, svs, h => by cases ds <;> cases h
  | .pin f t :: ps, d :: ds, svs, h => by
    obtain ⟨x, _, h⟩ := Option.bind_eq_some_iff.1 h
    obtain ⟨l, h1, h2⟩ := Option.bind_eq_some_iff.1 h
    cases h2; simp [insSV_len h1]
  | .pin f t :: ps, [], svs, h => by cases h
  | [], _ :: _, svs, h => by cases h
  | .val t :: ps, [], svs, h => by cases h
  | .mv t m :: ps, [], svs, h => by cases h
  | .io t m :: ps, [], svs, h => by cases h
  | .pio t m _ :: ps, [], svs, h => by cases h

theorem insSV_noclo : ∀ {ps : List PSig} {ds : List ((t : Ty) × t.den)} {svs : List SV}, insSV ps ds = some svs → ∀ s ∈ svs, ∀ g cs, s ≠ .clo g cs
  | [], [], svs, h, s, hs => by cases h; cases hs
  | .val t :: ps, d :: ds, svs, h, s, hs => by
    obtain ⟨x, _, h⟩ := Option.bind_eq_some_iff.1 h
    obtain ⟨l, h1, h2⟩ := Option.bind_eq_some_iff.1 h
    cases h2
    rcases List.mem_cons.1 hs with rfl | hs
    · exact fun _ _ c => by cases c
    · exact insSV_noclo h1 s hs
  | .mv t m :: ps, d :: ds, svs, h, s, hs => by
    obtain ⟨x, _, h⟩ := Option.bind_eq_some_iff.1 h
    obtain ⟨l, h1, h2⟩ := Option.bind_eq_some_iff.1 h
    cases h2
    rcases List.mem_cons.1 hs with rfl | hs
    · exact fun _ _ c => by cases c
    · exact insSV_noclo h1 s hs
  | .io t m :: ps, d :: ds, svs, h, s, hs => by
    obtain ⟨x, _, h⟩ := Option.bind_eq_some_iff.1 h
    obtain ⟨l, h1, h2⟩ := Option.bind_eq_some_iff.1 h
    cases h2
    rcases List.mem_cons.1 hs with rfl | hs
    · exact fun _ _ c => by cases c
    · exact insSV_noclo h1 s hs
  | .pio t m _ :: ps, d :: ds, svs, h, s, hs => by
    obtain ⟨x, _, h⟩ := Option.bind_eq_some_iff.1 h
    obtain ⟨l, h1, h2⟩ := Option.bind_eq_some_iff.1 h
    cases h2
    rcases List.mem_cons.1 hs with rfl | hs
    · exact fun _ _ c => by cases c
    · exact insSV_noclo h1 s hs
  | .fn g [] :: ps, ds, svs, h, s, hs => by
    have h' : (insSV ps ds).bind (fun l => some (.fn g [] :: l)) = some svs := by cases ds <;> exact h
    obtain ⟨l, h1, h2⟩ := Option.bind_eq_some_iff.1 h'
    cases h2
    rcases List.mem_cons.1 hs with rfl | hs
    · exact fun _ _ c => by cases c
    · exact insSV_noclo h1 s hs
  | .fn g (_ :: _) :: ps, ds, svs, h, s, hs => by cases ds <;> cases h
  | .pin f t :: ps, d :: ds, svs, h, s, hs => by
    obtain ⟨x, _, h⟩ := Option.bind_eq_some_iff.1 h
    obtain ⟨l, h1, h2⟩ := Option.bind_eq_some_iff.1 h
    cases h2
    rcases List.mem_cons.1 hs with rfl | hs
    · exact fun _ _ c => by cases c
    · exact insSV_noclo h1 s hs
  | .pin f t :: ps, [], svs, h, s, hs => by cases h
  | [], _ :: _, svs, h, s, hs => by cases h
  | .val t :: ps, [], svs, h, s, hs => by cases h
  | .mv t m :: ps, [], svs, h, s, hs => by cases h
  | .io t m :: ps, [], svs, h, s, hs => by cases h
  | .pio t m _ :: ps, [], svs, h, s, hs => by cases h
section
variable {τ : Told} {P : Program} {Γ : Ctx} {O : Fun Γ}
theorem results_run {fn : Func} {A : Act} {w : World} {vs : List Value} (h : (fn.results.toList.mapM (rvSem (av A))).run P w = .ok vs w) : (results fn A.tmps).run P w = .ok (retV vs) w := by
  have hres : results fn A.tmps = (do let vs ← fn.results.mapM (rvSem (av A)); pure (if h : vs.size = 1 then vs[0] else .tuple vs)) := by
    unfold results
    refine congrArg (fun m : Sem (Array Value) => m >>= fun vs => pure (if h : vs.size = 1 then vs[0] else .tuple vs)) ?_
    refine congrArg (fun f : ResultVar → Sem Value => fn.results.mapM f) ?_
    funext v
    cases v <;> rfl
  have h2 : (fn.results.mapM (rvSem (av A))).run P w = .ok vs.toArray w := by
    rw [Array.mapM_eq_mapM_toList]
    simp only [Sem.run_map, h, Result.andThen_ok]
  rw [hres]
  simp only [Sem.run_bind, h2, Result.andThen_ok, Sem.run_pure]
  congr 1
  match vs with
  | [] => rfl
  | [v] => rfl
  | _ :: _ :: _ => simp [retV]

theorem resSV_len : ∀ {gs : List RSig} {xs : List ((t : Ty) × t.den)} {vs : List SV}, resSV gs xs = some vs → vs.length = gs.length ∧ xs.length = gs.length
  | [], [], _, h => by cases h; exact ⟨rfl, rfl⟩
  | .val t m :: gs, d :: ds, vs, h => by
    obtain ⟨x, _, h⟩ := Option.bind_eq_some_iff.1 h
    obtain ⟨l, h1, h2⟩ := Option.bind_eq_some_iff.1 h
    cases h2; have := resSV_len h1; simp [this.1, this.2]
  | .ptr t m :: gs, d :: ds, vs, h => by
    obtain ⟨x, _, h⟩ := Option.bind_eq_some_iff.1 h
    obtain ⟨l, h1, h2⟩ := Option.bind_eq_some_iff.1 h
    cases h2; have := resSV_len h1; simp [this.1, this.2]
  | [], _ :: _, _, h => by cases h
  | .val t m :: gs, [], _, h => by cases h
  | .ptr t m :: gs, [], _, h => by cases h
theorem held_mem {σ : Sig} {j : Nat} {g : PSig} (h : σ.params[j]? = some g) (hg : g.isBack = true) : j ∈ σ.held := by
  unfold Sig.held
  rw [List.mem_filterMap]
  refine ⟨(g, j), ?_, ?_⟩
  · rw [List.mem_iff_getElem?]
    exact ⟨j, by rw [List.getElem?_zipIdx, h]; simp⟩
  · cases g <;> first | rfl | cases hg

theorem given_len (σ : Sig) : σ.given.length = σ.results.length := by
  unfold Sig.given
  split
  · rename_i h
    rw [h]
    split <;> rfl
  · rfl
/-- a call's results as the body leaves them -/
def HoldsG (P : Program) (Γ : Ctx) (τ : Told) (n : Nat) (a : (prodTy (Γ.insL n)).den) (r : (prodTy (Γ.outsL n)).den) : Prop :=
  ∀ σ, Γ.sigs[n]? = some σ → ∀ (w : World) (I F : Nat → Prop) (L : List Item), insSV σ.params (unProd (Γ.insL n) a) = some (L.map Item.sv) → Items w I F L → TOk τ F w →
    Calls P σ.fid (packV σ.clos (L.map Item.v)).toArray w fun e w' => match e with
      | .returned v => Wx τ.dr I F w w' ∧ ∃ (J : Nat → Prop) (M N : List Item), resSV σ.given ((unProd (Γ.outsL n) r).take σ.results.length) = some (M.map Item.sv) ∧ backSV σ.params ((unProd (Γ.outsL n) r).drop σ.results.length) = some (N.map Item.sv) ∧
          Items w' J F (M ++ N) ∧ (∀ b, J b → F b ∨ (σ.retain = true ∧ I b)) ∧ v = retV (M.map Item.v) ∧ N.map Item.v = backOf σ.params (L.map Item.v) ∧ (∀ i ∈ M ++ N, ∀ b, OwnS i.z i.γ b → ¬ I b)
      | _ => False
theorem evalF_given (hT : TysOk P Γ) (hC : CallsOk P Γ τ O) (hD : DrawOk P Γ τ O) (hF : FnsOk P Γ) {n : Nat} {a : (prodTy (Γ.insL n)).den} {r : (prodTy (Γ.outsL n)).den} (h : evalF Γ O n a = some r) : HoldsG P Γ τ n a r := by
  intro σ hσ w I F L hins hL hK
  obtain ⟨hfn, hnt, _, _⟩ := hF n σ hσ
  unfold evalF at h
  rw [hσ] at h
  simp only at h
  cases hb : σ.fn.body with
  | none => rw [hb] at h; cases h
  | some c =>
    rw [hb] at h
    simp only at h
    obtain ⟨e0, he0, h⟩ := Option.bind_eq_some_iff.1 h
    have hclos : σ.clos = [] := by
      unfold Sig.start at he0
      split at he0
      · assumption
      · cases he0
    have he0 : startSV σ.params 0 (unProd (Γ.insL n) a) = some e0 := by
      unfold Sig.start at he0
      rw [hclos] at he0
      exact he0
    have hnc : ∀ i ∈ L, ∀ g cs, i.sv ≠ .clo g cs := fun i hi => insSV_noclo hins i.sv (List.mem_map.2 ⟨i, hi, rfl⟩)
    have hLl : L.length = σ.params.length := by simpa using insSV_len hins
    have hget := startSV_get hins he0
    have hpk : packV σ.clos (L.map Item.v) = L.map Item.v := by rw [hclos]; rfl
    rw [hpk]
    refine calls_of_wp hfn hb ?_
    have hav : ∀ (A : Act), A.tmps = (L.map Item.v).toArray ++ Array.replicate (σ.fn.ntmps - (L.map Item.v).toArray.size) undef → ∀ j, j < L.length → av A j = (itemAt L j).v := fun A hA j hj => by
      simp only [av, hA]
      rw [Array.getD_eq_getD_getElem?, Array.getElem?_append_left (by simpa using hj)]
      simp [itemAt, hj]
    have he : ∀ j, e0.get j = (itemAt L j).z := fun j => by
      rw [hget j]
      simp only [Nat.not_lt_zero, if_false, Nat.sub_zero, List.getElem?_map, Item.z, itemAt]
      cases L[j]? <;> rfl
    generalize hA : (⟨(L.map Item.v).toArray ++ Array.replicate (σ.fn.ntmps - (L.map Item.v).toArray.size) undef, []⟩ : Act) = A
    have hA1 : A.tmps = (L.map Item.v).toArray ++ Array.replicate (σ.fn.ntmps - (L.map Item.v).toArray.size) undef := by rw [← hA]
    have S : FS τ w I F σ (av A) A w e0 := ⟨⟨_, I, hL.st hnc he (hav A hA1), fun _ h => h, fun _ h => .inl h⟩, Wx.refl _ _ _ _, by rw [hA1]; simp; omega, by rw [← hA], fun _ _ => rfl, hK⟩
    have fin : ∀ (A' : Act) (w' : World) (e' : Env), FS τ w I F σ (av A) A' w' e' → retK Γ O n σ e' = some r → bodyPost P σ.fn (fun e w' => match e with
      | .returned v => Wx τ.dr I F w w' ∧ ∃ (J : Nat → Prop) (M N : List Item), resSV σ.given ((unProd (Γ.outsL n) r).take σ.results.length) = some (M.map Item.sv) ∧ backSV σ.params ((unProd (Γ.outsL n) r).drop σ.results.length) = some (N.map Item.sv) ∧
          Items w' J F (M ++ N) ∧ (∀ b, J b → F b ∨ (σ.retain = true ∧ I b)) ∧ v = retV (M.map Item.v) ∧ N.map Item.v = backOf σ.params (L.map Item.v) ∧ (∀ i ∈ M ++ N, ∀ b, OwnS i.z i.γ b → ¬ I b)
      | _ => False) .ret A' w' := by
      intro A' w' e' S' h
      obtain ⟨γ', I', S1, hI1, hI2⟩ := S'.st
      have B0 : Bag w' (av A') e' I' F (fun _ => False) σ.retain [] := ⟨⟨γ', S1⟩, fun i hi => absurd hi List.not_mem_nil, fun i hi => absurd hi List.not_mem_nil, List.Pairwise.nil, fun i hi => absurd hi List.not_mem_nil⟩
      unfold retK at h
      obtain ⟨xs, M, e1, I1, Ω1, h, m1, B1, k1, k2, k3, k4⟩ := endRes_ok hT σ.given σ.fn.results.toList B0 h
      obtain ⟨ys, N, e2, I2, Ω2, h, m2, B2, k5, k6, k7⟩ := endBack_ok (v0 := av A) σ.params 0 B1 (fun j g hj hg => by rw [Nat.zero_add]; exact S'.held j (held_mem hj hg)) h
      have hun := unProd_mk _ _ _ h
      have k6' : ∀ b, I' b → I2 b := fun b k => k5 b (k1 b k)
      simp only [List.nil_append] at hun B2
      obtain ⟨γ2, S2⟩ := B2.st
      refine ⟨S'.defers, _, results_run k4, S'.wk, fun b => I2 b ∧ (F b ∨ σ.retain = true), M, N, ?_, ?_, ⟨B2.ok, B2.noref, B2.sep, fun i hi b hb => ?_, fun b hb => S2.imm b hb.1, S2.new⟩, fun b hb => ?_, rfl, ?_, fun i hi b hb k => (S2.lvΩ b (B2.own i hi b hb)).2.1 (k6' b (hI1 b k))⟩
      · rw [hun, ← given_len, ← k3, List.take_left']; exact m1; rfl
      · rw [hun, ← given_len, ← k3, List.drop_left']; exact m2; rfl
      · obtain ⟨q1, q2, q3⟩ := S2.lvΩ b (B2.own i hi b hb)
        exact ⟨q1, fun k => q2 k.1, q3⟩
      · rcases hb.2 with k | k
        · exact .inl k
        · rcases k6 b hb.1 with u | u
          · rcases k2 b u with u | u
            · rcases hI2 b u with u | u
              · exact .inr ⟨k, u⟩
              · exact .inl u
            · exact .inl u
          · exact .inl u
      · rw [k7]
        congr 1
        apply List.ext_getElem?
        intro j
        rw [List.getElem?_map, List.getElem?_map]
        by_cases hj : j < L.length
        · rw [List.getElem?_range' (by omega), List.getElem?_eq_getElem hj]
          simp only [Option.map_some, Nat.zero_add, Nat.one_mul]
          rw [hav A hA1 j hj]
          simp [itemAt, hj]
        · rw [List.getElem?_eq_none (by simp; omega), List.getElem?_eq_none (by omega)]; rfl
    exact evalC_ok hT hC hD c (ks := ⟨[], retK Γ O n σ⟩) (k := retK Γ O n σ) (fun A' w' e' S' h => fin A' w' e' S' h) (fun id A' w' e' S' h => by cases h) fin S h
end
end Go.Den
/-
  Calls: the arguments.
-/
namespace Go.Den
open Go
set_option linter.unusedVariables false
set_option linter.unusedSimpArgs false

theorem toV_inj {t : Ty} {x y : t.den} {g h : G} (e : toV t x g = toV t y h) : cells t x g = cells t y h := by
  rw [← toV_cells, ← toV_cells, e]
/-- the same mode but for what is flat -/
theorem Own.both {t : Ty} {m m' : Md} {g : G} {b : Nat} (h1 : t.coer m m' = true) (h2 : t.coer m' m = true) : Own t m g b ↔ Own t m' g b := ⟨fun h => h.coer h2, fun h => h.coer h1⟩
theorem Mem.both {w : World} {I F : Nat → Prop} {t : Ty} {m m' : Md} {x : t.den} {g : G} (h1 : t.coer m m' = true) (h2 : t.coer m' m = true) (h : Mem w I F t m x g) (hs : Sep t m g) (hF : ∀ b, Own t m g b → F b) : Mem w I F t m' x g :=
  h.coer h1 hs (fun _ k => k) hF fun b k1 k2 => absurd ((Own.both h1 h2).1 k1) k2
theorem Mem.any {w : World} {I F F' : Nat → Prop} : ∀ {t : Ty} {x : t.den} {g : G}, Mem w I F t (.sh true) x g → Mem w I F' t (.sh true) x g
  | .int _, _, _, _ => trivial
  | .bool, _, _, _ => trivial
  | .str, _, _, _ => trivial
  | .unit, _, _, _ => trivial
  | .one a, _, _, h => Mem.any (t := a) h
  | .cons a b, _, _, h => ⟨Mem.any (t := a) h.1, Mem.any (t := b) h.2⟩
  | .sl e, _, _, h => ⟨h.1, ⟨h.2.1.1, fun d hd hl => ⟨(h.2.1.2.1 d hd hl).1, fun c => by cases c⟩, fun c => by cases c⟩, fun i hi => ⟨(h.2.2 i hi).1, Mem.any (t := e) (h.2.2 i hi).2⟩⟩
/-- the mode of what is only read -/
def vm (t : Ty) : Md := if t.flat then .sh false else .sh true
theorem vm_sh (t : Ty) : ∃ o, vm t = .sh o := by unfold vm; split <;> exact ⟨_, rfl⟩
/-- data as they are, or behind a pointer -/
def PinAt (w : World) (kk : VK) (b : Option Addr) (t : Ty) (x : t.den) (g : G) : Prop :=
  (kk = .reg ∧ b = none) ∨ ∃ f ad C te fz, kk = .pin f ∧ b = some ad ∧ ad.spot = none ∧ w.heap[ad.block]? = some (.cells C te fz) ∧ At w (some ad) 0 (cells t x g)
/-- read only: it lies in what is given to all, or in a slot's own blocks -/
def AVal (w : World) (I F : Nat → Prop) (e : Env) (γ : Nat → Gs) (rt : Bool) (seen : List Nat) (i : Item) : Prop :=
  ∃ kk c t m x g, i = ⟨.val kk t (vm t) x, kV kk t x ⟨c, g⟩, ⟨c, g⟩⟩ ∧ Mem w I F t m x g ∧ t.fits m = true ∧ (∀ b, Own t m g b ∨ (∃ ad, c = some ad ∧ ad.block = b) → I b ∨ (rt = false ∧ ∃ n, n ∈ seen ∧ OwnS (e.get n) (γ n) b)) ∧ PinAt w kk c t x g
/-- handed over -/
def AExc (w : World) (I F : Nat → Prop) (i : Item) : Prop := SlotOk w I F i.z i.v i.γ ∧ ∀ k r v s d p t, i.sv ≠ .ref k r v s d p t
/-- handed in and out -/
def BackOk (z : Slot) (γ : Gs) (b : Back) (i : Item) : Prop := match b.box with
  | true => b.deep = true ∧ b.p = [] ∧ ∃ ve s d N X m1, z = ⟨ve, s, d, .val .box b.t N X⟩ ∧ i = ⟨.val .box b.t m1 X, .pointer γ.b, γ⟩ ∧ b.t.coer N m1 = true ∧ b.t.coer m1 N = true
  | false => ∃ ve s d kk T N X m x h, z = ⟨ve, s, d, .val kk T N X⟩ ∧ Way T N X γ.g b.p b.t m x h ∧ i = ⟨.val .reg b.t b.m x, toV b.t x h, ⟨none, h⟩⟩ ∧ b.t.coer m b.m = true ∧ b.t.coer b.m m = true ∧ (b.deep = true ∨ b.t.rowsFlat = true)
theorem BackOk.own {z : Slot} {γ : Gs} {b : Back} {i : Item} (h : BackOk z γ b i) {q : Nat} (hq : OwnS i.z i.γ q) : OwnS z γ q := by
  unfold BackOk at h
  cases hd : b.box with
  | true =>
    rw [hd] at h
    obtain ⟨_, _, ve, s, d, N, X, m1, rfl, rfl, h1, h2⟩ := h
    have hq' : OwnS ⟨0, 0, 0, .val .box b.t m1 X⟩ γ q := hq
    rw [OwnS.val] at hq' ⊢
    exact hq'.imp id fun k => k.coer h1
  | false =>
    rw [hd] at h
    obtain ⟨ve, s, d, kk, T, N, X, m, x, h', rfl, W, rfl, h1, h2, _⟩ := h
    have hq' : Own b.t b.m h' q := hq
    rw [OwnS.val]
    exact .inr ((W.own_iff q).2 (.inr (hq'.coer h1)))
theorem AVal.none {w : World} {I F : Nat → Prop} {e : Env} {γ : Nat → Gs} {rt : Bool} {seen : List Nat} {i : Item} (h : AVal w I F e γ rt seen i) {b : Nat} : ¬ OwnS i.z i.γ b := by
  obtain ⟨kk, c, t, m, x, g, rfl, _, _, _, hp⟩ := h
  intro k
  obtain ⟨o, ho⟩ := vm_sh t
  have k' : Own t (vm t) g b := by
    rcases hp with ⟨rfl, _⟩ | ⟨f, _, _, _, _, rfl, _⟩ <;> exact k
  rw [ho] at k'
  exact Own.sh _ _ _ _ k'

/-- the arguments so far -/
structure ABag (w : World) (a : Nat → Value) (e : Env) (γ : Nat → Gs) (I F Ω : Nat → Prop) (rt : Bool) (own seen : List Nat) (L : List Item) (B : List (Back × Item)) : Prop where
  st : St w a e γ I F (fun _ => False) Ω
  ok : ∀ i ∈ L, AVal w I F e γ rt seen i ∨ AExc w I F i
  sep : L.Pairwise fun i j => ∀ b, OwnS i.z i.γ b → ¬ OwnS j.z j.γ b
  claim : ∀ i ∈ L, (∀ b, OwnS i.z i.γ b → Ω b) ∨ ∃ k, (k, i) ∈ B
  back : ∀ x ∈ B, x.1.r ∈ own ∧ BackOk (e.get x.1.r) (γ x.1.r) x.1 x.2
  nodup : (B.map fun x => x.1.r).Nodup
  inL : ∀ x ∈ B, x.2 ∈ L
  off : ∀ n ∈ own, n ∉ seen

section
variable {Γ : Ctx} {O : Fun Γ} {R : Type} {w : World} {a : Nat → Value} {e e' : Env} {γ : Nat → Gs} {I I' F Ω Ω' : Nat → Prop} {rt : Bool} {own seen : List Nat} {L : List Item} {B : List (Back × Item)} {r : R}
theorem ABag.next (A : ABag w a e γ I F Ω rt own seen L B) (S : St w a e' γ I' F (fun _ => False) Ω') (hI : ∀ b, I b → I' b) (hΩ : ∀ b, Ω b → Ω' b) (hs : ∀ n, n ∈ own ∨ n ∈ seen → e'.get n = e.get n) : ABag w a e' γ I' F Ω' rt own seen L B := by
  refine ⟨S, fun i hi => (A.ok i hi).imp ?_ ?_, A.sep, fun i hi => (A.claim i hi).imp (fun k b hb => hΩ b (k b hb)) id, fun x hx => ⟨(A.back x hx).1, ?_⟩, A.nodup, A.inL, A.off⟩
  · rintro ⟨kk, c, t, m, x, g, h1, h2, h3, h4, h5⟩
    refine ⟨kk, c, t, m, x, g, h1, h2.mono hI fun _ _ k => k, h3, fun b hb => (h4 b hb).imp (hI b) fun k => ⟨k.1, ?_⟩, h5⟩
    obtain ⟨n, hn, k⟩ := k.2
    exact ⟨n, hn, by rw [hs n (.inr hn)]; exact k⟩
  · exact fun k => ⟨k.1.mono hI, k.2⟩
  · rw [hs _ (.inl (A.back x hx).1)]; exact (A.back x hx).2
/-- what an earlier argument holds is in flight, or a slot's that is handed in and out -/
theorem ABag.where (A : ABag w a e γ I F Ω rt own seen L B) {i : Item} (hi : i ∈ L) {b : Nat} (hb : OwnS i.z i.γ b) : Ω b ∨ ∃ n, n ∈ own ∧ OwnS (e.get n) (γ n) b := by
  rcases A.claim i hi with k | ⟨k, hk⟩
  · exact .inl (k b hb)
  · exact .inr ⟨_, (A.back _ hk).1, (A.back _ hk).2.own hb⟩
theorem ABag.addV (A : ABag w a e γ I F Ω rt own seen L B) {i : Item} {seen' : List Nat} (hs : ∀ n, n ∈ seen → n ∈ seen') (ho : ∀ n ∈ own, n ∉ seen') (hv : AVal w I F e γ rt seen' i) : ABag w a e γ I F Ω rt own seen' (L ++ [i]) B := by
  refine ⟨A.st, fun j hj => ?_, ?_, fun j hj => ?_, A.back, A.nodup, fun x hx => List.mem_append_left _ (A.inL x hx), ho⟩
  · rcases List.mem_append.1 hj with hj | hj
    · refine (A.ok j hj).imp ?_ id
      rintro ⟨kk, c, t, m, x, g, h1, h2, h3, h4, h5⟩
      exact ⟨kk, c, t, m, x, g, h1, h2, h3, fun b hb => (h4 b hb).imp id fun k => ⟨k.1, k.2.elim fun n k => ⟨n, hs n k.1, k.2⟩⟩, h5⟩
    · rw [List.mem_singleton.1 hj]; exact .inl hv
  · rw [List.pairwise_append]
    refine ⟨A.sep, List.pairwise_singleton _ _, fun x hx y hy b h1 h2 => ?_⟩
    rw [List.mem_singleton.1 hy] at h2
    exact hv.none h2
  · rcases List.mem_append.1 hj with hj | hj
    · exact A.claim j hj
    · rw [List.mem_singleton.1 hj]; exact .inl fun b hb => absurd hb hv.none
theorem ABag.addE (A : ABag w a e γ I F Ω rt own seen L B) {i : Item} {own' : List Nat} (hs : ∀ n, n ∈ own → n ∈ own') (ho : ∀ n ∈ own', n ∉ seen) (hv : AExc w I F i) (hd : ∀ j ∈ L, ∀ b, OwnS j.z j.γ b → ¬ OwnS i.z i.γ b) (hΩ : ∀ b, OwnS i.z i.γ b → Ω b) : ABag w a e γ I F Ω rt own' seen (L ++ [i]) B := by
  refine ⟨A.st, fun j hj => ?_, ?_, fun j hj => ?_, fun x hx => ⟨hs _ (A.back x hx).1, (A.back x hx).2⟩, A.nodup, fun x hx => List.mem_append_left _ (A.inL x hx), ho⟩
  · rcases List.mem_append.1 hj with hj | hj
    · exact A.ok j hj
    · rw [List.mem_singleton.1 hj]; exact .inr hv
  · rw [List.pairwise_append]
    refine ⟨A.sep, List.pairwise_singleton _ _, fun x hx y hy b h1 h2 => ?_⟩
    rw [List.mem_singleton.1 hy] at h2
    exact hd x hx b h1 h2
  · rcases List.mem_append.1 hj with hj | hj
    · exact A.claim j hj
    · rw [List.mem_singleton.1 hj]; exact .inl hΩ
theorem ABag.addB (A : ABag w a e γ I F Ω rt own seen L B) {i : Item} {k : Back} (h1 : k.r ∉ own) (h2 : k.r ∉ seen) (hv : AExc w I F i) (hk : BackOk (e.get k.r) (γ k.r) k i) : ABag w a e γ I F Ω rt (k.r :: own) seen (L ++ [i]) (B ++ [(k, i)]) := by
  have hin : ∀ n, n ∈ own → n ≠ k.r := fun n hn c => h1 (c ▸ hn)
  refine ⟨A.st, fun j hj => ?_, ?_, fun j hj => ?_, fun x hx => ?_, ?_, fun x hx => ?_, fun n hn => ?_⟩
  · rcases List.mem_append.1 hj with hj | hj
    · exact A.ok j hj
    · rw [List.mem_singleton.1 hj]; exact .inr hv
  · rw [List.pairwise_append]
    refine ⟨A.sep, List.pairwise_singleton _ _, fun x hx y hy b q1 q2 => ?_⟩
    rw [List.mem_singleton.1 hy] at q2
    have q3 := hk.own q2
    rcases A.where hx q1 with u | ⟨n, hn, u⟩
    · exact A.st.flt k.r b id q3 u
    · exact A.st.sep n k.r b id id (hin n hn) u q3
  · rcases List.mem_append.1 hj with hj | hj
    · exact (A.claim j hj).imp id fun ⟨q, hq⟩ => ⟨q, List.mem_append_left _ hq⟩
    · rw [List.mem_singleton.1 hj]; exact .inr ⟨k, by simp⟩
  · rcases List.mem_append.1 hx with hx | hx
    · exact ⟨List.mem_cons_of_mem _ (A.back x hx).1, (A.back x hx).2⟩
    · rw [List.mem_singleton.1 hx]; exact ⟨List.mem_cons_self, hk⟩
  · rw [List.map_append, List.nodup_append]
    refine ⟨A.nodup, List.nodup_cons.2 ⟨List.not_mem_nil, List.nodup_nil⟩, fun n hn n' hn' => ?_⟩
    rw [List.map_singleton, List.mem_singleton] at hn'
    obtain ⟨x, hx, rfl⟩ := List.mem_map.1 hn
    rw [hn']; exact hin _ (A.back x hx).1
  · rcases List.mem_append.1 hx with hx | hx
    · exact List.mem_append_left _ (A.inL x hx)
    · rw [List.mem_singleton.1 hx]; simp
  · rcases List.mem_cons.1 hn with rfl | hn
    · exact h2
    · exact A.off n hn

/-- what comes back, told by the places that take it -/
def bkSV : List Back → List ((t : Ty) × t.den) → Option (List SV)
  | [], [] => some []
  | b :: bs, d :: ds => (d.1.cast b.t d.2).bind fun x => (bkSV bs ds).bind fun l => some (.val (if b.box then .box else .reg) b.t b.m x :: l)
  | _, _ => none
/-- one argument -/
structure Arg1 (w : World) (a : Nat → Value) (e' : Env) (γ : Nat → Gs) (I I' F Ω' : Nat → Prop) (rt : Bool) (L : List Item) (B : List (Back × Item)) (g : PSig) (v : Value) (z z' : Args) (i : Item) (Bn : List (Back × Item)) : Prop where
  bag : ABag w a e' γ I' F Ω' rt z'.own z'.seen (L ++ [i]) (B ++ Bn)
  v : i.v = v
  imm : ∀ b, I b → I' b
  new : ∀ b, I' b → I b ∨ F b
  ds : ∃ dn, z'.ds = z.ds ++ dn ∧ ∀ gs ds svs, insSV gs ds = some svs → insSV (g :: gs) (dn ++ ds) = some (i.sv :: svs)
  backs : z'.backs = z.backs ++ Bn.map (·.1)
  bk : (Bn = [] ∧ g.isBack = false) ∨ ∃ k, Bn = [(k, i)] ∧ g.isBack = true ∧ ∀ gs bs, (∀ ys, backSV gs ys = bkSV bs ys) → ∀ ys, backSV (g :: gs) ys = bkSV (k :: bs) ys

theorem argV (t : Ty) {m : Md} {x : t.den} {g : G} {z : Args} (A : ABag w a e γ I F Ω rt z.own z.seen L B) {seen' : List Nat} (hs : ∀ n, n ∈ z.seen → n ∈ seen') (ho : ∀ n ∈ z.own, n ∉ seen') {v : Value} (hv : v = toV t x g) (hM : Mem w I F t m x g) (hf : t.fits m = true)
    (hO : ∀ b, Own t m g b → I b ∨ (rt = false ∧ ∃ n, n ∈ seen' ∧ OwnS (e.get n) (γ n) b)) :
    Arg1 w a e γ I I F Ω rt L B (.val t) v z { z with ds := z.ds ++ [⟨t, x⟩], seen := seen' } ⟨.val .reg t (vm t) x, toV t x g, ⟨none, g⟩⟩ [] := by
  refine ⟨?_, hv.symm, fun _ k => k, fun _ k => .inl k, ⟨_, rfl, fun gs ds svs h => ?_⟩, by simp, .inl ⟨rfl, rfl⟩⟩
  · rw [List.append_nil]; exact A.addV hs ho ⟨.reg, none, t, m, x, g, rfl, hM, hf, fun b hb => hb.elim (hO b) fun ⟨_, h, _⟩ => (by cases h), .inl ⟨rfl, rfl⟩⟩
  · simp only [List.singleton_append, insSV, cast_self, Option.bind_some, h]; rfl
theorem argP (f : Option Nat) (t : Ty) {m : Md} {x : t.den} {g : G} {ad : Addr} {C : Array Value} {te : TypeId} {fz : Nat × Nat} {z : Args} (A : ABag w a e γ I F Ω rt z.own z.seen L B) {seen' : List Nat} (hs : ∀ n, n ∈ z.seen → n ∈ seen') (ho : ∀ n ∈ z.own, n ∉ seen')
    {v : Value} (hv : v = kV (.pin f) t x ⟨some ad, g⟩) (hM : Mem w I F t m x g) (hf : t.fits m = true) (h1 : ad.spot = none) (h2 : w.heap[ad.block]? = some (.cells C te fz)) (h3 : At w (some ad) 0 (cells t x g))
    (hO : ∀ b, Own t m g b ∨ ad.block = b → I b ∨ (rt = false ∧ ∃ n, n ∈ seen' ∧ OwnS (e.get n) (γ n) b)) :
    Arg1 w a e γ I I F Ω rt L B (.pin f t) v z { z with ds := z.ds ++ [⟨t, x⟩], seen := seen' } ⟨.val (.pin f) t (vm t) x, kV (.pin f) t x ⟨some ad, g⟩, ⟨some ad, g⟩⟩ [] := by
  refine ⟨?_, hv.symm, fun _ k => k, fun _ k => .inl k, ⟨_, rfl, fun gs ds svs h => ?_⟩, by simp, .inl ⟨rfl, rfl⟩⟩
  · rw [List.append_nil]; exact A.addV hs ho ⟨.pin f, some ad, t, m, x, g, rfl, hM, hf, fun b hb => hO b (hb.imp id fun ⟨ad', h, k⟩ => (by cases h; exact k)), .inr ⟨f, ad, C, te, fz, rfl, rfl, h1, h2, h3⟩⟩
  · simp only [List.singleton_append, insSV, cast_self, Option.bind_some, h]; rfl
theorem argMv (t : Ty) {m m' : Md} {x : t.den} {g : G} {z : Args} (A : ABag w a e γ I F Ω rt z.own z.seen L B) {own' : List Nat} (hs : ∀ n, n ∈ z.own → n ∈ own') (ho : ∀ n ∈ own', n ∉ z.seen) {v : Value} (hv : v = toV t x g) {I0 : Nat → Prop} (hI0 : ∀ b, I0 b → I b) (hI1 : ∀ b, I b → I0 b ∨ F b) (hM : Mem w I F t m x g) (hS : Sep t m g)
    (hO : ∀ b, Own t m g b → Ω b ∧ ∀ j ∈ L, ¬ OwnS j.z j.γ b) (hc : t.coer m m' = true) :
    ∃ I' Ω', Arg1 w a e γ I0 I' F Ω' rt L B (.mv t m') v z { z with ds := z.ds ++ [⟨t, x⟩], own := own' } ⟨.val .reg t m' x, toV t x g, ⟨none, g⟩⟩ [] := by
  let I' : Nat → Prop := fun b => I b ∨ (Own t m g b ∧ ¬ Own t m' g b)
  have S' := A.st.shut (I' := I') (fun b hb => .inl hb) fun b hb => hb.imp id fun hb => (hO b hb.1).1
  have hM' : Mem w I' F t m' x g := hM.coer hc hS (fun b hb => .inl hb) (fun b hb => (A.st.lvΩ b (hO b hb).1).1) fun b h1 h2 => .inr ⟨h1, h2⟩
  refine ⟨I', fun b => Ω b ∧ ¬ I' b, ?_, hv.symm, fun b hb => .inl (hI0 b hb), fun b hb => hb.elim (hI1 b) fun hb => .inr (A.st.lvΩ b (hO b hb.1).1).1, ⟨_, rfl, fun gs ds svs h => ?_⟩, by simp, .inl ⟨rfl, rfl⟩⟩
  · rw [List.append_nil]
    have A' : ABag w a e γ I' F (fun b => Ω b ∧ ¬ I' b) rt z.own z.seen L B := by
      refine ⟨S', fun i hi => (A.ok i hi).imp ?_ fun k => ⟨k.1.mono fun b hb => .inl hb, k.2⟩, A.sep, fun i hi => (A.claim i hi).imp (fun k b hb => ⟨k b hb, fun c => ?_⟩) id, A.back, A.nodup, A.inL, A.off⟩
      · rintro ⟨kk, c, t', m', x', g', h1, h2, h3, h4, h5⟩
        exact ⟨kk, c, t', m', x', g', h1, h2.mono (fun b hb => .inl hb) fun _ _ k => k, h3, fun b hb => (h4 b hb).imp .inl id, h5⟩
      · rcases c with c | c
        · exact (A.st.lvΩ b (k b hb)).2.1 c
        · exact (hO b c.1).2 i hi hb
    refine A'.addE hs ho ⟨⟨rfl, hM', hS.coer hc, rfl⟩, fun _ _ _ _ _ _ _ c => (by cases c)⟩ (fun j hj b h1 h2 => ?_) fun b hb => ?_
    · have h2' : Own t m' g b := h2
      exact (hO b (h2'.coer hc)).2 j hj h1
    · have hb' : Own t m' g b := hb
      have h1 := hb'.coer hc
      exact ⟨(hO b h1).1, fun k => k.elim (A.st.lvΩ b (hO b h1).1).2.1 fun k => k.2 hb'⟩
  · simp only [List.singleton_append, insSV, cast_self, Option.bind_some, h]
end
end Go.Den
/-
  Calls: all arguments.
-/
namespace Go.Den
open Go
set_option linter.unusedVariables false
set_option linter.unusedSimpArgs false
section
variable {Γ : Ctx} {O : Fun Γ} {R : Type} {w : World} {a : Nat → Value} {e e' : Env} {γ : Nat → Gs} {I I' F Ω Ω' : Nat → Prop} {rt : Bool} {own seen : List Nat} {L : List Item} {B : List (Back × Item)} {r : R}
theorem notMem {l : List Nat} {n : Nat} (h : l.contains n = false) : n ∉ l := by simpa [List.contains_eq_mem] using h
theorem OwnS.sv {z : Slot} {γ : Gs} {kk : VK} {T : Ty} {N : Md} {X : T.den} {b : Nat} (hz : z.sv = .val kk T N X) (h : Own T N γ.g b) : OwnS z γ b := by
  unfold OwnS
  rw [hz]
  cases kk <;> first | exact h | exact .inr h
/-- a box's pointer, or one that came in, handed on to be read -/
theorem argPbox (f : Option Nat) {z : Args} (A : ABag w a e γ I F Ω false z.own z.seen L B) {n : Nat} (hn : n ∉ z.own) {T : Ty} {N : Md} {X : T.den} (hq : (e.get n).sv = .val .box T N X) (hf : T.fits N = true) {v : Value} (hv : v = kV (.pin f) T X (γ n)) :
    ∃ i, Arg1 w a e γ I I F Ω false L B (.pin f T) v z { z with ds := z.ds ++ [⟨T, X⟩], seen := n :: z.seen } i [] := by
  have slot := A.st.slot n id
  have he : e.get n = ⟨(e.get n).ver, (e.get n).sver, (e.get n).dver, .val .box T N X⟩ := by rw [← hq]
  unfold SlotOk at slot
  rw [hq] at slot
  obtain ⟨v1, v2, v3, ad, C, te, b1, b2, b3, b4, b5⟩ := slot
  have hg : γ n = ⟨some ad, (γ n).g⟩ := by rw [← b1]
  refine ⟨_, argP f T A (seen' := n :: z.seen) (fun j hj => List.mem_cons_of_mem _ hj) (fun j hj c => ?_) (hg ▸ hv) v2 hf b2 b3 (b1 ▸ b4) fun b hb => .inr ⟨rfl, n, List.mem_cons_self, ?_⟩⟩
  · rcases List.mem_cons.1 c with c | c
    · exact hn (c ▸ hj)
    · exact A.off j hj c
  · rw [he, OwnS.val]
    rcases hb with hb | hb
    · exact .inr hb
    · exact .inl (.inl ⟨rfl, ad, b1, hb⟩)
theorem argPpin (f : Option Nat) {rt : Bool} {z : Args} (A : ABag w a e γ I F Ω rt z.own z.seen L B) {n : Nat} {f' : Option Nat} {T : Ty} {N : Md} {X : T.den} (hq : (e.get n).sv = .val (.pin f') T N X) {v : Value} (hv : v = kV (.pin f) T X (γ n)) :
    ∃ i, Arg1 w a e γ I I F Ω rt L B (.pin f T) v z { z with ds := z.ds ++ [⟨T, X⟩] } i [] := by
  have slot := A.st.slot n id
  unfold SlotOk at slot
  rw [hq] at slot
  obtain ⟨v1, v2, v3, ⟨o, ho⟩, ad, C, te, fz, b1, b2, b3, b4, b5⟩ := slot
  have hg : γ n = ⟨some ad, (γ n).g⟩ := by rw [← b1]
  refine ⟨_, argP f T A (seen' := z.seen) (fun j hj => hj) A.off (hg ▸ hv) v2 (by rw [ho]; exact free_fits (free_sh _ _)) b2 b3 (b1 ▸ b4) fun b hb => ?_⟩
  rcases hb with hb | hb
  · rw [ho] at hb; exact absurd hb (Own.sh _ _ _ _)
  · exact .inl (hb ▸ b5)
theorem PtrOk.whole {n : Nat} {t : Ty} {v : Value} (h : PtrOk e γ n [] t v) {kk : VK} {T : Ty} {N : Md} {X : T.den} (hq : (e.get n).sv = .val kk T N X) : ∃ ad, (γ n).b = some ad ∧ v = .pointer (γ n).b := by
  obtain ⟨kk', T', N', X', e1, o1, _, ad, o3, o4⟩ := h
  rw [hq] at e1
  cases e1
  have : place T (γ n).g (γ n).b [] = (γ n).b := by cases T <;> rfl
  rw [this] at o3
  exact ⟨ad, o3, by rw [o4, o3]⟩
theorem argM_ok {g : PSig} {o : OV} {v : Value} {z : Args} (A : ABag w a e γ I F Ω rt z.own z.seen L B) (D : OVok w a I F e γ o v) {k : Args → Env → Option R} (h : (argM (Γ := Γ) rt g o z).run O e k = some r) :
    ∃ z' i e' I' Ω' Bn, k z' e' = some r ∧ Arg1 w a e' γ I I' F Ω' rt L B g v z z' i Bn := by
  have nf : ∀ n : Nat, ¬ (fun _ : Nat => False) n := fun _ => id
  cases g with
  | val t =>
    simp only [argM, run_bind] at h
    obtain ⟨m, x, src, gg, Dd, h⟩ := asData_ok D h
    simp only at h
    split at h
    · rename_i hf
      exact ⟨_, _, e, I, Ω, [], h, argV t A (fun _ k => k) A.off Dd.v Dd.mem (free_fits hf) fun b hb => absurd hb (Own.free hf)⟩
    · have Sa := Dd.src
      cases src with
      | none =>
        simp only at h
        split at h
        · rename_i hf
          exact ⟨_, _, e, I, Ω, [], h, argV t A (fun _ k => k) A.off Dd.v Dd.mem hf fun b hb => absurd hb (Sa b)⟩
        · cases h
      | some s =>
        obtain ⟨n, p⟩ := s
        simp only at h
        split at h
        · cases h
        rename_i hc
        simp only [Bool.or_eq_true, Bool.not_eq_true', not_or, Bool.not_eq_true, Bool.not_eq_false] at hc
        obtain ⟨kk, T, N, X, e1, W⟩ := Sa
        have hown : ∀ b, Own t m gg b → OwnS (e.get n) (γ n) b := fun b hb => OwnS.sv e1 ((W.own_iff b).2 (.inr hb))
        have ho : ∀ j ∈ z.own, j ∉ n :: z.seen := fun j hj c => by
          rcases List.mem_cons.1 c with c | c
          · exact notMem hc.1 (c ▸ hj)
          · exact A.off j hj c
        split at h
        · rename_i hr
          split at h
          · cases h
          rename_i hns
          rw [run_bind] at h
          obtain ⟨m', e', I1, Ω1, h, HD⟩ := handOver_ok A.st nf Dd.mem Dd.sep Dd.src h
          have same : ∀ j, j ∈ z.own ∨ j ∈ z.seen → e'.get j = e.get j := fun j hj => HD.same j fun q c => by
            cases c
            rcases hj with hj | hj
            · exact notMem hc.1 hj
            · exact notMem (by simpa using hns) hj
          have K := argV t (A.next HD.st HD.imm HD.flt same) (seen' := n :: z.seen) (fun j hj => List.mem_cons_of_mem _ hj) ho Dd.v (Dd.mem.mono HD.imm fun _ _ k => k) hc.2 fun b hb => .inl (HD.giv rfl b hb)
          exact ⟨_, _, e', I1, Ω1, [], h, { K with imm := HD.imm, new := fun b hb => (HD.new b hb).imp id (·.1) }⟩
        · rename_i hr
          exact ⟨_, _, e, I, Ω, [], h, argV t A (seen' := n :: z.seen) (fun j hj => List.mem_cons_of_mem _ hj) ho Dd.v Dd.mem hc.2 fun b hb => .inr ⟨by simpa using hr, n, List.mem_cons_self, hown b hb⟩⟩
  | mv t m' =>
    simp only [argM, run_bind] at h
    obtain ⟨m, x, src, gg, Dd, h⟩ := asData_ok D h
    simp only at h
    split at h
    · cases h
    rename_i hc
    simp only [Bool.not_eq_true', Bool.not_eq_false] at hc
    have Sa := Dd.src
    cases src with
    | none =>
      simp only at h
      obtain ⟨I', Ω', K⟩ := argMv t A (own' := z.own) (fun _ k => k) A.off Dd.v (I0 := I) (fun _ k => k) (fun _ k => .inl k) Dd.mem Dd.sep (fun b hb => absurd hb (Sa b)) hc
      exact ⟨_, _, e, I', Ω', [], h, K⟩
    | some s =>
      obtain ⟨n, p⟩ := s
      simp only at h
      split at h
      · rename_i hf
        obtain ⟨I', Ω', K⟩ := argMv t A (own' := z.own) (fun _ k => k) A.off Dd.v (I0 := I) (fun _ k => k) (fun _ k => .inl k) Dd.mem Dd.sep (fun b hb => absurd hb (Own.free hf)) hc
        exact ⟨_, _, e, I', Ω', [], h, K⟩
      split at h
      · cases h
      rename_i hn
      simp only [Bool.or_eq_true, not_or, Bool.not_eq_true] at hn
      rw [run_bind] at h
      obtain ⟨m1, e', I1, Ω1, h', HD⟩ := handOver_ok A.st nf Dd.mem Dd.sep Dd.src h
      obtain ⟨q1, q2⟩ := HD.take rfl
      subst q1
      subst q2
      have same : ∀ j, j ∈ z.own ∨ j ∈ z.seen → e'.get j = e.get j := fun j hj => HD.same j fun q c => by
        cases c
        rcases hj with hj | hj
        · exact notMem hn.1 hj
        · exact notMem hn.2 hj
      obtain ⟨I', Ω', K⟩ := argMv t (A.next HD.st HD.imm HD.flt same) (own' := n :: z.own) (fun j hj => List.mem_cons_of_mem _ hj) (fun j hj c => by
        rcases List.mem_cons.1 hj with rfl | hj
        · exact notMem hn.2 c
        · exact A.off j hj c) Dd.v (I0 := I1) (fun _ k => k) (fun _ k => .inl k) HD.mem HD.sep (fun b hb => ⟨(HD.own b hb).1, fun j hj k => by
          rcases A.where hj k with u | ⟨n', hn', u⟩
          · exact (HD.own b hb).2 u
          · exact HD.st.flt n' b id (by rw [same n' (.inl hn')]; exact u) (HD.own b hb).1⟩) hc
      exact ⟨_, _, e', I', Ω', [], h', K⟩
  | io t m' =>
    simp only [argM, run_bind] at h
    obtain ⟨m, x, src, gg, Dd, h⟩ := asData_ok D h
    simp only at h
    split at h
    · cases h
    rename_i hc
    simp only [Bool.or_eq_true, Bool.not_eq_true', not_or, Bool.not_eq_false] at hc
    obtain ⟨hc1, hc2⟩ := hc
    have hc3 : (!t.rowsFlat) = true ∨ t.rowsFlat = true := by cases t.rowsFlat <;> simp
    have Sa := Dd.src
    cases src with
    | none => cases h
    | some s =>
      obtain ⟨n, p⟩ := s
      simp only at h
      split at h
      · cases h
      rename_i hn
      simp only [Bool.or_eq_true, not_or, Bool.not_eq_true] at hn
      obtain ⟨kk, T, N, X, e1, W⟩ := Sa
      generalize hq : e.get n = q at e1
      obtain ⟨ve, sv, dv, q⟩ := q
      simp only at e1
      subst e1
      have hF : ∀ b, Own t m gg b → F b := fun b hb => (A.st.lv n b id (by rw [hq, OwnS.val]; exact .inr ((W.own_iff b).2 (.inr hb)))).1
      have hE : AExc w I F ⟨.val .reg t m' x, toV t x gg, ⟨none, gg⟩⟩ := ⟨⟨rfl, Mem.both hc1 hc2 Dd.mem Dd.sep hF, Dd.sep.coer hc1, rfl⟩, fun _ _ _ _ _ _ _ c => (by cases c)⟩
      have A' := A.addB (k := ⟨n, p, t, m', !t.rowsFlat, false⟩) (notMem hn.1) (notMem hn.2) hE (show BackOk (e.get n) (γ n) ⟨n, p, t, m', !t.rowsFlat, false⟩ _ by
        rw [hq]; exact ⟨ve, sv, dv, kk, T, N, X, m, x, gg, rfl, W, rfl, hc1, hc2, hc3⟩)
      refine ⟨_, _, e, I, Ω, _, h, ⟨A', Dd.v.symm, fun _ k => k, fun _ k => .inl k, ⟨_, rfl, fun gs ds svs h => ?_⟩, rfl, .inr ⟨_, rfl, rfl, fun gs bs hb ys => ?_⟩⟩⟩
      · simp only [List.singleton_append, insSV, cast_self, Option.bind_some, h]
      · cases ys with
        | nil => rfl
        | cons y ys => simp only [backSV, bkSV, hb]; rfl
  | pio t m' m2 =>
    cases o with
    | ptr n p t' =>
      cases p with
      | cons _ _ => cases h
      | nil =>
        simp only [argM] at h
        split at h
        · cases h
        rename_i hn
        simp only [Bool.or_eq_true, not_or, Bool.not_eq_true] at hn
        simp only [M.run] at h
        generalize hq : e.get n = q at h
        obtain ⟨ve, sv, dv, q⟩ := q
        simp only at h
        split at h
        · rename_i T N X
          split at h
          · rename_i hc
            simp only [Bool.and_eq_true] at hc
            rw [run_bind] at h
            obtain ⟨x, hx, h⟩ := run_ofOpt h
            obtain ⟨he, hx⟩ := cast_some hx
            subst he
            simp only at hx
            subst hx
            have slot := A.st.slot n id
            rw [hq] at slot
            obtain ⟨v1, v2, v3, ad, C, te, b1, b2, b3, b4, b5⟩ := slot
            have hF : ∀ b, Own T N (γ n).g b → F b := fun b hb => (A.st.lv n b id (by rw [hq, OwnS.val]; exact .inr hb)).1
            have hE : AExc w I F ⟨.val .box T m' X, .pointer (γ n).b, γ n⟩ := ⟨⟨rfl, Mem.both hc.1 hc.2 v2 v3 hF, v3.coer hc.1, ad, C, te, b1, b2, b3, b4, fun k => b5 (k.coer hc.1)⟩, fun _ _ _ _ _ _ _ c => (by cases c)⟩
            have A' := A.addB (k := ⟨n, [], T, m2, true, true⟩) (notMem hn.1) (notMem hn.2) hE (show BackOk (e.get n) (γ n) ⟨n, [], T, m2, true, true⟩ _ by
              rw [hq]; exact ⟨rfl, rfl, ve, sv, dv, N, X, m', rfl, rfl, hc.1, hc.2⟩)
            have hv : .pointer (γ n).b = v := by
              obtain ⟨kk, T', N', X', e1, o1, _, ad', o3, o4⟩ := D
              rw [hq] at e1
              cases e1
              have : place T (γ n).g (γ n).b [] = (γ n).b := by cases T <;> rfl
              rw [this] at o3
              rw [o4, ← o3]
            refine ⟨_, _, e, I, Ω, _, h, ⟨A', hv, fun _ k => k, fun _ k => .inl k, ⟨_, rfl, fun gs ds svs h => ?_⟩, rfl, .inr ⟨_, rfl, rfl, fun gs bs hb ys => ?_⟩⟩⟩
            · simp only [List.singleton_append, insSV, cast_self, Option.bind_some, h]
            · cases ys with
              | nil => rfl
              | cons y ys => simp only [backSV, bkSV, hb]; rfl
          · cases h
        · cases h
    | data k' _ _ _ _ => cases k' <;> cases h
    | clo _ _ _ _ => cases h
    | cl _ _ => cases h
    | fn _ _ => cases h
    | nil => cases h
    | cst _ => cases h
  | pin f t =>
    simp only [argM] at h
    split at h
    · cases h
    rename_i hrt
    obtain rfl : rt = false := by simpa using hrt
    split at h
    · rename_i n t'
      split at h
      · rename_i hc
        simp only [Bool.and_eq_true, Bool.not_eq_true', decide_eq_true_eq] at hc
        obtain ⟨rfl, hn⟩ := hc
        simp only [M.run] at h
        split at h
        · rename_i T N X hq
          split at h
          · rename_i hf
            rw [run_bind] at h
            obtain ⟨x, hx, h⟩ := run_ofOpt h
            obtain ⟨he, hx⟩ := cast_some hx
            subst he
            simp only at hx
            subst hx
            obtain ⟨ad, _, hv⟩ := PtrOk.whole D hq
            obtain ⟨i, K⟩ := argPbox none A (notMem hn) hq hf hv
            exact ⟨_, i, e, I, Ω, [], h, K⟩
          · cases h
        · rename_i T N X hq
          rw [run_bind] at h
          obtain ⟨x, hx, h⟩ := run_ofOpt h
          obtain ⟨he, hx⟩ := cast_some hx
          subst he
          simp only at hx
          subst hx
          obtain ⟨ad, _, hv⟩ := PtrOk.whole D hq
          obtain ⟨i, K⟩ := argPpin none A hq hv
          exact ⟨_, i, e, I, Ω, [], h, K⟩
        · cases h
      · cases h
    · rename_i g n t'
      obtain ⟨u, D, hu⟩ := D
      split at h
      · rename_i hc
        simp only [Bool.and_eq_true, Bool.not_eq_true', decide_eq_true_eq] at hc
        obtain ⟨rfl, hn⟩ := hc
        simp only [M.run] at h
        split at h
        · rename_i T N X hq
          split at h
          · rename_i hf
            rw [run_bind] at h
            obtain ⟨x, hx, h⟩ := run_ofOpt h
            obtain ⟨he, hx⟩ := cast_some hx
            subst he
            simp only at hx
            subst hx
            obtain ⟨ad, _, hv⟩ := PtrOk.whole D hq
            obtain ⟨i, K⟩ := argPbox (some g) A (notMem hn) hq hf (v := v) (by rw [hu, hv]; rfl)
            exact ⟨_, i, e, I, Ω, [], h, K⟩
          · cases h
        · rename_i T N X hq
          rw [run_bind] at h
          obtain ⟨x, hx, h⟩ := run_ofOpt h
          obtain ⟨he, hx⟩ := cast_some hx
          subst he
          simp only at hx
          subst hx
          obtain ⟨ad, _, hv⟩ := PtrOk.whole D hq
          obtain ⟨i, K⟩ := argPpin (some g) A hq (v := v) (by rw [hu, hv]; rfl)
          exact ⟨_, i, e, I, Ω, [], h, K⟩
        · cases h
      · cases h
    · rename_i f' T N X src
      split at h
      · rename_i hc
        subst hc
        obtain ⟨n, f'', rfl, hq, hv, _⟩ := D
        rw [run_bind] at h
        obtain ⟨x, hx, h⟩ := run_ofOpt h
        obtain ⟨he, hx⟩ := cast_some hx
        subst he
        simp only at hx
        subst hx
        obtain ⟨i, K⟩ := argPpin f A hq hv
        exact ⟨_, i, e, I, Ω, [], h, K⟩
      · cases h
    · cases h
  | fn g cs =>
    cases o with
    | fn g' cs' =>
      simp only [argM] at h
      split at h
      · rename_i hc
        simp only [Bool.and_eq_true, decide_eq_true_eq] at hc
        obtain ⟨⟨hc1, hc2⟩, hc3⟩ := hc
        subst hc1 hc2 hc3
        have hE : AExc w I F ⟨.fn g [], .func (.func g) #[] #[], ⟨none, .lf⟩⟩ := ⟨⟨rfl, rfl⟩, fun _ _ _ _ _ _ _ c => (by cases c)⟩
        have A' := A.addE (own' := z.own) (fun _ k => k) A.off hE (fun j _ b _ k => k) fun b k => k.elim
        refine ⟨_, _, e, I, Ω, [], h, ⟨by rw [List.append_nil]; exact A', D.2.symm, fun _ k => k, fun _ k => .inl k, ⟨[], by simp, fun gs ds svs h => ?_⟩, by simp, .inl ⟨rfl, rfl⟩⟩⟩
        simp only [List.nil_append]
        have : insSV (.fn g [] :: gs) ds = (insSV gs ds).bind fun l => some (.fn g [] :: l) := by cases ds <;> rfl
        rw [this, h]; rfl
      · cases h
    | data k' _ _ _ _ => cases k' <;> cases h
    | ptr _ _ _ => cases h
    | clo _ _ _ _ => cases h
    | cl _ _ => cases h
    | nil => cases h
    | cst _ => cases h
theorem capOf_ok {o : OV} {v : Value} (D : OVok w a I F e γ o v) (hn : isCap o = true) : ∃ g u, v = .func (.func g) #[] #[u] ∧ OVok w a I F e γ (capOf o) u := by
  cases o with
  | data kk t m x src =>
    cases kk with
    | pin f =>
      cases f with
      | none => cases hn
      | some g =>
        obtain ⟨n, f', h1, h2, h3, h4⟩ := D
        exact ⟨g, .pointer (γ n).b, h3, n, f', h1, h2, rfl, .inl rfl⟩
    | _ => cases hn
  | clo g n p t =>
    obtain ⟨u, h1, h2⟩ := D
    exact ⟨g, u, h2, h1⟩
  | _ => cases hn
theorem argsM_ok {k : Args → Env → Option R} : ∀ (gs : List PSig) (os : List Operand) {z : Args} {e : Env} {I Ω : Nat → Prop} {L : List Item} {B : List (Back × Item)}, ABag w a e γ I F Ω rt z.own z.seen L B →
    (argsM (Γ := Γ) rt gs os z).run O e k = some r →
    ∃ z' its e' I' Ω' Bn, k z' e' = some r ∧ ABag w a e' γ I' F Ω' rt z'.own z'.seen (L ++ its) (B ++ Bn) ∧ its.map Item.v = os.map (ev a) ∧ (∀ b, I b → I' b) ∧ (∀ b, I' b → I b ∨ F b) ∧
      (∃ dn, z'.ds = z.ds ++ dn ∧ insSV gs dn = some (its.map Item.sv)) ∧ z'.backs = z.backs ++ Bn.map (·.1) ∧ (∀ ys, backSV gs ys = bkSV (Bn.map (·.1)) ys) ∧ backOf gs (its.map Item.v) = Bn.map (fun x => x.2.v)
  | [], [], z, e, I, Ω, L, B, A, h => ⟨z, [], e, I, Ω, [], h, by rw [List.append_nil, List.append_nil]; exact A, rfl, fun _ k => k, fun _ k => .inl k, ⟨[], by simp, rfl⟩, by simp, fun ys => by cases ys <;> rfl, rfl⟩
  | [], _ :: _, z, e, I, Ω, L, B, A, h => by cases h
  | _ :: _, [], z, e, I, Ω, L, B, A, h => by cases h
  | g :: gs, o :: os, z, e, I, Ω, L, B, A, h => by
    simp only [argsM, run_bind] at h
    obtain ⟨ov, D, h⟩ := rd_ok A.st (fun _ => id) o h
    obtain ⟨z1, i, e1, I1, Ω1, Bn, h, K⟩ := argM_ok A D h
    obtain ⟨z', its, e', I', Ω', Bm, h, A', q1, q2, q3, ⟨dm, q4, q5⟩, q6, q7, q8⟩ := argsM_ok gs os K.bag h
    obtain ⟨dn, d1, d2⟩ := K.ds
    refine ⟨z', i :: its, e', I', Ω', Bn ++ Bm, h, ?_, ?_, fun b hb => q2 b (K.imm b hb), fun b hb => (q3 b hb).elim (K.new b) .inr, ⟨dn ++ dm, by rw [q4, d1, List.append_assoc], by rw [d2 gs dm _ q5]; rfl⟩, by rw [q6, K.backs, List.map_append, List.append_assoc], fun ys => ?_, ?_⟩
    · rw [List.append_assoc, List.append_assoc] at A'; exact A'
    · rw [List.map_cons, List.map_cons, q1, K.v]
    · rcases K.bk with ⟨k1, k2⟩ | ⟨bk, k1, k2, k3⟩
      · subst k1
        rw [backSV_skip k2]; exact q7 ys
      · subst k1
        exact k3 gs _ q7 ys
    · rcases K.bk with ⟨k1, k2⟩ | ⟨bk, k1, k2, k3⟩
      · subst k1
        rw [List.map_cons]
        cases g <;> first | exact q8 | cases k2
      · subst k1
        rw [List.map_cons, List.singleton_append, List.map_cons, ← q8]
        cases g <;> first | rfl | cases k2
/-- the arguments, then what the closure is bound to -/
theorem argsC_ok {f : Operand} {k : Args → Env → Option R} : ∀ (gs : List PSig) (os : List Operand) {z : Args} {e : Env} {I Ω : Nat → Prop} {L : List Item} {B : List (Back × Item)}, ABag w a e γ I F Ω rt z.own z.seen L B →
    (argsC (Γ := Γ) rt gs os f z).run O e k = some r →
    ∃ z' its e' I' Ω' Bn g u, k z' e' = some r ∧ ABag w a e' γ I' F Ω' rt z'.own z'.seen (L ++ its) (B ++ Bn) ∧ its.map Item.v = os.map (ev a) ++ [u] ∧ ev a f = .func (.func g) #[] #[u] ∧ (∀ b, I b → I' b) ∧ (∀ b, I' b → I b ∨ F b) ∧
      (∃ dn, z'.ds = z.ds ++ dn ∧ insSV gs dn = some (its.map Item.sv)) ∧ z'.backs = z.backs ++ Bn.map (·.1) ∧ (∀ ys, backSV gs ys = bkSV (Bn.map (·.1)) ys) ∧ backOf gs (its.map Item.v) = Bn.map (fun x => x.2.v)
  | [], _, z, e, I, Ω, L, B, A, h => by cases h
  | [g], [], z, e, I, Ω, L, B, A, h => by
    simp only [argsC, run_bind] at h
    obtain ⟨ov, D, h⟩ := rd_ok A.st (fun _ => id) f h
    cases hn : isCap ov with
    | false => rw [hn] at h; cases h
    | true =>
      rw [hn] at h
      simp only [if_true] at h
      obtain ⟨fid, u, hu, D'⟩ := capOf_ok D hn
      obtain ⟨z1, i, e1, I1, Ω1, Bn, h, K⟩ := argM_ok A D' h
      obtain ⟨dn, d1, d2⟩ := K.ds
      refine ⟨z1, [i], e1, I1, Ω1, Bn, fid, u, h, K.bag, by rw [List.map_singleton, K.v]; rfl, hu, K.imm, K.new, ⟨dn, d1, ?_⟩, K.backs, fun ys => ?_, ?_⟩
      · have := d2 [] [] [] rfl
        rw [List.append_nil] at this
        exact this
      · rcases K.bk with ⟨k1, k2⟩ | ⟨bk, k1, k2, k3⟩
        · subst k1
          rw [backSV_skip k2]; cases ys <;> rfl
        · subst k1
          exact k3 [] [] (fun ys => by cases ys <;> rfl) ys
      · rcases K.bk with ⟨k1, k2⟩ | ⟨bk, k1, k2, k3⟩
        · subst k1
          rw [List.map_singleton]
          cases g <;> first | rfl | cases k2
        · subst k1
          rw [List.map_singleton, List.map_singleton]
          cases g <;> first | rfl | cases k2
  | g :: g' :: gs, [], z, e, I, Ω, L, B, A, h => by cases h
  | g :: gs, o :: os, z, e, I, Ω, L, B, A, h => by
    have h : (argsC (Γ := Γ) rt (g :: gs) (o :: os) f z).run O e k = some r := h
    have h2 : ((rd (Γ := Γ) o).bind fun ov => (argM rt g ov z).bind fun z => argsC rt gs os f z).run O e k = some r := by cases gs <;> exact h
    simp only [run_bind] at h2
    obtain ⟨ov, D, h⟩ := rd_ok A.st (fun _ => id) o h2
    obtain ⟨z1, i, e1, I1, Ω1, Bn, h, K⟩ := argM_ok A D h
    obtain ⟨z', its, e', I', Ω', Bm, fid, u, h, A', q1, q0, q2, q3, ⟨dm, q4, q5⟩, q6, q7, q8⟩ := argsC_ok gs os K.bag h
    obtain ⟨dn, d1, d2⟩ := K.ds
    refine ⟨z', i :: its, e', I', Ω', Bn ++ Bm, fid, u, h, ?_, ?_, q0, fun b hb => q2 b (K.imm b hb), fun b hb => (q3 b hb).elim (K.new b) .inr, ⟨dn ++ dm, by rw [q4, d1, List.append_assoc], by rw [d2 gs dm _ q5]; rfl⟩, by rw [q6, K.backs, List.map_append, List.append_assoc], fun ys => ?_, ?_⟩
    · rw [List.append_assoc, List.append_assoc] at A'; exact A'
    · rw [List.map_cons, List.map_cons, q1, K.v, List.cons_append]
    · rcases K.bk with ⟨k1, k2⟩ | ⟨bk, k1, k2, k3⟩
      · subst k1
        rw [backSV_skip k2]; exact q7 ys
      · subst k1
        exact k3 gs _ q7 ys
    · rcases K.bk with ⟨k1, k2⟩ | ⟨bk, k1, k2, k3⟩
      · subst k1
        rw [List.map_cons]
        cases g <;> first | exact q8 | cases k2
      · subst k1
        rw [List.map_cons, List.singleton_append, List.map_cons, ← q8]
        cases g <;> first | rfl | cases k2
end
end Go.Den
/-
  Calls: what comes back.
-/
namespace Go.Den
open Go
set_option linter.unusedVariables false
set_option linter.unusedSimpArgs false
theorem SlotOk.mono2 {w : World} {I I' F F' : Nat → Prop} {z : Slot} {v : Value} {γ : Gs} (h : SlotOk w I F z v γ) (hI : ∀ b, I b → I' b) (hF : ∀ b, I b → F b → F' b) : SlotOk w I' F' z v γ := by
  unfold SlotOk at h ⊢
  obtain ⟨ve, sv, dv, z⟩ := z
  cases z with
  | val k t m x =>
    obtain ⟨h1, h2, h3, h4⟩ := h
    refine ⟨h1, h2.mono hI hF, h3, ?_⟩
    cases k with
    | pin f =>
      obtain ⟨e1, a, C, te, fz, ha, hs, hC, hat, hI'⟩ := h4
      exact ⟨e1, a, C, te, fz, ha, hs, hC, hat, hI _ hI'⟩
    | _ => exact h4
  | _ => exact h
/-- the blocks that a call may write -/
def ownA (L : List Item) (b : Nat) : Prop := ∃ i, i ∈ L ∧ OwnS i.z i.γ b
def Ic (w : World) (I : Nat → Prop) (rt : Bool) (L : List Item) (b : Nat) : Prop := I b ∨ (rt = false ∧ b < w.heap.size ∧ ¬ ownA L b)
def Fc (w : World) (I F : Nat → Prop) (L : List Item) (b : Nat) : Prop := F b ∧ (w.heap.size ≤ b ∨ ownA L b ∨ I b)
section
variable {Γ : Ctx} {O : Fun Γ} {R : Type} {w w' : World} {a : Nat → Value} {e e' : Env} {γ : Nat → Gs} {I In F Ω : Nat → Prop} {rt : Bool} {own seen : List Nat} {L : List Item} {B : List (Back × Item)} {r : R}
theorem ABag.lv (A : ABag w a e γ I F Ω rt own seen L B) {b : Nat} (h : ownA L b) : F b ∧ ¬ I b ∧ b < w.heap.size := by
  obtain ⟨i, hi, hb⟩ := h
  rcases A.where hi hb with u | ⟨n, _, u⟩
  · exact A.st.lvΩ b u
  · exact A.st.lv n b id u
theorem ABag.items (A : ABag w a e γ I F Ω rt own seen L B) : Items w (Ic w I rt L) (Fc w I F L) L := by
  have hIc : ∀ b, I b → Ic w I rt L b := fun b h => .inl h
  refine ⟨fun i hi => ?_, fun i hi => ?_, A.sep, fun i hi b hb => ?_, fun b hb => hb.elim (A.st.imm b) fun k => k.2.1, fun b hb => ⟨A.st.new b hb, .inl hb⟩⟩
  · rcases A.ok i hi with ⟨kk, c, t, m, x, g, rfl, h2, h3, h4, h5⟩ | h
    · obtain ⟨o, ho⟩ := vm_sh t
      have h4' : ∀ b, Own t m g b ∨ (∃ ad, c = some ad ∧ ad.block = b) → Ic w I rt L b := fun b hb => by
        rcases h4 b hb with k | ⟨k1, n, hn, k2⟩
        · exact .inl k
        · refine .inr ⟨k1, (A.st.lv n b id k2).2.2, fun ⟨j, hj, hb'⟩ => ?_⟩
          rcases A.where hj hb' with u | ⟨n', hn', u⟩
          · exact A.st.flt n b id k2 u
          · exact A.st.sep n n' b id id (fun c => A.off n' hn' (c ▸ hn)) k2 u
      refine ⟨rfl, ?_, by rw [ho]; exact Sep.sh _ _ _, ?_⟩
      · unfold vm
        split
        · rename_i hf; exact Mem.flat hf
        · exact Mem.any (Mem.view h2 h3 (fun _ => rfl) hIc fun b hb => ⟨h4' b (.inl hb), fun c => by cases c⟩)
      · rcases h5 with ⟨rfl, rfl⟩ | ⟨f, ad, C, te, fz, rfl, rfl, q1, q2, q3⟩
        · rfl
        · exact ⟨⟨o, ho⟩, ad, C, te, fz, rfl, q1, q2, q3, h4' _ (.inr ⟨ad, rfl, rfl⟩)⟩
    · exact h.1.mono2 hIc fun b k1 k2 => ⟨k2, .inr (.inr k1)⟩
  · rcases A.ok i hi with ⟨kk, c, t, m, x, g, rfl, _⟩ | h
    · exact fun _ _ _ _ _ _ _ c => by cases c
    · exact h.2
  · have ho : ownA L b := ⟨i, hi, hb⟩
    obtain ⟨q1, q2, q3⟩ := A.lv ho
    exact ⟨⟨q1, .inr (.inl ho)⟩, fun k => k.elim q2 fun k => k.2.2 ho, q3⟩

theorem nodup_eq : ∀ {B : List (Back × Item)}, (B.map fun x => x.1.r).Nodup → ∀ {x y : Back × Item}, x ∈ B → y ∈ B → x.1.r = y.1.r → x = y
  | [], _, _, _, h, _, _ => by cases h
  | z :: B, hn, x, y, hx, hy, c => by
    rw [List.map_cons, List.nodup_cons] at hn
    rcases List.mem_cons.1 hx with hx | hx
    · rcases List.mem_cons.1 hy with hy | hy
      · rw [hx, hy]
      · exact absurd (List.mem_map.2 ⟨y, hy, by rw [← c, hx]⟩) hn.1
    · rcases List.mem_cons.1 hy with hy | hy
      · exact absurd (List.mem_map.2 ⟨x, hx, by rw [c, hy]⟩) hn.1
      · exact nodup_eq hn.2 hx hy c
/-- what a slot keeps while a part of it is away -/
theorem ABag.keep (A : ABag w a e γ I F Ω rt own seen L B) {x : Back × Item} (hx : x ∈ B) {b : Nat} (h1 : OwnS (e.get x.1.r) (γ x.1.r) b) (h2 : ¬ OwnS x.2.z x.2.γ b) : ¬ ownA L b := by
  rintro ⟨j, hj, hb⟩
  rcases A.claim j hj with k | ⟨k, hk⟩
  · exact A.st.flt _ b id h1 (k b hb)
  · by_cases c : k.r = x.1.r
    · have : (k, j) = x := nodup_eq A.nodup hk hx c
      exact h2 (this ▸ hb)
    · exact A.st.sep k.r x.1.r b id id c ((A.back _ hk).2.own hb) h1
theorem call_back (A : ABag w a e γ I F Ω rt own seen L B) {D : Prop} (hw : Wx D (Ic w I rt L) (Fc w I F L) w w') {J : Nat → Prop} {M : List Item} (hM : Items w' J (Fc w I F L) M) (hJ : ∀ b, J b → Fc w I F L b ∨ (rt = true ∧ Ic w I rt L b)) (hn : ∀ i ∈ M, ∀ b, OwnS i.z i.γ b → ¬ Ic w I rt L b) :
    ∃ Ω2, St w' a e γ (fun b => I b ∨ J b) F (fun n => ∃ x, x ∈ B ∧ x.1.r = n) Ω2 ∧ (∀ i ∈ M, ∀ b, OwnS i.z i.γ b → Ω2 b) ∧
      (∀ b, I b → w'.heap[b]? = w.heap[b]?) ∧ (∀ b, J b → I b ∨ F b) ∧
      ∀ x ∈ B, ∀ b, OwnS (e.get x.1.r) (γ x.1.r) b → ¬ OwnS x.2.z x.2.γ b → Ω2 b ∧ w'.heap[b]? = w.heap[b]? ∧ ∀ i ∈ M, ¬ OwnS i.z i.γ b := by
  have S := A.st
  have rtI : ∀ b, rt = true → Ic w I rt L b → I b := fun b h k => k.elim id fun k => by rw [h] at k; cases k.1
  have notJ : ∀ b, b < w.heap.size → ¬ ownA L b → ¬ I b → ¬ J b := fun b h1 h2 h3 k => by
    rcases hJ b k with ⟨_, k⟩ | ⟨k1, k2⟩
    · rcases k with k | k | k
      · omega
      · exact h2 k
      · exact h3 k
    · exact h3 (rtI b k1 k2)
  have same : ∀ b, b < w.heap.size → ¬ ownA L b → ¬ I b → w'.heap[b]? = w.heap[b]? := fun b h1 h2 h3 => hw.old b h1 (.inr fun k => by
    rcases k.2 with k | k | k
    · omega
    · exact h2 k
    · exact h3 k)
  have ohne : ∀ n b, (¬ ∃ x, x ∈ B ∧ x.1.r = n) → OwnS (e.get n) (γ n) b → ¬ ownA L b := fun n b hn' hb ⟨j, hj, hj'⟩ => by
    rcases A.claim j hj with k | ⟨k, hk⟩
    · exact S.flt n b id hb (k b hj')
    · exact S.sep n k.r b id id (fun c => hn' ⟨_, hk, c.symm⟩) hb ((A.back _ hk).2.own hj')
  have memown : ∀ i ∈ M, ∀ b, OwnS i.z i.γ b → ¬ I b ∧ ¬ J b ∧ b < w'.heap.size ∧ (w.heap.size ≤ b ∨ ownA L b) := fun i hi b hb => by
    obtain ⟨q1, q2, q3⟩ := hM.lv i hi b hb
    have q4 : ¬ I b := fun k => hn i hi b hb (.inl k)
    refine ⟨q4, q2, q3, ?_⟩
    rcases q1.2 with k | k | k
    · exact .inl k
    · exact .inr k
    · exact absurd k q4
  refine ⟨fun b => ((Ω b ∨ ∃ x, x ∈ B ∧ OwnS (e.get x.1.r) (γ x.1.r) b) ∨ (w.heap.size ≤ b ∧ b < w'.heap.size)) ∧ ¬ J b, ⟨fun n hn' => ?_, S.ref, fun n n' b _ _ => S.sep n n' b id id, fun n b hn' hb k => ?_, fun n b hn' hb => ?_, fun b hb => ?_, fun b hb => ?_, fun b hb => S.new b (Nat.le_trans hw.size hb), S.fn.same⟩, fun i hi b hb => ?_, fun b hb => hw.old b (S.imm b hb) (.inl (.inl hb)), fun b hb => ?_, fun x hx b h1 h2 => ?_⟩
  · exact ((S.slot n id).frame fun b hb => hb.elim (fun hb => same b (S.lv n b id hb).2.2 (ohne n b hn' hb) (S.lv n b id hb).2.1) fun hb => hw.old b (S.imm b hb) (.inl (.inl hb))).mono fun b h => .inl h
  · rcases k.1 with (k | ⟨x, hx, k⟩) | k
    · exact S.flt n b id hb k
    · exact S.sep n x.1.r b id id (fun c => hn' ⟨x, hx, c.symm⟩) hb k
    · have := (S.lv n b id hb).2.2; omega
  · obtain ⟨q1, q2, q3⟩ := S.lv n b id hb
    exact ⟨q1, fun k => k.elim q2 (notJ b q3 (ohne n b hn' hb) q2), Nat.lt_of_lt_of_le q3 hw.size⟩
  · rcases hb with ⟨(k | ⟨x, hx, k⟩) | k, hj⟩
    · obtain ⟨q1, q2, q3⟩ := S.lvΩ b k
      exact ⟨q1, fun k => k.elim q2 hj, Nat.lt_of_lt_of_le q3 hw.size⟩
    · obtain ⟨q1, q2, q3⟩ := S.lv _ b id k
      exact ⟨q1, fun k => k.elim q2 hj, Nat.lt_of_lt_of_le q3 hw.size⟩
    · exact ⟨S.new b k.1, fun u => u.elim (fun u => by have := S.imm b u; omega) hj, k.2⟩
  · rcases hb with hb | hb
    · exact Nat.lt_of_lt_of_le (S.imm b hb) hw.size
    · exact hM.imm b hb
  · obtain ⟨q1, q2, q3, q4⟩ := memown i hi b hb
    refine ⟨?_, q2⟩
    rcases q4 with q4 | ⟨j, hj, q4⟩
    · exact .inr ⟨q4, q3⟩
    · rcases A.claim j hj with u | ⟨k, u⟩
      · exact .inl (.inl (u b q4))
      · exact .inl (.inr ⟨_, u, (A.back _ u).2.own q4⟩)
  · rcases hJ b hb with k | ⟨k1, k2⟩
    · exact .inr k.1
    · exact .inl (rtI b k1 k2)
  · have nA := A.keep hx h1 h2
    obtain ⟨q1, q2, q3⟩ := S.lv _ b id h1
    refine ⟨⟨.inl (.inr ⟨x, hx, h1⟩), notJ b q3 nA q2⟩, same b q3 nA q2, fun i hi hb => ?_⟩
    rcases (memown i hi b hb).2.2.2 with k | k
    · omega
    · exact nA k

/-- one slot takes back what it had handed in and out -/
theorem backStep {z : Slot} {ve s d : Nat} {kk : VK} {T : Ty} {N : Md} {X : T.den} {γr : Gs} {v : Value} {bk : Back} {i it : Item} (hl : kk.lent = false) (hz : z = ⟨ve, s, d, .val kk T N X⟩) (hb : BackOk z γr bk i) (hs : SlotOk w I F z v γr)
    {x : bk.t.den} (hsv : it.sv = .val (if bk.box then .box else .reg) bk.t bk.m x) (hi : SlotOk w' In F it.z it.v it.γ) (hv : it.v = i.v)
    (keep : ∀ b, OwnS z γr b → ¬ OwnS i.z i.γ b → w'.heap[b]? = w.heap[b]? ∧ ¬ OwnS it.z it.γ b) (hII : ∀ b, I b → In b) (hI : ∀ b, I b → w'.heap[b]? = w.heap[b]?)
    {X' : T.den} (hX : put T X bk.p bk.t x = some X') {N' : Md} (hN : mdPut T N bk.p bk.m = some N') :
    ∃ γ', SlotOk w' In F (if bk.deep then ⟨ve, s + 1, 0, .val kk T N' X'⟩ else ⟨ve, s, d, .val kk T N' X'⟩) v γ' ∧
      (∀ b, OwnS (if bk.deep then ⟨ve, s + 1, 0, .val kk T N' X'⟩ else ⟨ve, s, d, .val kk T N' X'⟩) γ' b → (OwnS z γr b ∧ ¬ OwnS i.z i.γ b) ∨ OwnS it.z it.γ b) ∧
      (∀ k v s' d' p t y, RefSt z γr k v s' d' p t y → RefSt (if bk.deep then ⟨ve, s + 1, 0, .val kk T N' X'⟩ else ⟨ve, s, d, .val kk T N' X'⟩) γ' k v s' d' p t y) := by
  obtain ⟨isv, iv, iγ⟩ := it
  simp only at hsv hv
  subst hsv
  unfold BackOk at hb
  cases hd : bk.box with
  | true =>
    rw [hd] at hb
    obtain ⟨hdp, hp, ve', s', d', N1, X1, m1, hz', hi', hc1, hc2⟩ := hb
    rw [hz] at hz'
    obtain ⟨br, bp, bt, bm, bd, bx⟩ := bk
    simp only at *
    subst hd
    subst hdp
    cases hz'
    subst hp
    have e1 : X' = x := by
      have : put T X [] T x = some x := by cases T <;> simp [put, Ty.cast]
      rw [this] at hX; cases hX; rfl
    have e2 : N' = bm := by cases T <;> (simp only [mdPut, Option.some.injEq] at hN; exact hN.symm)
    subst e1 e2
    simp only [if_true] at hi ⊢
    have hs' := hs
    rw [hz] at hs'
    have v1 : v = .pointer γr.b := hs'.1
    have u1 : iv = .pointer iγ.b := hi.1
    have hγ : iγ.b = γr.b := by
      rw [hv, hi'] at u1
      simp only at u1
      injection u1 with u1
      exact u1.symm
    refine ⟨iγ, ⟨by rw [v1, kV, hγ], hi.2⟩, fun b hb => .inr hb, fun k v s' d' p t y h => ?_⟩
    rw [hz] at h
    exact h.deep hγ
  | false =>
    rw [hd] at hb
    obtain ⟨ve', s', d', kk', T', N1, X1, m, x0, h, hz', W, hi', hc1, hc2, hc3⟩ := hb
    rw [hz] at hz'
    obtain ⟨br, bp, bt, bm, bd, bx⟩ := bk
    simp only at *
    subst hd
    cases hz'
    simp only [Bool.false_eq_true, if_false] at hi keep
    obtain ⟨u1, u2, u3, u4⟩ := hi
    simp only [Item.z] at u1 u2 u3 u4
    have hown : ∀ b, OwnS i.z i.γ b → Own bt m h b := fun b hb => by
      rw [hi'] at hb
      have hb' : Own bt bm h b := hb
      exact hb'.coer hc1
    have hiO : ∀ b, OwnS (Item.z ⟨.val .reg bt bm x, iv, iγ⟩) iγ b ↔ Own bt bm iγ.g b := fun b => Iff.rfl
    have hcell : cells bt x iγ.g = cells bt x0 h := by
      have : toV bt x iγ.g = toV bt x0 h := by
        have : iv = toV bt x iγ.g := u1
        rw [← this, hv, hi']
      exact toV_inj this
    have hs' := hs
    rw [hz] at hs'
    obtain ⟨v1, v2, v3, v4⟩ := hs'
    have zown : ∀ b, OwnS z γr b ↔ (kk = .box ∧ ∃ a, γr.b = some a ∧ a.block = b) ∨ Own T N γr.g b := fun b => by
      rw [hz, OwnS.val]
      exact or_congr ⟨fun h => h.box hl, fun h => .inl h⟩ Iff.rfl
    have hrest : ∀ b, rest T N γr.g bp b → OwnS z γr b ∧ ¬ OwnS i.z i.γ b := fun b hb => ⟨(zown b).2 (.inr ((W.own_iff b).2 (.inl hb))), fun k => (W.sep v3).2 b hb (hown b k)⟩
    have hR := mdPut_R hN
    have hw := hR.wr'
    have hp0 : hasAt bp = false → place T γr.g none bp = none := fun hp => by rw [(W.ofs hp).2.1]; rfl
    obtain ⟨R1, R2, R3, R4, R5⟩ := W.repl2 (I2 := In) u2 u3 hII hI (c := none) v2 v3 hX hR
      (fun b hb k => (keep b (hrest b k).1 (hrest b k).2).2 hb)
      (fun b hb _ => (keep b (hrest b hb).1 (hrest b hb).2).1)
      (fun ad hpl => by
        have hp : hasAt bp = true := by
          cases hp : hasAt bp with
          | true => rfl
          | false => rw [hp0 hp] at hpl; cases hpl
        obtain ⟨hsp, C, te, hC⟩ := W.blk hw v2 (c := none) (fun d hd => by cases hd) ad hpl
        have hr := W.inRow hw hp none ad hpl
        have hsame := (keep _ (hrest _ hr).1 (hrest _ hr).2).1
        have hat := W.at v2 (c := none) (.inl hp)
        rw [hpl] at hat
        obtain ⟨ab, ao, asp⟩ := ad
        simp only at hsp hC hsame
        subst hsp
        rw [At.blk hC] at hat
        refine ⟨rfl, C, C, te, (0, 0), hC, by rw [hsame]; exact hC, rfl, fun j v hj => ?_, fun _ _ => rfl⟩
        rw [hcell] at hj
        exact hat j v hj)
      (fun a ha => by cases ha)
    have hcells : cells T X' (gput T γr.g bp iγ.g) = cells T X γr.g := by
      cases hp : hasAt bp with
      | true => exact R4 hp
      | false =>
        refine List.ext_getElem? fun k => ?_
        obtain ⟨r1, r2⟩ := R5 hp k
        by_cases hk : Den.ofs T bp ≤ k ∧ k < Den.ofs T bp + bt.size
        · rw [r1 hk.1 hk.2, hcell]
          have := (W.ofs hp).2.2 (k - Den.ofs T bp) (by omega)
          rw [← this]
          congr 1; omega
        · exact r2 (by omega)
    have hO : ∀ b, Own T N' (gput T γr.g bp iγ.g) b → (OwnS z γr b ∧ ¬ OwnS i.z i.γ b) ∨ Own bt bm iγ.g b := fun b hb => (R3 b hb).imp (hrest b) id
    have hnobox : ∀ ad, γr.b = some ad → kk = .box → ¬ OwnS i.z i.γ ad.block := fun ad ha hk k => by
      subst hk
      obtain ⟨a', C, te, ha', _, _, _, hno⟩ := v4
      rw [ha] at ha'; cases ha'
      exact hno ((W.own_iff _).2 (.inr (hown _ k)))
    have hsl : SlotOk w' In F ⟨ve, s, d, .val kk T N' X'⟩ v ⟨γr.b, gput T γr.g bp iγ.g⟩ := by
     refine ⟨?_, R1, R2, ?_⟩
     · rw [v1]
       cases kk with
       | box => rfl
       | reg => exact toV_congr hcells.symm
       | tup => simp only [kV]; rw [tupV_congr hcells.symm]
       | map => cases hl
       | pin f => cases hl
     · cases kk with
       | map => cases hl
       | pin f => cases hl
       | reg => exact v4
       | tup => exact v4
       | box =>
         obtain ⟨ad, C, te, ha, hsp, hC, hat, hno⟩ := v4
         have hk := keep ad.block ((zown _).2 (.inl ⟨rfl, ad, ha, rfl⟩)) (hnobox ad ha rfl)
         refine ⟨ad, C, te, ha, hsp, by rw [hk.1]; exact hC, ?_, fun q => ?_⟩
         · rw [hcells]
           exact hat.frame fun d' hd' => by rw [ha] at hd'; cases hd'; exact hk.1
         · rcases R3 _ q with q | q
           · exact hno ((W.own_iff _).2 (.inl q))
           · exact hk.2 q
    have how : ∀ b, OwnS ⟨ve, s, d, .val kk T N' X'⟩ ⟨γr.b, gput T γr.g bp iγ.g⟩ b → (OwnS z γr b ∧ ¬ OwnS i.z i.γ b) ∨ Own bt bm iγ.g b := fun b hb => by
      rw [OwnS.val] at hb
      rcases hb with hb | hb
      · obtain ⟨hk, ad, ha, hab⟩ := hb.box hl
        subst hab
        exact .inl ⟨(zown _).2 (.inl ⟨hk, ad, ha, rfl⟩), hnobox ad ha hk⟩
      · exact hO b hb
    cases bd with
    | true => exact ⟨⟨γr.b, gput T γr.g bp iγ.g⟩, hsl, how, fun k v s' d' p t y h => by rw [hz] at h; exact h.deep rfl⟩
    | false =>
      have hc3' : bt.rowsFlat = true := by simpa using hc3
      exact ⟨⟨γr.b, gput T γr.g bp iγ.g⟩, hsl, how, fun k v s' d' p t y h => by
        rw [hz] at h
        exact h.shallow rfl (W.simPut (Sim.rows hc3' hcell.symm)) (.inr ⟨rfl, hcells⟩) hl⟩
end
end Go.Den
/-
  Calls: the slots take back, the result is written.
-/
namespace Go.Den
open Go
set_option linter.unusedVariables false
set_option linter.unusedSimpArgs false
section
variable {Γ : Ctx} {O : Fun Γ} {R : Type} {w w' : World} {a : Nat → Value} {e e' : Env} {γ : Nat → Gs} {I In F Ω : Nat → Prop} {rt : Bool} {own seen : List Nat} {L : List Item} {B : List (Back × Item)} {r : R}
theorem backM_ok {M : List Item} {k : Unit → Env → Option R} (hII : ∀ b, I b → In b) (hI : ∀ b, I b → w'.heap[b]? = w.heap[b]?) :
    ∀ (B : List (Back × Item)) (N : List Item) (ys : List ((t : Ty) × t.den)) {e : Env} {γ : Nat → Gs} {H Ω : Nat → Prop},
    St w' a e γ In F H Ω → (∀ n, H n ↔ ∃ x, x ∈ B ∧ x.1.r = n) → (B.map fun x => x.1.r).Nodup →
    (∀ x ∈ B, BackOk (e.get x.1.r) (γ x.1.r) x.1 x.2 ∧ SlotOk w I F (e.get x.1.r) (a x.1.r) (γ x.1.r) ∧
      ∀ b, OwnS (e.get x.1.r) (γ x.1.r) b → ¬ OwnS x.2.z x.2.γ b → Ω b ∧ w'.heap[b]? = w.heap[b]? ∧ (∀ i ∈ M, ¬ OwnS i.z i.γ b) ∧ ∀ i ∈ N, ¬ OwnS i.z i.γ b) →
    (∀ x ∈ B, ∀ y ∈ B, x.1.r ≠ y.1.r → ∀ b, OwnS (e.get x.1.r) (γ x.1.r) b → ¬ OwnS (e.get y.1.r) (γ y.1.r) b) →
    bkSV (B.map (·.1)) ys = some (N.map Item.sv) → N.map Item.v = B.map (fun x => x.2.v) →
    (∀ i ∈ N, SlotOk w' In F i.z i.v i.γ ∧ ∀ b, OwnS i.z i.γ b → Ω b) → (N.Pairwise fun i j => ∀ b, OwnS i.z i.γ b → ¬ OwnS j.z j.γ b) →
    (∀ i ∈ M, ∀ b, OwnS i.z i.γ b → Ω b ∧ ∀ j ∈ N, ¬ OwnS j.z j.γ b) →
    (backM (Γ := Γ) (B.map (·.1)) ys).run O e k = some r →
    ∃ e' γ' Ω', k () e' = some r ∧ St w' a e' γ' In F (fun _ => False) Ω' ∧ ∀ i ∈ M, ∀ b, OwnS i.z i.γ b → Ω' b
  | [], N, ys, e, γ, H, Ω, S, hH, _, _, _, hsv, _, _, _, hM, h => by
    cases ys with
    | cons _ _ => cases h
    | nil =>
      refine ⟨e, γ, Ω, h, S.holes fun n hn => ?_, fun i hi b hb => (hM i hi b hb).1⟩
      obtain ⟨x, hx, _⟩ := (hH n).1 hn
      cases hx
  | (bk, i) :: B, N, ys, e, γ, H, Ω, S, hH, hnd, hB, hdis, hsv, hv, hN, hNs, hM, h => by
    cases ys with
    | nil => cases h
    | cons y ys =>
      cases N with
      | nil => cases hv
      | cons it N =>
      simp only [List.map_cons, bkSV] at hsv
      obtain ⟨x, hx, hsv⟩ := Option.bind_eq_some_iff.1 hsv
      obtain ⟨l, hl, hsv⟩ := Option.bind_eq_some_iff.1 hsv
      simp only [Option.some.injEq, List.cons.injEq] at hsv
      obtain ⟨hsv, hl2⟩ := hsv
      subst hl2
      simp only [List.map_cons, List.cons.injEq] at hv
      obtain ⟨hv, hvs⟩ := hv
      simp only [List.map_cons, List.nodup_cons] at hnd
      obtain ⟨hnr, hnd⟩ := hnd
      rw [List.pairwise_cons] at hNs
      obtain ⟨b1, b2, b3⟩ := hB (bk, i) List.mem_cons_self
      simp only at b1 b2 b3
      simp only [List.map_cons, backM, Den.M.run] at h
      generalize hq : e.get bk.r = q at h b1 b2 b3
      obtain ⟨ve, sv, dv, q⟩ := q
      simp only at h
      split at h
      · rename_i kk T Nm X
        rw [hx] at h
        have hlent : kk.lent = false := by
          cases hc : kk.lent with
          | false => rfl
          | true => rw [hc] at h; simp only [if_true] at h; cases h
        rw [hlent] at h
        simp only [Bool.false_eq_true, if_false] at h
        simp only [Option.bind_some, run_bind] at h
        obtain ⟨X', hX, h⟩ := run_ofOpt h
        obtain ⟨N', hN', h⟩ := run_ofOpt h
        simp only [Den.M.run] at h
        obtain ⟨γ', c1, c2, c3⟩ := backStep (In := In) hlent rfl b1 b2 hsv.symm (hN it List.mem_cons_self).1 hv (fun b q1 q2 => ⟨(b3 b q1 q2).2.1, (b3 b q1 q2).2.2.2 it List.mem_cons_self⟩) hII hI hX hN'
        have hr : H bk.r := (hH _).2 ⟨_, List.mem_cons_self, rfl⟩
        have ho : ∀ b, OwnS (if bk.deep then ⟨ve, sv + 1, 0, .val kk T N' X'⟩ else ⟨ve, sv, dv, .val kk T N' X'⟩) γ' b → Ω b := fun b hb => (c2 b hb).elim (fun q => (b3 b q.1 q.2).1) fun q => (hN it List.mem_cons_self).2 b q
        have S' := S.closed hr c1 rfl ho (fun k v s d p t y q => c3 k v s d p t y (by rw [hq] at q; exact q)) (fun _ _ _ _ _ _ _ c => by cases hd : bk.deep <;> rw [hd] at c <;> cases c) (fun _ _ c => by cases hd : bk.deep <;> rw [hd] at c <;> cases c)
        have hne : ∀ x ∈ B, x.1.r ≠ bk.r := fun x hx c => hnr (List.mem_map.2 ⟨x, hx, c⟩)
        have nz : ∀ b, OwnS (if bk.deep then ⟨ve, sv + 1, 0, .val kk T N' X'⟩ else ⟨ve, sv, dv, .val kk T N' X'⟩) γ' b → (OwnS (e.get bk.r) (γ bk.r) b ∧ ¬ OwnS i.z i.γ b) ∨ OwnS it.z it.γ b := fun b hb => by rw [hq]; exact c2 b hb
        refine backM_ok hII hI B N ys S' (fun n => ?_) hnd (fun x hx => ?_) (fun x hx y hy hxy b => ?_) hl hvs (fun j hj => ⟨(hN j (List.mem_cons_of_mem _ hj)).1, fun b hb => ⟨(hN j (List.mem_cons_of_mem _ hj)).2 b hb, fun c => ?_⟩⟩) hNs.2 (fun j hj b hb => ⟨⟨(hM j hj b hb).1, fun c => ?_⟩, fun j' hj' => (hM j hj b hb).2 j' (List.mem_cons_of_mem _ hj')⟩) h
        · constructor
          · rintro ⟨q1, q2⟩
            obtain ⟨x, hx, q1⟩ := (hH n).1 q1
            rcases List.mem_cons.1 hx with hx | hx
            · subst hx; exact absurd q1.symm q2
            · exact ⟨x, hx, q1⟩
          · rintro ⟨x, hx, q1⟩
            exact ⟨(hH n).2 ⟨x, List.mem_cons_of_mem _ hx, q1⟩, fun c => hne x hx (q1.trans c)⟩
        · obtain ⟨d1, d2, d3⟩ := hB x (List.mem_cons_of_mem _ hx)
          rw [get_set_ne _ _ (hne x hx), upd_ne _ _ (hne x hx)]
          refine ⟨d1, d2, fun b q1 q2 => ?_⟩
          obtain ⟨u1, u2, u3, u4⟩ := d3 b q1 q2
          refine ⟨⟨u1, fun c => ?_⟩, u2, u3, fun j hj => u4 j (List.mem_cons_of_mem _ hj)⟩
          rcases nz b c with c | c
          · exact hdis x (List.mem_cons_of_mem _ hx) (bk, i) List.mem_cons_self (hne x hx) b q1 c.1
          · exact u4 it List.mem_cons_self c
        · rw [get_set_ne _ _ (hne x hx), upd_ne _ _ (hne x hx), get_set_ne _ _ (hne y hy), upd_ne _ _ (hne y hy)]
          exact hdis x (List.mem_cons_of_mem _ hx) y (List.mem_cons_of_mem _ hy) hxy b
        · rcases nz b c with c | c
          · exact (b3 b (by rw [hq] at c; exact c.1) c.2).2.2.2 j (List.mem_cons_of_mem _ hj) hb
          · exact hNs.1 j hj b c hb
        · rcases nz b c with c | c
          · exact (b3 b (by rw [hq] at c; exact c.1) c.2).2.2.1 j hj hb
          · exact (hM j hj b hb).2 it List.mem_cons_self c
      · cases h

theorem tup_ok {M : List Item} : ∀ (rs : List RSig) (xs : List ((t : Ty) × t.den)) (M : List Item) (y : (tupTy (rs.map RSig.ty)).den), rs.all RSig.isVal = true → resSV rs xs = some (M.map Item.sv) → mkTup (rs.map RSig.ty) xs = some y →
    (∀ i ∈ M, SlotOk w In F i.z i.v i.γ) → (M.Pairwise fun i j => ∀ b, OwnS i.z i.γ b → ¬ OwnS j.z j.γ b) →
    ∃ g, Mem w In F (tupTy (rs.map RSig.ty)) (tupMd (rs.map RSig.md)) y g ∧ Sep (tupTy (rs.map RSig.ty)) (tupMd (rs.map RSig.md)) g ∧ (∀ b, Own (tupTy (rs.map RSig.ty)) (tupMd (rs.map RSig.md)) g b → ∃ i, i ∈ M ∧ OwnS i.z i.γ b) ∧ tupV (tupTy (rs.map RSig.ty)) y g = M.map Item.v := by
  intro rs
  induction rs with
  | nil =>
    intro xs M y _ hsv hy hM hs
    cases xs with
    | cons _ _ => cases hsv
    | nil =>
      cases M with
      | cons _ _ => cases hsv
      | nil => exact ⟨.lf, trivial, trivial, fun b hb => hb.elim, rfl⟩
  | cons g rs ih =>
    intro xs M y hv hsv hy hM hs
    cases g with
    | ptr t m => simp [RSig.isVal] at hv
    | val t m =>
      cases xs with
      | nil => cases hsv
      | cons d ds =>
        simp only [resSV] at hsv
        obtain ⟨x, hx, hsv⟩ := Option.bind_eq_some_iff.1 hsv
        obtain ⟨l, hl, hsv⟩ := Option.bind_eq_some_iff.1 hsv
        cases M with
        | nil => cases hsv
        | cons i M =>
          simp only [Option.some.injEq, List.map_cons, List.cons.injEq] at hsv
          obtain ⟨hi, hl2⟩ := hsv
          subst hl2
          obtain ⟨isv, iv, iγ⟩ := i
          simp only at hi
          subst hi
          obtain ⟨q1, q2, q3, q4⟩ := hM _ List.mem_cons_self
          simp only [Item.z] at q1 q2 q3 q4
          rw [List.pairwise_cons] at hs
          cases rs with
          | nil =>
            cases ds with
            | cons _ _ => cases hl
            | nil =>
              cases M with
              | cons _ _ => cases hl
              | nil =>
                have : y = x := by
                  have hy' : d.1.cast t d.2 = some y := hy
                  rw [hx] at hy'; exact (Option.some.inj hy').symm
                subst this
                refine ⟨iγ.g, q2, q3, fun b hb => ⟨_, List.mem_cons_self, hb⟩, ?_⟩
                show [toV t y iγ.g] = _
                rw [show iv = toV t y iγ.g from q1]
                rfl
          | cons g2 rs =>
            have hy' : (d.1.cast t d.2).bind (fun a => (mkTup (((g2 :: rs)).map RSig.ty) ds).bind fun b => some ((a, b) : t.den × (tupTy ((g2 :: rs).map RSig.ty)).den)) = some y := hy
            rw [hx] at hy'
            simp only [Option.bind_some] at hy'
            obtain ⟨z, hz, hy'⟩ := Option.bind_eq_some_iff.1 hy'
            have hy2 := Option.some.inj hy'
            subst hy2
            have hv' : (g2 :: rs).all RSig.isVal = true := by
              simp only [List.all_cons, Bool.and_eq_true] at hv ⊢
              exact hv.2
            obtain ⟨g', k1, k2, k3, k4⟩ := ih ds M z hv' hl hz (fun j hj => hM j (List.mem_cons_of_mem _ hj)) hs.2
            refine ⟨.pr iγ.g g', ⟨q2, k1⟩, ⟨q3, k2, fun b h1 h2 => ?_⟩, fun b hb => ?_, ?_⟩
            · obtain ⟨j, hj, h2⟩ := k3 b h2
              exact hs.1 j hj b h1 h2
            · rcases hb with hb | hb
              · exact ⟨_, List.mem_cons_self, hb⟩
              · obtain ⟨j, hj, h2⟩ := k3 b hb
                exact ⟨j, List.mem_cons_of_mem _ hj, h2⟩
            · show toV t x iγ.g :: tupV (tupTy ((g2 :: rs).map RSig.ty)) z g' = _
              rw [show iv = toV t x iγ.g from q1, k4]
              rfl
theorem resM_ok (S : St w a e γ In F (fun _ => False) Ω) {d : Option Nat} {rs : List RSig} {xs : List ((t : Ty) × t.den)} {M : List Item} (hsv : resSV rs xs = some (M.map Item.sv)) (hM : ∀ i ∈ M, SlotOk w In F i.z i.v i.γ) (hs : M.Pairwise fun i j => ∀ b, OwnS i.z i.γ b → ¬ OwnS j.z j.γ b)
    (hΩ : ∀ i ∈ M, ∀ b, OwnS i.z i.γ b → Ω b) {k : Unit → Env → Option R} (h : (resM (Γ := Γ) d rs xs).run O e k = some r) :
    ∃ e' γ', k () e' = some r ∧ St w (outP d a (retV (M.map Item.v))) e' γ' In F (fun _ => False) (fun _ => False) := by
  have nf : ∀ n : Nat, ¬ (fun _ : Nat => False) n := fun _ => id
  have many : ∀ (rs : List RSig) (xs : List ((t : Ty) × t.den)), resSV rs xs = some (M.map Item.sv) → M.length ≠ 1 →
      ((if !rs.all RSig.isVal then .fail else (Den.M.ofOpt (mkTup (rs.map RSig.ty) xs)).bind fun y => out d (.val .tup (tupTy (rs.map RSig.ty)) (tupMd (rs.map RSig.md)) y) : Den.M Γ Unit)).run O e k = some r →
      ∃ e' γ', k () e' = some r ∧ St w (outP d a (retV (M.map Item.v))) e' γ' In F (fun _ => False) (fun _ => False) := by
    intro rs xs hsv hl h
    split at h
    · cases h
    rename_i hv
    simp only [Bool.not_eq_true', Bool.not_eq_false] at hv
    rw [run_bind] at h
    obtain ⟨y, hy, h⟩ := run_ofOpt h
    obtain ⟨g, k1, k2, k3, k4⟩ := tup_ok (M := M) rs xs M y hv hsv hy hM hs
    have hr : retV (M.map Item.v) = .tuple (tupV (tupTy (rs.map RSig.ty)) y g).toArray := by
      rw [k4]
      match M, hl with
      | [], _ => rfl
      | [_], hl => exact absurd rfl hl
      | _ :: _ :: _, _ => rfl
    rw [hr]
    exact out_ok S nf (γ' := ⟨none, g⟩) (fun z hz => by unfold SlotOk; rw [hz]; exact ⟨rfl, k1, k2, rfl⟩) (fun z hz b hb => by
      unfold OwnS at hb; rw [hz] at hb
      obtain ⟨i, hi, hb⟩ := k3 b hb
      exact hΩ i hi b hb) (fun _ _ _ _ _ _ _ c => by cases c) h
  have hlen := (resSV_len hsv)
  rw [List.length_map] at hlen
  match rs, xs, hsv, hlen, h with
  | [], [], hsv, hlen, h =>
    cases M with
    | cons _ _ => cases hsv
    | nil => exact outNo_ok S nf _ h
  | [.val t m], [x], hsv, hlen, h =>
    simp only [resSV] at hsv
    obtain ⟨y, hy, hsv⟩ := Option.bind_eq_some_iff.1 hsv
    simp only [resM, run_bind] at h
    rw [hy] at h
    simp only [Option.bind_some, Option.some.injEq] at hsv
    match M, hsv, hM, hΩ with
    | [⟨isv, iv, iγ⟩], hsv, hM, hΩ =>
      simp only [List.map_cons, List.map_nil, List.cons.injEq, and_true] at hsv
      subst hsv
      obtain ⟨q1, q2, q3, q4⟩ := hM _ List.mem_cons_self
      simp only [Item.z] at q1 q2 q3 q4
      have hr : retV (List.map Item.v [⟨.val .reg t m y, iv, iγ⟩]) = toV t y iγ.g := q1
      rw [hr]
      exact outVal_ok S nf q2.keep q3.keep (fun b hb => hΩ _ List.mem_cons_self b hb.keep) h
    | [], hsv, _, _ => cases hsv
    | _ :: _ :: _, hsv, _, _ => simp at hsv
  | [.ptr t m], [x], hsv, hlen, h =>
    simp only [resSV] at hsv
    obtain ⟨y, hy, hsv⟩ := Option.bind_eq_some_iff.1 hsv
    simp only [resM, run_bind] at h
    rw [hy] at h
    simp only [Option.bind_some, Option.some.injEq] at hsv
    match M, hsv, hM, hΩ with
    | [⟨isv, iv, iγ⟩], hsv, hM, hΩ =>
      simp only [List.map_cons, List.map_nil, List.cons.injEq, and_true] at hsv
      subst hsv
      have q := hM _ List.mem_cons_self
      have hO := hΩ _ List.mem_cons_self
      exact out_ok S nf (γ' := iγ) (fun z hz => by
        unfold SlotOk at q ⊢
        rw [hz]; exact q) (fun z hz b hb => hO b (by
        unfold OwnS at hb ⊢
        rw [hz] at hb; exact hb)) (fun _ _ _ _ _ _ _ c => by cases c) h
    | [], hsv, _, _ => cases hsv
    | _ :: _ :: _, hsv, _, _ => simp at hsv
  | g1 :: g2 :: rs, xs, hsv, hlen, h =>
    refine many _ xs hsv (by simp only [List.length_cons] at hlen; omega) ?_
    have : resM (Γ := Γ) d (g1 :: g2 :: rs) xs = (if !(g1 :: g2 :: rs).all RSig.isVal then .fail else (Den.M.ofOpt (mkTup ((g1 :: g2 :: rs).map RSig.ty) xs)).bind fun y => out d (.val .tup (tupTy ((g1 :: g2 :: rs).map RSig.ty)) (tupMd ((g1 :: g2 :: rs).map RSig.md)) y)) := by
      cases g1 <;> cases xs <;> rfl
    rw [← this]; exact h
  | [], _ :: _, hsv, hlen, h => simp at hlen
  | [_], [], hsv, hlen, h => simp at hlen
  | [_], _ :: _ :: _, hsv, hlen, h => simp at hlen
end
end Go.Den
/-
  Calls.
-/
namespace Go.Den
open Go
set_option linter.unusedVariables false
set_option linter.unusedSimpArgs false
section
variable {τ : Told} {P : Program} {Γ : Ctx} {O : Fun Γ}
theorem findSig_ok {f : Nat} {fs : List (Option Nat)} {cl : List (Option (Nat × Nat))} : ∀ {l : List Sig} {n m : Nat} {σ : Sig}, findSig f fs cl l n = some (m, σ) → ∃ j, m = n + j ∧ l[j]? = some σ ∧ σ.fid = f ∧ σ.clos = cl
  | [], _, _, _, h => by cases h
  | g :: r, n, m, σ, h => by
    simp only [findSig] at h
    split at h
    · rename_i hc
      simp only [Bool.and_eq_true, decide_eq_true_eq] at hc
      cases h
      exact ⟨0, rfl, rfl, hc.1.1, hc.1.2⟩
    · obtain ⟨j, h1, h2, h3⟩ := findSig_ok h
      exact ⟨j + 1, by omega, h2, h3⟩
theorem fnsOf_run {R : Type} {r : R} {e : Env} : ∀ (os : List Operand) {k : List (Option Nat) → Env → Option R}, (fnsOf (Γ := Γ) os).run O e k = some r → ∃ fs, k fs e = some r
  | [], k, h => ⟨_, h⟩
  | .tmp s :: os, k, h => by
    simp only [fnsOf, Den.M.run, run_bind] at h
    split at h
    · obtain ⟨fs, h⟩ := fnsOf_run os h
      exact ⟨_, h⟩
    · obtain ⟨fs, h⟩ := fnsOf_run os h
      exact ⟨_, h⟩
    · obtain ⟨fs, h⟩ := fnsOf_run os h
      exact ⟨_, h⟩
    · simp only [Den.M.run] at h
      obtain ⟨fs, h⟩ := fnsOf_run os h
      exact ⟨_, h⟩
    · obtain ⟨fs, h⟩ := fnsOf_run os h
      exact ⟨_, h⟩
  | .func f :: os, k, h => by
    simp only [fnsOf, run_bind] at h
    obtain ⟨fs, h⟩ := fnsOf_run os h
    exact ⟨_, h⟩
  | .const v :: os, k, h => by
    simp only [fnsOf, run_bind] at h
    obtain ⟨fs, h⟩ := fnsOf_run os h
    exact ⟨_, h⟩
  | .global g :: os, k, h => by
    simp only [fnsOf, run_bind] at h
    obtain ⟨fs, h⟩ := fnsOf_run os h
    exact ⟨_, h⟩
theorem run_ask {R : Type} {α : Type} {r : R} {e : Env} {n : Nat} {x : (prodTy (Γ.insL n)).den} {f : (prodTy (Γ.outsL n)).den → Den.M Γ α} {k : α → Env → Option R} (h : (Den.M.ask n x f).run O e k = some r) : ∃ y, O n x = some y ∧ (f y).run O e k = some r := Option.bind_eq_some_iff.1 h
theorem wp_call {A : Act} {w : World} {o : Oper} {next : Act → World → Prop} {Q : Exit → Act → World → Prop} {f : Operand} {as : Array Operand} {ts : Array TypeId} {g : Nat} {vs : List Value} {fn : Func} (ho : o.op = .call ⟨.value f, as, ts⟩) (hf : ev (av A) f = .func (.func g) #[] vs.toArray) (hfn : P.funcs[g]? = some fn) (hb : fn.body.isSome = true) (hn : fn.name ≠ "runtime.NumGoroutine")
    (h : Calls P g (as.toList.map (ev (av A)) ++ vs).toArray w fun e w' => match e with | .returned v => next (A.put o.dst v) w' | _ => False) : o.wp P A w next Q := by
  unfold Oper.wp
  have hargs : as.map (ev (av A)) ++ vs.toArray = (as.toList.map (ev (av A)) ++ vs).toArray := by
    apply Array.ext'
    simp
  have hrun : (execOp A.eval o).run P w = .ok (.enter g (as.toList.map (ev (av A)) ++ vs).toArray) w := by
    rw [eval_ev']
    have hbn : fn.body.isNone = false := by cases hx : fn.body <;> rw [hx] at hb <;> first | rfl | cases hb
    have hname : (fn.name == "runtime.NumGoroutine") = false := by simpa using hn
    have hp : Sem.run P program w = .ok P w := rfl
    simp only [execOp, ho, resolve, hf, Deferred.ofValue, Sem.run_bind, Sem.run_pure, Result.andThen_ok, invoke, callFunc, hp, hfn, hname, hbn, Bool.false_eq_true, if_false, Array.empty_append, hargs]
  rw [hrun, Oper.upon_enter]
  exact Calls.mono h fun e w'' he => by
    cases e with
    | returned v => exact he
    | _ => exact he.elim
theorem callRest (hG : Good P Γ τ O) {R : Type} {r : R} {w : World} {A : Act} {e1 : Env} {γ : Nat → Gs} {I I1 F Ω1 : Nat → Prop} {o : Oper} {next : Act → World → Prop} {Q : Exit → Act → World → Prop} {k : Unit → Env → Option R} {n : Nat} {σ : Sig} (hσ : Γ.sigs[n]? = some σ)
    (hK : TOk τ F w) {z : Args} {L : List Item} {B : List (Back × Item)} (A1 : ABag w (av A) e1 γ I1 F Ω1 σ.retain z.own z.seen L B) (hI1 : ∀ b, I b → I1 b) (hI2 : ∀ b, I1 b → I b ∨ F b) {dn : List ((t : Ty) × t.den)} (hds : z.ds = dn) (hins : insSV σ.params dn = some (L.map Item.sv))
    (hbk : z.backs = B.map (·.1)) (hbsv : ∀ ys, backSV σ.params ys = bkSV (B.map (·.1)) ys) (hbv : backOf σ.params (L.map Item.v) = B.map (fun x => x.2.v))
    (h : ((Den.M.ofOpt (mkProd (Γ.insL n) z.ds)).bind fun a => Den.M.ask n a fun r => (backM z.backs ((unProd (Γ.outsL n) r).drop σ.results.length)).bind fun _ => resM o.dst σ.results ((unProd (Γ.outsL n) r).take σ.results.length) : Den.M Γ Unit).run O e1 k = some r)
    (hnext : ∀ v w', Wx τ.dr I F w w' → Done k r w' (outP o.dst (av A) v) I F (fun _ => False) → next (A.put o.dst v) w')
    (hgo : Calls P σ.fid (packV σ.clos (L.map Item.v)).toArray w (fun e w' => match e with | .returned v => next (A.put o.dst v) w' | _ => False) → o.wp P A w next Q) : o.wp P A w next Q := by
  simp only [run_bind] at h
  obtain ⟨x, hx, h⟩ := run_ofOpt h
  obtain ⟨y, hy, h⟩ := run_ask h
  have hun := unProd_mk _ _ _ hx
  rw [hds] at hun
  have hcall := hG n x y hy σ hσ w (Ic w I1 σ.retain L) (Fc w I1 F L) L (by rw [hun]; exact hins) A1.items (hK.less fun b hb => hb.1)
  refine hgo (Calls.mono hcall fun en w' he => ?_)
  cases en with
  | returned v =>
    obtain ⟨hw, J, M, N, hM, hN, hIt, hJ, hv, hNv, hnI⟩ := he
    obtain ⟨Ω2, S2, c1, c2, c3, c4⟩ := call_back A1 hw hIt hJ hnI
    simp only [run_bind] at h
    rw [hbk] at h
    have hmn := List.pairwise_append.1 hIt.sep
    have hok : ∀ i ∈ M ++ N, SlotOk w' (fun b => I1 b ∨ J b) F i.z i.v i.γ := fun i hi => (hIt.ok i hi).mono2 (fun b hb => .inr hb) fun b _ hb => hb.1
    obtain ⟨e3, γ3, Ω3, h, S3, hΩ3⟩ := backM_ok (w := w) (I := I1) (M := M) (fun b hb => .inl hb) c2 B N _ S2 (fun n => Iff.rfl) A1.nodup
      (fun x hx => ⟨(A1.back x hx).2, A1.st.slot _ id, fun b q1 q2 => by
        obtain ⟨u1, u2, u3⟩ := c4 x hx b q1 q2
        exact ⟨u1, u2, fun i hi => u3 i (List.mem_append_left _ hi), fun i hi => u3 i (List.mem_append_right _ hi)⟩⟩)
      (fun x hx y hy hxy b => A1.st.sep _ _ b id id hxy) (by rw [← hbsv]; exact hN) (by rw [hNv, ← hbv])
      (fun i hi => ⟨hok i (List.mem_append_right _ hi), c1 i (List.mem_append_right _ hi)⟩) hmn.2.1
      (fun i hi b hb => ⟨c1 i (List.mem_append_left _ hi) b hb, fun j hj => hmn.2.2 i hi j hj b hb⟩) h
    obtain ⟨e4, γ4, h, S4⟩ := resM_ok S3 hM (fun i hi => hok i (List.mem_append_left _ hi)) hmn.1 hΩ3 h
    simp only
    refine hnext v w' ⟨hw.os, hw.tape, hw.output, hw.size, hw.drawn, fun b hb hb2 => hw.old b hb ?_⟩ ⟨e4, γ4, _, h, hv ▸ S4, fun b hb => .inl (hI1 b hb), fun b hb => ?_⟩
    · rcases hb2 with q | q
      · exact .inl (.inl (hI1 b q))
      · exact .inr fun c => q c.1
    · rcases hb with q | q
      · exact hI2 b q
      · rcases c3 b q with q | q
        · exact hI2 b q
        · exact .inr q
  | panicked _ => exact he.elim
  | outgrown => exact he.elim
theorem wp_callc {A : Act} {w : World} {o : Oper} {next : Act → World → Prop} {Q : Exit → Act → World → Prop} {f : Operand} {as : Array Operand} {ts : Array TypeId} {g : Nat} {u : Value} {fn : Func} (ho : o.op = .call ⟨.value f, as, ts⟩) (hf : ev (av A) f = .func (.func g) #[] #[u]) (hfn : P.funcs[g]? = some fn) (hb : fn.body.isSome = true) (hn : fn.name ≠ "runtime.NumGoroutine")
    (h : Calls P g (as.toList.map (ev (av A)) ++ [u]).toArray w fun e w' => match e with | .returned v => next (A.put o.dst v) w' | _ => False) : o.wp P A w next Q := by
  unfold Oper.wp
  have hargs : as.map (ev (av A)) ++ #[u] = (as.toList.map (ev (av A)) ++ [u]).toArray := by
    apply Array.ext'
    simp
  have hrun : (execOp A.eval o).run P w = .ok (.enter g (as.toList.map (ev (av A)) ++ [u]).toArray) w := by
    rw [eval_ev']
    have hbn : fn.body.isNone = false := by cases hx : fn.body <;> rw [hx] at hb <;> first | rfl | cases hb
    have hname : (fn.name == "runtime.NumGoroutine") = false := by simpa using hn
    have hp : Sem.run P program w = .ok P w := rfl
    simp only [execOp, ho, resolve, hf, Deferred.ofValue, Sem.run_bind, Sem.run_pure, Result.andThen_ok, invoke, callFunc, hp, hfn, hname, hbn, Bool.false_eq_true, if_false, Array.empty_append, hargs]
  rw [hrun, Oper.upon_enter]
  exact Calls.mono h fun e w'' he => by
    cases e with
    | returned v => exact he
    | _ => exact he.elim
theorem callClo (hF : FnsOk P Γ) (hG : Good P Γ τ O) {R : Type} {r : R} {w : World} {A : Act} {e : Env} {γ : Nat → Gs} {I F : Nat → Prop} {o : Oper} {next : Act → World → Prop} {Q : Exit → Act → World → Prop} {k : Unit → Env → Option R} {f : Operand} {as : Array Operand} {ts : Array TypeId}
    (S : St w (av A) e γ I F (fun _ => False) (fun _ => False)) (hK : TOk τ F w) (ho : o.op = .call ⟨.value f, as, ts⟩) {g n : Nat} {σ : Sig} {fs : List (Option Nat)} (hσ : findSig g fs [] Γ.sigs 0 = some (n, σ)) (hfv : ∃ u, ev (av A) f = .func (.func g) #[] #[u])
    (h : (callC (Γ := Γ) n σ o.dst as.toList f).run O e k = some r) (hnext : ∀ v w', Wx τ.dr I F w w' → Done k r w' (outP o.dst (av A) v) I F (fun _ => False) → next (A.put o.dst v) w') : o.wp P A w next Q := by
  obtain ⟨j, hj, hσ2, hfid, hcl⟩ := findSig_ok hσ
  rw [Nat.zero_add] at hj
  subst hj
  obtain ⟨hfn, hnt, hbd, hnm⟩ := hF _ σ hσ2
  simp only [callC] at h
  rw [run_bind] at h
  have A0 : ABag w (av A) e γ I F (fun _ => False) σ.retain [] [] [] [] := ⟨S, fun i hi => absurd hi List.not_mem_nil, List.Pairwise.nil, fun i hi => absurd hi List.not_mem_nil, fun x hx => absurd hx List.not_mem_nil, List.nodup_nil, fun x hx => absurd hx List.not_mem_nil, fun n hn => absurd hn List.not_mem_nil⟩
  obtain ⟨z, L, e1, I1, Ω1, B, g', u, h, A1, hLv, hfu, hI1, hI2, ⟨dn, hds, hins⟩, hbk, hbsv, hbv⟩ := argsC_ok σ.params as.toList (z := ⟨[], [], [], []⟩) A0 h
  simp only [List.nil_append] at A1 hds hbk
  obtain ⟨u', hu'⟩ := hfv
  have hgg : g' = g := by
    rw [hu'] at hfu
    injection hfu with h1 h2 h3
    injection h1 with h1
    exact h1.symm
  subst hgg
  exact callRest hG hσ2 hK A1 hI1 hI2 hds hins hbk hbsv hbv h hnext fun hc => wp_callc ho hfu (hfid ▸ hfn) hbd hnm (by rw [hcl] at hc; exact hfid ▸ hLv ▸ hc)
theorem capsOk_run {R : Type} {r : R} {e : Env} : ∀ (cs : List (Nat × Nat)) {k : Unit → Env → Option R}, (capsOk (Γ := Γ) cs).run O e k = some r → k () e = some r ∧ ∀ c ∈ cs, (e.get c.1).ver = c.2
  | [], k, h => ⟨h, fun c hc => absurd hc List.not_mem_nil⟩
  | c :: cs, k, h => by
    simp only [capsOk, Den.M.run] at h
    split at h
    · rename_i hv
      obtain ⟨h1, h2⟩ := capsOk_run cs h
      exact ⟨h1, fun d hd => by
        rcases List.mem_cons.1 hd with rfl | hd
        · exact hv
        · exact h2 d hd⟩
    · cases h
theorem caps_vals {e : Env} {a : Nat → Value} {cs : List (Nat × Nat)} {vs : List Value} (C : Caps e a cs vs) (h : ∀ c ∈ cs, (e.get c.1).ver = c.2) : vs = (cs.map fun c => Operand.tmp c.1).map (ev a) := by
  refine List.ext_getElem? fun i => ?_
  rw [List.map_map, List.getElem?_map]
  cases hc : cs[i]? with
  | none =>
    have : cs.length ≤ i := by simpa using hc
    rw [Option.map_none]
    rw [List.getElem?_eq_none_iff, C.1]; exact this
  | some c => exact (C.2 i c hc).2 (h c (List.mem_of_getElem? hc))
theorem closOf_run {R : Type} {r : R} {w : World} {a : Nat → Value} {e : Env} {γ : Nat → Gs} {I F H Ω : Nat → Prop} (S : St w a e γ I F H Ω) : ∀ (os : List Operand) {k : List (Option (Nat × List (Nat × Nat))) → Env → Option R}, (closOf (Γ := Γ) os).run O e k = some r →
    ∃ cl, k cl e = some r ∧ ∀ {k' : Unit → Env → Option R}, (capsAll (Γ := Γ) cl).run O e k' = some r → k' () e = some r ∧ os.map (ev a) = packV (closN cl) ((spread os cl).map (ev a))
  | [], k, h => ⟨[], h, fun h' => ⟨h', rfl⟩⟩
  | .tmp s :: os, k, h => by
    simp only [closOf, Den.M.run, run_bind] at h
    obtain ⟨cl, h, hcl⟩ := closOf_run S os h
    refine ⟨_, h, fun h' => ?_⟩
    cases hz : (e.get s).sv with
    | clo g cs =>
      rw [hz] at h'
      simp only [capsAll, run_bind] at h'
      obtain ⟨h1, h2⟩ := capsOk_run cs h'
      obtain ⟨h3, h4⟩ := hcl h1
      refine ⟨h3, ?_⟩
      obtain ⟨vs, q1, q2⟩ := S.fn.clo s g cs hz
      have hv := caps_vals q2 h2
      have hl : vs.length = cs.length := q2.1
      show a s :: os.map (ev a) = packV (some (g, cs.length) :: closN cl) (((cs.map fun c => Operand.tmp c.1) ++ spread os cl).map (ev a))
      rw [List.map_append, ← hv, packV, List.take_left' hl, List.drop_left' hl, ← h4, q1]
    | _ => 
      rw [hz] at h'
      obtain ⟨h3, h4⟩ := hcl h'
      refine ⟨h3, ?_⟩
      show a s :: os.map (ev a) = packV (none :: closN cl) (a s :: (spread os cl).map (ev a))
      rw [packV, ← h4]
  | .func f :: os, k, h => by
    simp only [closOf, run_bind] at h
    obtain ⟨cl, h, hcl⟩ := closOf_run S os h
    refine ⟨_, h, fun h' => ?_⟩
    obtain ⟨h3, h4⟩ := hcl h'
    refine ⟨h3, ?_⟩
    show ev a (.func f) :: os.map (ev a) = packV (none :: closN cl) (ev a (.func f) :: (spread os cl).map (ev a))
    rw [packV, ← h4]
  | .const v :: os, k, h => by
    simp only [closOf, run_bind] at h
    obtain ⟨cl, h, hcl⟩ := closOf_run S os h
    refine ⟨_, h, fun h' => ?_⟩
    obtain ⟨h3, h4⟩ := hcl h'
    refine ⟨h3, ?_⟩
    show ev a (.const v) :: os.map (ev a) = packV (none :: closN cl) (ev a (.const v) :: (spread os cl).map (ev a))
    rw [packV, ← h4]
  | .global g :: os, k, h => by
    simp only [closOf, run_bind] at h
    obtain ⟨cl, h, hcl⟩ := closOf_run S os h
    refine ⟨_, h, fun h' => ?_⟩
    obtain ⟨h3, h4⟩ := hcl h'
    refine ⟨h3, ?_⟩
    show ev a (.global g) :: os.map (ev a) = packV (none :: closN cl) (ev a (.global g) :: (spread os cl).map (ev a))
    rw [packV, ← h4]
/-- a call of what is known, its arguments spread out -/
theorem callM_ok (hF : FnsOk P Γ) (hG : Good P Γ τ O) {R : Type} {r : R} {w : World} {A : Act} {e : Env} {γ : Nat → Gs} {I F : Nat → Prop} {o : Oper} {next : Act → World → Prop} {Q : Exit → Act → World → Prop} {k : Unit → Env → Option R} {f : Operand} {as : Array Operand} {ts : Array TypeId}
    (S : St w (av A) e γ I F (fun _ => False) (fun _ => False)) (hK : TOk τ F w) (ho : o.op = .call ⟨.value f, as, ts⟩) {g n : Nat} {σ : Sig} (hσ : Γ.sigs[n]? = some σ) (hfid : σ.fid = g) {vs : List Value} (hfv : ev (av A) f = .func (.func g) #[] vs.toArray)
    {os : List Operand} (hpk : packV σ.clos (os.map (ev (av A))) = as.toList.map (ev (av A)) ++ vs)
    (h : (callM (Γ := Γ) n σ o.dst os).run O e k = some r) (hnext : ∀ v w', Wx τ.dr I F w w' → Done k r w' (outP o.dst (av A) v) I F (fun _ => False) → next (A.put o.dst v) w') : o.wp P A w next Q := by
  obtain ⟨hfn, hnt, hbd, hnm⟩ := hF n σ hσ
  simp only [callM] at h
  rw [run_bind] at h
  have A0 : ABag w (av A) e γ I F (fun _ => False) σ.retain [] [] [] [] := ⟨S, fun i hi => absurd hi List.not_mem_nil, List.Pairwise.nil, fun i hi => absurd hi List.not_mem_nil, fun x hx => absurd hx List.not_mem_nil, List.nodup_nil, fun x hx => absurd hx List.not_mem_nil, fun n hn => absurd hn List.not_mem_nil⟩
  obtain ⟨z, L, e1, I1, Ω1, B, h, A1, hLv, hI1, hI2, ⟨dn, hds, hins⟩, hbk, hbsv, hbv⟩ := argsM_ok σ.params os (z := ⟨[], [], [], []⟩) A0 h
  simp only [List.nil_append] at A1 hds hbk
  exact callRest hG hσ hK A1 hI1 hI2 hds hins hbk hbsv hbv h hnext fun hc => wp_call ho hfv (hfid ▸ hfn) hbd hnm (by rw [hLv, hpk] at hc; exact hfid ▸ hc)
theorem callFn_ok (hF : FnsOk P Γ) (hG : Good P Γ τ O) {R : Type} {r : R} {w : World} {A : Act} {e : Env} {γ : Nat → Gs} {I F : Nat → Prop} {o : Oper} {next : Act → World → Prop} {Q : Exit → Act → World → Prop} {k : Unit → Env → Option R} {f : Operand} {as : Array Operand} {ts : Array TypeId}
    (S : St w (av A) e γ I F (fun _ => False) (fun _ => False)) (hK : TOk τ F w) (ho : o.op = .call ⟨.value f, as, ts⟩) {g : Nat} {cs : List Operand} (hfv : ev (av A) f = .func (.func g) #[] (cs.map (ev (av A))).toArray)
    (h : (callFn (Γ := Γ) o.dst g (as.toList ++ cs)).run O e k = some r) (hnext : ∀ v w', Wx τ.dr I F w w' → Done k r w' (outP o.dst (av A) v) I F (fun _ => False) → next (A.put o.dst v) w') : o.wp P A w next Q := by
  unfold callFn at h
  rw [run_bind] at h
  obtain ⟨fs, h⟩ := fnsOf_run _ h
  split at h
  · rename_i n σ hσ
    obtain ⟨j, hj, hσ, hfid, hcl⟩ := findSig_ok hσ
    rw [Nat.zero_add] at hj
    subst hj
    exact callM_ok hF hG S hK ho hσ hfid hfv (by rw [hcl, packV, List.map_append]) h hnext
  · cases h
theorem callsOk (hF : FnsOk P Γ) (hG : Good P Γ τ O) : CallsOk P Γ τ O := by
  intro R r w A e γ I F o next Q k f as ts S hK ho h hnext
  have nf : ∀ n : Nat, ¬ (fun _ : Nat => False) n := fun _ => id
  simp only [callAny, run_bind] at h
  obtain ⟨ov, D, h⟩ := rd_ok S nf f h
  cases ov with
  | data k' t0 m0 x0 src0 =>
    cases k' with
    | pin f' =>
      cases f' with
      | none => cases h
      | some g =>
        simp only [run_bind] at h
        obtain ⟨fs, h⟩ := fnsOf_run _ h
        split at h
        · rename_i n σ hσ
          exact callClo hF hG S hK ho hσ (by obtain ⟨n', f'', _, _, q, _⟩ := D; exact ⟨_, q⟩) h hnext
        · cases h
    | _ => cases h
  | clo g n0 p0 t0 =>
    simp only [run_bind] at h
    obtain ⟨fs, h⟩ := fnsOf_run _ h
    split at h
    · rename_i n σ hσ
      exact callClo hF hG S hK ho hσ (by obtain ⟨u, _, q⟩ := D; exact ⟨_, q⟩) h hnext
    · cases h
  | ptr _ _ _ => cases h
  | nil => cases h
  | cst _ => cases h
  | cl g cs =>
    simp only [run_bind] at h
    obtain ⟨h, hv⟩ := capsOk_run cs h
    obtain ⟨vs, q1, q2⟩ := D
    have := caps_vals q2 hv
    exact callFn_ok hF hG S hK ho (by rw [q1, this]) h hnext
  | fn g cs =>
    obtain ⟨hcs, hfv⟩ := D
    subst hcs
    simp only [List.map_nil, List.append_nil] at h
    have plain : (callFn (Γ := Γ) o.dst g as.toList).run O e k = some r → o.wp P A w next Q := fun h =>
      callFn_ok hF hG S hK ho (cs := []) hfv (by rw [List.append_nil]; exact h) hnext
    split at h
    · rw [run_bind] at h
      obtain ⟨cl, h, hcl⟩ := closOf_run S _ h
      split at h
      · exact plain h
      · unfold callPk at h
        rw [run_bind] at h
        obtain ⟨fs, h⟩ := fnsOf_run _ h
        split at h
        · rename_i n σ hσ
          obtain ⟨j, hj, hσ, hfid, hc⟩ := findSig_ok hσ
          rw [Nat.zero_add] at hj
          subst hj
          rw [run_bind] at h
          obtain ⟨h, hpk⟩ := hcl h
          exact callM_ok hF hG S hK ho hσ hfid (vs := []) hfv (by rw [hc, ← hpk, List.append_nil]) h hnext
        · cases h
    · exact plain h
end
end Go.Den
/-
  Regions whose order is drawn: operations that do not meet change places.
-/
namespace Go.Den
open Go
set_option linter.unusedVariables false
set_option linter.unusedSimpArgs false
section
variable {P : Program} {Γ : Ctx} {O : Fun Γ}
/-- a slot's parts: what it holds, and its mode -/
abbrev Tok : Type := Slot × Md
def tkS (s : Slot) (j : Nat) : Tok := if j % 2 = 0 then (s.core, .gone) else (⟨0, 0, 0, .no⟩, s.md)
def Env.tk (e : Env) (j : Nat) : Tok := tkS (e.get (j / 2)) j
theorem tkS_even (s : Slot) (n : Nat) : tkS s (2 * n) = (s.core, .gone) := if_pos (by omega)
theorem tkS_odd (s : Slot) (n : Nat) : tkS s (2 * n + 1) = (⟨0, 0, 0, .no⟩, s.md) := if_neg (by omega)
theorem core_md {s t : Slot} (h : s.core = t.core) (hm : s.md = t.md) : s = t := by
  obtain ⟨a, b, c, v⟩ := s
  obtain ⟨a', b', c', v'⟩ := t
  simp only [Slot.core, Slot.mk.injEq] at h
  obtain ⟨h1, h2, h3, h4⟩ := h
  subst h1; subst h2; subst h3
  cases v <;> cases v' <;> simp_all [Slot.md]
theorem core_withMd (s : Slot) (m : Md) : (s.withMd m).core = s.core := by
  obtain ⟨a, b, c, v⟩ := s
  cases v <;> rfl
theorem md_withMd {s t : Slot} (h : s.core = t.core) (m : Md) : (s.withMd m).md = (t.withMd m).md := by
  obtain ⟨a, b, c, v⟩ := s
  obtain ⟨a', b', c', v'⟩ := t
  simp only [Slot.core, Slot.mk.injEq] at h
  obtain ⟨h1, h2, h3, h4⟩ := h
  cases v <;> cases v' <;> simp_all [Slot.md, Slot.withMd]
theorem Env.tk_even (e : Env) (n : Nat) : e.tk (2 * n) = ((e.get n).core, .gone) := by
  unfold Env.tk
  rw [tkS_even, show 2 * n / 2 = n by omega]
theorem Env.tk_odd (e : Env) (n : Nat) : e.tk (2 * n + 1) = (⟨0, 0, 0, .no⟩, (e.get n).md) := by
  unfold Env.tk
  rw [tkS_odd, show (2 * n + 1) / 2 = n by omega]
theorem get_of_tk {e e' : Env} {n : Nat} (h1 : e.tk (2 * n) = e'.tk (2 * n)) (h2 : e.tk (2 * n + 1) = e'.tk (2 * n + 1)) : e.get n = e'.get n := by
  rw [Env.tk_even, Env.tk_even] at h1
  rw [Env.tk_odd, Env.tk_odd] at h2
  exact core_md (congrArg Prod.fst h1) (congrArg Prod.snd h2)
theorem core_of_tk {e e' : Env} {n : Nat} (h1 : e.tk (2 * n) = e'.tk (2 * n)) : (e.get n).core = (e'.get n).core := by
  rw [Env.tk_even, Env.tk_even] at h1
  exact congrArg Prod.fst h1
theorem tk_set (e : Env) (n : Nat) (z : Slot) (j : Nat) : (e.set n z).tk j = if j / 2 = n then tkS z j else e.tk j := by
  unfold Env.tk
  rw [Env.get_set]
  split <;> rfl
theorem half {j n : Nat} (h : j / 2 = n) : j = 2 * n ∨ j = 2 * n + 1 := by omega
/-- what a run reads and writes -/
structure Eff {α : Type} (O : Fun Γ) (m : Den.M Γ α) (e e' : Env) (a : α) (rs ws : List Nat) : Prop where
  off : ∀ n, n ∉ ws → e'.tk n = e.tk n
  any : ∀ e2 : Env, (∀ n, n ∈ rs → e2.tk n = e.tk n) → ∃ e2', m.run O e2 (fun a e => some (a, e)) = some (a, e2') ∧ ∀ n, e2'.tk n = if n ∈ ws then e'.tk n else e2.tk n
theorem runR_eff {α R : Type} {r : R} : ∀ (m : Den.M Γ α) {e : Env} {rs ws : List Nat} {k : α → Env → List Nat → List Nat → Option R}, m.runR O e rs ws k = some r →
    ∃ a e' rs' ws', k a e' (rs' ++ rs) (ws' ++ ws) = some r ∧ Eff O m e e' a rs' ws'
  | .ret a, e, rs, ws, k, h => ⟨a, e, [], [], h, fun _ _ => rfl, fun e2 _ => ⟨e2, rfl, fun n => by simp⟩⟩
  | .fail, e, rs, ws, k, h => by cases h
  | .get n q, e, rs, ws, k, h => by
    obtain ⟨a, e', rs', ws', h, E⟩ := runR_eff (q (e.get n)) h
    refine ⟨a, e', rs' ++ [2 * n, 2 * n + 1], ws', by rw [List.append_assoc]; exact h, E.off, fun e2 h2 => ?_⟩
    obtain ⟨e2', h3, h4⟩ := E.any e2 fun j hj => h2 j (List.mem_append_left _ hj)
    refine ⟨e2', ?_, h4⟩
    simp only [Den.M.run]
    rw [get_of_tk (h2 (2 * n) (by simp)) (h2 (2 * n + 1) (by simp))]; exact h3
  | .peek n q, e, rs, ws, k, h => by
    obtain ⟨a, e', rs', ws', h, E⟩ := runR_eff (q (e.get n).core) h
    refine ⟨a, e', rs' ++ [2 * n], ws', by rw [List.append_assoc]; exact h, E.off, fun e2 h2 => ?_⟩
    obtain ⟨e2', h3, h4⟩ := E.any e2 fun j hj => h2 j (List.mem_append_left _ hj)
    refine ⟨e2', ?_, h4⟩
    simp only [Den.M.run]
    rw [core_of_tk (h2 (2 * n) (by simp))]; exact h3
  | .set n z q, e, rs, ws, k, h => by
    obtain ⟨a, e', rs', ws', h, E⟩ := runR_eff q (e := e.set n z) h
    refine ⟨a, e', rs', ws' ++ [2 * n, 2 * n + 1], by rw [List.append_assoc]; exact h, fun j hj => ?_, fun e2 h2 => ?_⟩
    · rw [List.mem_append, not_or] at hj
      have hj2 : ¬ j / 2 = n := fun c => by
        have := hj.2
        rcases half c with c | c <;> simp [c] at this
      rw [E.off j hj.1, tk_set, if_neg hj2]
    · obtain ⟨e2', h3, h4⟩ := E.any (e2.set n z) fun j hj => by
        rw [tk_set, tk_set, h2 j hj]
      refine ⟨e2', h3, fun j => ?_⟩
      rw [h4 j]
      by_cases c : j ∈ ws'
      · simp [c]
      · rw [if_neg c]
        by_cases d : j / 2 = n
        · rw [if_pos (by rcases half d with d | d <;> simp [d]), E.off j c, tk_set, tk_set, if_pos d, if_pos d]
        · rw [if_neg (by
            rw [List.mem_append, not_or]
            refine ⟨c, fun k => d ?_⟩
            simp only [List.mem_cons, List.not_mem_nil, or_false] at k
            omega), tk_set, if_neg d]
  | .mode n m q, e, rs, ws, k, h => by
    obtain ⟨a, e', rs', ws', h, E⟩ := runR_eff q (e := e.set n ((e.get n).withMd m)) h
    have ev : ∀ e : Env, (e.set n ((e.get n).withMd m)).tk (2 * n) = e.tk (2 * n) := fun e => by
      rw [tk_set, if_pos (by omega), tkS_even, core_withMd, Env.tk_even]
    refine ⟨a, e', rs' ++ [2 * n], ws' ++ [2 * n + 1], by rw [List.append_assoc, List.append_assoc]; exact h, fun j hj => ?_, fun e2 h2 => ?_⟩
    · rw [List.mem_append, not_or] at hj
      rw [E.off j hj.1]
      by_cases d : j / 2 = n
      · rcases half d with d | d
        · subst d; exact ev e
        · exact absurd (by simp [d]) hj.2
      · rw [tk_set, if_neg d]
    · have hc := core_of_tk (h2 (2 * n) (by simp))
      have od : (e2.set n ((e2.get n).withMd m)).tk (2 * n + 1) = (e.set n ((e.get n).withMd m)).tk (2 * n + 1) := by
        rw [tk_set, tk_set, if_pos (by omega), if_pos (by omega), tkS_odd, tkS_odd, md_withMd hc]
      obtain ⟨e2', h3, h4⟩ := E.any (e2.set n ((e2.get n).withMd m)) fun j hj => by
        by_cases d : j / 2 = n
        · rcases half d with d | d
          · subst d; rw [ev, ev]; exact h2 _ (by simp)
          · subst d; exact od
        · rw [tk_set, tk_set, if_neg d, if_neg d]; exact h2 j (List.mem_append_left _ hj)
      refine ⟨e2', h3, fun j => ?_⟩
      rw [h4 j]
      by_cases c : j ∈ ws'
      · simp [c]
      · rw [if_neg c]
        by_cases d : j = 2 * n + 1
        · subst d
          rw [if_pos (by simp), E.off _ c, od]
        · rw [if_neg (by simp [c, d])]
          by_cases d2 : j / 2 = n
          · rcases half d2 with d2 | d2
            · subst d2; exact ev e2
            · exact absurd d2 d
          · rw [tk_set, if_neg d2]
  | .ite b x y, e, rs, ws, k, h => by
    cases b with
    | true =>
      obtain ⟨a, e', rs', ws', h, E⟩ := runR_eff x h
      exact ⟨a, e', rs', ws', h, E.off, E.any⟩
    | false =>
      obtain ⟨a, e', rs', ws', h, E⟩ := runR_eff y h
      exact ⟨a, e', rs', ws', h, E.off, E.any⟩
  | .ask n x q, e, rs, ws, k, h => by
    obtain ⟨y, hy, h⟩ := Option.bind_eq_some_iff.1 h
    obtain ⟨a, e', rs', ws', h, E⟩ := runR_eff (q y) h
    refine ⟨a, e', rs', ws', h, E.off, fun e2 h2 => ?_⟩
    obtain ⟨e2', h3, h4⟩ := E.any e2 h2
    refine ⟨e2', ?_, h4⟩
    simp only [Den.M.run]
    rw [hy]; exact h3

/-- an operation by its number, what it reads and writes, what it writes there -/
structure Itm where
  i : Nat
  f : Foot
  u : Nat → Tok
def put' (f : Foot) (u g : Nat → Tok) : Nat → Tok := fun n => if n ∈ f.ws then u n else g n
def Ef (O : Fun Γ) (σ : Sig) (reg : Nat) (ops : List Oper) (x : Itm) (g : Nat → Tok) : Prop :=
  ∃ o, ops[x.i]? = some o ∧ ∀ e2 : Env, (∀ n, n ∈ x.f.rs → e2.tk n = g n) → ∃ e2', (stepM Γ σ reg ops x.i o).run O e2 (fun _ e => some e) = some e2' ∧ ∀ n, e2'.tk n = put' x.f x.u e2.tk n
def Ch (O : Fun Γ) (σ : Sig) (reg : Nat) (ops : List Oper) : (Nat → Tok) → List Itm → (Nat → Tok) → Prop
  | g, [], g' => g' = g
  | g, x :: l, g' => Ef O σ reg ops x g ∧ Ch O σ reg ops (put' x.f x.u g) l g'
variable {σ : Sig} {reg : Nat} {ops : List Oper}
theorem Ef.congr {x : Itm} {g h : Nat → Tok} (E : Ef O σ reg ops x g) (hg : ∀ n, n ∈ x.f.rs → g n = h n) : Ef O σ reg ops x h := by
  obtain ⟨o, ho, E⟩ := E
  exact ⟨o, ho, fun e2 h2 => E e2 fun n hn => by rw [h2 n hn, hg n hn]⟩
theorem meets_false {a b : List Nat} (h : meets a b = false) {n : Nat} (ha : n ∈ a) : n ∉ b := by
  intro hb
  have : meets a b = true := by
    unfold meets
    rw [List.any_eq_true]
    exact ⟨n, ha, by simpa using hb⟩
  rw [h] at this; cases this
theorem Ch.swap {x y : Itm} {l : List Itm} {g g' : Nat → Tok} (h : Ch O σ reg ops g (x :: y :: l) g') (hc : clash x.f y.f = false) : Ch O σ reg ops g (y :: x :: l) g' := by
  obtain ⟨h1, h2, h3⟩ := h
  simp only [clash, Bool.or_eq_false_iff] at hc
  obtain ⟨⟨c1, c2⟩, c3⟩ := hc
  refine ⟨h2.congr fun n hn => ?_, h1.congr fun n hn => ?_, ?_⟩
  · unfold put'; rw [if_neg fun k => meets_false c1 k hn]
  · unfold put'; rw [if_neg (meets_false c3 hn)]
  · have : put' x.f x.u (put' y.f y.u g) = put' y.f y.u (put' x.f x.u g) := by
      funext n
      unfold put'
      by_cases k1 : n ∈ x.f.ws
      · rw [if_pos k1, if_neg (meets_false c2 k1), if_pos k1]
      · rw [if_neg k1, if_neg k1]
    rw [this]; exact h3
theorem Ch.front : ∀ (l1 : List Itm) {x : Itm} {l2 : List Itm} {g g' : Nat → Tok}, Ch O σ reg ops g (l1 ++ x :: l2) g' → (∀ y ∈ l1, clash y.f x.f = false) → Ch O σ reg ops g (x :: (l1 ++ l2)) g'
  | [], x, l2, g, g', h, _ => h
  | y :: l1, x, l2, g, g', h, hc => by
    have h2 := Ch.front l1 h.2 fun z hz => hc z (List.mem_cons_of_mem _ hz)
    exact Ch.swap (x := y) (y := x) ⟨h.1, h2⟩ (hc y List.mem_cons_self)

inductive Reach (ops : List Oper) : Nat → Nat → Prop where
  | one {j : Nat} {o : Oper} {e : Edge} : ops[j]? = some o → e ∈ o.after → Region.binds .any e = true → Reach ops j e.on
  | step {j p : Nat} {o : Oper} {e : Edge} : ops[j]? = some o → e ∈ o.after → Region.binds .any e = true → Reach ops e.on p → Reach ops j p
theorem fold_bits {acc : List Nat} {p : Nat} : ∀ (l : List Edge) (s : Nat), (l.foldl (fun s e => if Region.binds .any e then s ||| 2 ^ e.on ||| acc.getD e.on 0 else s) s).testBit p = true →
    s.testBit p = true ∨ ∃ e, e ∈ l ∧ Region.binds .any e = true ∧ (p = e.on ∨ (acc.getD e.on 0).testBit p = true)
  | [], s, h => .inl h
  | e :: l, s, h => by
    rw [List.foldl_cons] at h
    rcases fold_bits l _ h with h | ⟨e', h1, h2⟩
    · split at h
      · rename_i hb
        rw [Nat.testBit_or, Nat.testBit_or, Nat.testBit_two_pow] at h
        simp only [Bool.or_eq_true, decide_eq_true_eq] at h
        rcases h with (h | h) | h
        · exact .inl h
        · exact .inr ⟨e, List.mem_cons_self, hb, .inl h.symm⟩
        · exact .inr ⟨e, List.mem_cons_self, hb, .inr h⟩
      · exact .inl h
    · exact .inr ⟨e', List.mem_cons_of_mem _ h1, h2⟩
theorem anc_reach : ∀ (l : List Oper) (acc : List Nat), l = ops.drop acc.length → (∀ j p, (acc.getD j 0).testBit p = true → Reach ops j p) → ∀ j p, ((anc l acc).getD j 0).testBit p = true → Reach ops j p
  | [], acc, _, ha => ha
  | o :: l, acc, hl, ha => by
    have ho : ops[acc.length]? = some o := by
      have := congrArg (fun z => z[0]?) hl
      simp only [List.getElem?_cons_zero, List.getElem?_drop, Nat.add_zero] at this
      exact this.symm
    have hl' : l = ops.drop (acc.length + 1) := by
      have := congrArg (List.drop 1) hl
      simp only [List.drop_succ_cons, List.drop_zero, List.drop_drop] at this
      exact this
    unfold anc
    refine anc_reach l _ (by rw [List.length_append]; exact hl') fun j p h => ?_
    rw [List.getD_eq_getElem?_getD] at h
    rcases Nat.lt_trichotomy j acc.length with c | c | c
    · rw [List.getElem?_append_left c, ← List.getD_eq_getElem?_getD] at h
      exact ha j p h
    · subst c
      rw [List.getElem?_append_right (Nat.le_refl _)] at h
      simp only [Nat.sub_self, List.getElem?_cons_zero, Option.getD_some] at h
      rcases fold_bits _ _ h with h | ⟨e, h1, h2, h3⟩
      · rw [Nat.zero_testBit] at h; cases h
      · have he : e ∈ o.after := by simpa using h1
        rcases h3 with rfl | h3
        · exact .one ho he h2
        · exact .step ho he h2 (ha _ _ h3)
    · rw [List.getElem?_eq_none (by simp; omega)] at h
      simp at h
theorem clashFree_ok {an : List Nat} : ∀ (l : List Foot) (j : Nat) (acc : List Foot), acc.length = j → clashFree an l j acc = true →
    ∀ (q : Nat) (f : Foot), l[q]? = some f → ∀ (p : Nat) (f' : Foot), (acc ++ l)[p]? = some f' → p < j + q → clash f' f = false ∨ (an.getD (j + q) 0).testBit p = true
  | [], j, acc, _, _, q, f, h, _, _, _, _ => by simp at h
  | f0 :: l, j, acc, ha, h, q, f, hq, p, f', hp, hlt => by
    simp only [clashFree, Bool.and_eq_true] at h
    obtain ⟨h1, h2⟩ := h
    cases q with
    | zero =>
      simp only [List.getElem?_cons_zero, Option.some.injEq] at hq
      subst hq
      rw [List.getElem?_append_left (by omega)] at hp
      rw [List.all_eq_true] at h1
      have := h1 (f', p) (by
        rw [List.mem_iff_getElem?]
        exact ⟨p, by rw [List.getElem?_zipIdx, hp]; simp⟩)
      simp only [Bool.or_eq_true, Bool.not_eq_true'] at this
      exact this
    | succ q =>
      simp only [List.getElem?_cons_succ] at hq
      have := clashFree_ok l (j + 1) (acc ++ [f0]) (by simp [ha]) h2 q f hq p f' (by rw [List.append_assoc]; exact hp) (by omega)
      rw [show j + 1 + q = j + (q + 1) by omega] at this
      exact this
end
end Go.Den
/-
  Regions whose order is drawn: any order does what the listed one does.
-/
namespace Go.Den
open Go
set_option linter.unusedVariables false
set_option linter.unusedSimpArgs false
section
variable {τ : Told} {P : Program} {Γ : Ctx} {O : Fun Γ} {σ : Sig} {reg : Nat}
theorem run_k {α R : Type} (k : α → Env → Option R) : ∀ (m : Den.M Γ α) (e : Env), m.run O e k = (m.run O e fun a e => some (a, e)).bind fun z => k z.1 z.2
  | .ret a, e => rfl
  | .fail, e => rfl
  | .get n q, e => run_k k (q (e.get n)) e
  | .set n z q, e => run_k k q (e.set n z)
  | .ite b x y, e => by
    cases b
    · exact run_k k y e
    · exact run_k k x e
  | .ask n x q, e => by
    simp only [Den.M.run]
    cases O n x with
    | none => rfl
    | some z => exact run_k k (q z) e
  | .peek n q, e => run_k k (q (e.get n).core) e
  | .mode n m q, e => run_k k q (e.set n ((e.get n).withMd m))
theorem fork_env {R : Type} {r : R} {b : Bool} {d : Option Nat} {k : Env → Option R} {e : Env} (h : fork b d k e = some r) : ∃ e', (∀ n, e'.get n = e.get n) ∧ k e' = some r := by
  unfold fork at h
  cases b with
  | false => exact ⟨e, fun _ => rfl, h⟩
  | true =>
    simp only [if_true] at h
    cases d with
    | none => exact ⟨e, fun _ => rfl, h⟩
    | some d =>
      simp only at h
      split at h
      · rename_i ve s dv m x heq
        have : ∀ n, (e.set d ⟨ve, s, dv, .val .reg .bool m x⟩).get n = e.get n := fun n => by
          rw [Env.get_set]
          split
          · rename_i hn; rw [hn, heq]
          · rfl
        cases x with
        | true => exact ⟨_, this, h⟩
        | false => exact ⟨_, this, h⟩
      · exact ⟨e, fun _ => rfl, h⟩
theorem draw_items {R : Type} {r : R} {k : Env → Option R} {ops : List Oper} : ∀ (l : List Oper) (i : Nat) (fs : List Foot) (e : Env), l = ops.drop i → runDraw Γ O σ reg ops l i fs k e = some r →
    ∃ (its : List Itm) (e' : Env), its.map (·.i) = List.range' i l.length ∧ Ch O σ reg ops e.tk its e'.tk ∧ k e' = some r ∧ upward ops = true ∧ clashFree (anc ops []) (fs ++ its.map (·.f)) 0 [] = true
  | [], i, fs, e, _, h => by
    simp only [runDraw] at h
    split at h
    · rename_i hc
      simp only [Bool.and_eq_true] at hc
      exact ⟨[], e, rfl, rfl, h, hc.1, by rw [List.map_nil, List.append_nil]; exact hc.2⟩
    · cases h
  | o :: l, i, fs, e, hl, h => by
    have ho : ops[i]? = some o := by
      have := congrArg (fun z => z[0]?) hl
      simp only [List.getElem?_cons_zero, List.getElem?_drop, Nat.add_zero] at this
      exact this.symm
    have hl' : l = ops.drop (i + 1) := by
      have := congrArg (List.drop 1) hl
      simp only [List.drop_succ_cons, List.drop_zero, List.drop_drop] at this
      exact this
    simp only [runDraw] at h
    obtain ⟨a, e1, rs, ws, h, E⟩ := runR_eff _ h
    obtain ⟨e2, he2, h⟩ := fork_env h
    obtain ⟨its, e', h1, h2, h3, h4, h5⟩ := draw_items l (i + 1) _ e2 hl' h
    simp only [List.append_nil] at h5
    have hu : e2.tk = put' ⟨rs, ws⟩ e1.tk e.tk := by
      funext n
      rw [show e2.tk n = e1.tk n by unfold Env.tk; rw [he2]]
      unfold put'
      by_cases c : n ∈ ws
      · rw [if_pos c]
      · rw [if_neg c, E.off n c]
    refine ⟨⟨i, ⟨rs, ws⟩, e1.tk⟩ :: its, e', by rw [List.map_cons, h1, List.length_cons, List.range'_succ], ⟨⟨o, ho, fun e3 h3 => ?_⟩, by rw [hu] at h2; exact h2⟩, h3, h4, by rw [List.append_assoc] at h5; exact h5⟩
    obtain ⟨e3', q1, q2⟩ := E.any e3 h3
    exact ⟨e3', by rw [run_k, q1]; rfl, q2⟩
theorem Reach.closed {ops : List Oper} {Ls : Nat → Prop} (hc : ∀ (j : Nat) (o : Oper) (e : Edge), ops[j]? = some o → Ls j → e ∈ o.after → Region.binds .any e = true → Ls e.on) {j p : Nat} (h : Reach ops j p) : Ls j → Ls p := by
  induction h with
  | one h1 h2 h3 => exact fun k => hc _ _ _ h1 k h2 h3
  | step h1 h2 h3 _ ih => exact fun k => ih (hc _ _ _ h1 k h2 h3)
theorem Reach.first {ops : List Oper} {j p : Nat} (h : Reach ops j p) : ∃ (o : Oper) (e : Edge), ops[j]? = some o ∧ e ∈ o.after ∧ Region.binds .any e = true ∧ (p = e.on ∨ Reach ops e.on p) := by
  cases h with
  | one h1 h2 h3 => exact ⟨_, _, h1, h2, h3, .inl rfl⟩
  | step h1 h2 h3 h4 => exact ⟨_, _, h1, h2, h3, .inr h4⟩
variable {τ : Told} {w0 : World} {I0 F : Nat → Prop} {v0 : Nat → Value} {Q : Exit → Act → World → Prop} {ops : Array Oper}
theorem draw_run (hT : TysOk P Γ) (hC : CallsOk P Γ τ O) (hup : upward ops.toList = true) {g' : Nat → Tok} (hfin : ∀ A w e, FS τ w0 I0 F σ v0 A w e → e.tk = g' → Q .normal A w) :
    ∀ (fuel : Nat) (rem : List Itm) (listed : Array Bool) {A : Act} {w : World} {e : Env}, fuel = rem.length → FS τ w0 I0 F σ v0 A w e → Ch O σ reg ops.toList e.tk rem g' →
    (∀ x ∈ rem, listed[x.i]? = some false) → (∀ j : Nat, listed[j]? = some false → ∃ x, x ∈ rem ∧ x.i = j) → (∀ (j : Nat) (o : Oper) (e : Edge), ops.toList[j]? = some o → listed[j]? = some true → e ∈ o.after → Region.binds .any e = true → listed[e.on]? = some true) →
    (rem.Pairwise fun x y => x.i < y.i) → (rem.Pairwise fun x y => clash x.f y.f = false ∨ Reach ops.toList y.i x.i) → wpAny P .any ops Q fuel listed A w
  | 0, rem, listed, A, w, e, hf, S, hch, _, hu, _, _, _ => by
    have : rem = [] := List.eq_nil_of_length_eq_zero hf.symm
    subst this
    refine ⟨List.eq_nil_iff_forall_not_mem.2 fun j hj => ?_, hfin A w e S hch.symm⟩
    obtain ⟨h1, _⟩ := mem_ready.1 hj
    obtain ⟨x, hx, _⟩ := hu j (by
      rw [Array.getD_eq_getD_getElem?] at h1
      cases hl : listed[j]? with
      | none => rw [hl] at h1; cases h1
      | some b => rw [hl] at h1; cases b <;> first | rfl | cases h1)
    cases hx
  | fuel + 1, rem, listed, A, w, e, hf, S, hch, hl, hu, hcl, hso, hpc => by
    constructor
    · intro hr
      cases rem with
      | nil => cases hf
      | cons x rem =>
        exfalso
        obtain ⟨⟨o, ho, _⟩, _⟩ := hch
        have hx := hl x List.mem_cons_self
        have : x.i ∈ Region.ready .any ops listed := mem_ready.2 ⟨by rw [Array.getD_eq_getD_getElem?, hx]; rfl, o, by simpa using ho, fun ed he hb => ?_⟩
        · rw [hr] at this; cases this
        · unfold upward at hup
          rw [List.all_eq_true] at hup
          have h1 := hup (o, x.i) (by
            rw [List.mem_iff_getElem?]
            exact ⟨x.i, by rw [List.getElem?_zipIdx, ho]; simp⟩)
          rw [List.all_eq_true] at h1
          have h2 := h1 ed (by simpa using he)
          simp only [hb, Bool.not_true, Bool.false_or, decide_eq_true_eq] at h2
          have hxl : x.i < listed.size := (Array.getElem?_eq_some_iff.1 hx).1
          have hel : ed.on < listed.size := by omega
          rw [Array.getD_eq_getD_getElem?]
          cases hq : listed[ed.on]? with
          | none => rw [Array.getElem?_eq_none_iff] at hq; omega
          | some b =>
            cases b with
            | true => rfl
            | false =>
              obtain ⟨y, hy, hyi⟩ := hu _ hq
              rcases List.mem_cons.1 hy with hy | hy
              · subst hy; omega
              · have := (List.pairwise_cons.1 hso).1 y hy
                omega
    · intro i hi
      obtain ⟨h1, o, ho, h2⟩ := mem_ready.1 hi
      have hli : listed[i]? = some false := by
        rw [Array.getD_eq_getD_getElem?] at h1
        cases hl : listed[i]? with
        | none => rw [hl] at h1; cases h1
        | some b => rw [hl] at h1; cases b <;> first | rfl | cases h1
      have hel : ∀ e ∈ o.after, Region.binds .any e = true → listed[e.on]? = some true := fun ed he hb => by
        have := h2 ed he hb
        rw [Array.getD_eq_getD_getElem?] at this
        cases hq : listed[ed.on]? with
        | none => rw [hq] at this; cases this
        | some b => rw [hq] at this; cases b <;> first | rfl | cases this
      obtain ⟨x, hx, hxi⟩ := hu i hli
      subst hxi
      obtain ⟨l1, l2, hrem⟩ := List.append_of_mem hx
      subst hrem
      rw [List.pairwise_append] at hso hpc
      have hfr : ∀ y ∈ l1, clash y.f x.f = false := fun y hy => by
        rcases hpc.2.2 y hy x List.mem_cons_self with k | k
        · exact k
        · exfalso
          have hy1 := hl y (List.mem_append_left _ hy)
          have : listed[y.i]? = some true := by
            obtain ⟨o1, e1, q1, q2, q3, q4⟩ := k.first
            rw [Array.getElem?_toList, ho] at q1
            cases q1
            rcases q4 with q4 | q4
            · rw [q4]; exact hel _ q2 q3
            · exact q4.closed (Ls := fun j => listed[j]? = some true) hcl (hel _ q2 q3)
          rw [hy1] at this; cases this
      obtain ⟨⟨o', ho', hE⟩, hch2⟩ := hch.front l1 hfr
      rw [Array.getElem?_toList, ho] at ho'
      cases ho'
      obtain ⟨e2, hrun, he2⟩ := hE e fun _ _ => rfl
      refine stepM_ok hT hC ho S hrun fun A' w' e' S' hk => ?_
      have hk' := Option.some.inj hk
      subst hk'
      have hi1 : ∀ y ∈ l1, y.i < x.i := fun y hy => hso.2.2 y hy x List.mem_cons_self
      have hi2 : ∀ y ∈ l2, x.i < y.i := fun y hy => (List.pairwise_cons.1 hso.2.1).1 y hy
      have hset : ∀ j : Nat, (listed.setIfInBounds x.i true)[j]? = if x.i = j then some true else listed[j]? := fun j => by
        rw [Array.getElem?_setIfInBounds]
        have := (Array.getElem?_eq_some_iff.1 hli).1
        split <;> simp [this]
      refine draw_run hT hC hup hfin fuel (l1 ++ l2) _ ?_ S' (by rw [show e'.tk = put' x.f x.u e.tk from funext he2]; exact hch2) (fun y hy => ?_) (fun j hj => ?_) (fun j oj ed hoj hj he hb => ?_) ?_ ?_
      · simp only [List.length_append, List.length_cons] at hf ⊢; omega
      · rw [hset]
        rcases List.mem_append.1 hy with hy | hy
        · rw [if_neg (by have := hi1 y hy; omega)]; exact hl y (List.mem_append_left _ hy)
        · rw [if_neg (by have := hi2 y hy; omega)]; exact hl y (List.mem_append_right _ (List.mem_cons_of_mem _ hy))
      · rw [hset] at hj
        split at hj
        · cases hj
        · rename_i hne
          obtain ⟨y, hy, hyj⟩ := hu j hj
          refine ⟨y, ?_, hyj⟩
          rcases List.mem_append.1 hy with hy | hy
          · exact List.mem_append_left _ hy
          · rcases List.mem_cons.1 hy with hy | hy
            · subst hy; exact absurd hyj hne
            · exact List.mem_append_right _ hy
      · rw [hset]
        rw [hset] at hj
        split
        · rfl
        · split at hj
          · rename_i hji
            subst hji
            rw [Array.getElem?_toList, ho] at hoj; cases hoj
            exact hel ed he hb
          · exact hcl j oj ed hoj hj he hb
      · rw [List.pairwise_append]
        exact ⟨hso.1, (List.pairwise_cons.1 hso.2.1).2, fun y hy z hz => hso.2.2 y hy z (List.mem_cons_of_mem _ hz)⟩
      · rw [List.pairwise_append]
        exact ⟨hpc.1, (List.pairwise_cons.1 hpc.2.1).2, fun y hy z hz => hpc.2.2 y hy z (List.mem_cons_of_mem _ hz)⟩
theorem FS.drawn {A : Act} {w : World} {e : Env} (S : FS τ w0 I0 F σ v0 A w e) : FS τ w0 I0 F σ v0 A { w with drawn := w.drawn + 1 } e := by
  obtain ⟨γ, I, h1, h2⟩ := S.st
  exact ⟨⟨γ, I, h1.frame (Nat.le_refl _) fun _ _ _ => rfl, h2⟩, ⟨S.wk.os, S.wk.tape, S.wk.output, S.wk.size, fun d => Nat.le_succ_of_le (S.wk.drawn d), S.wk.old⟩, S.size, S.defers, S.held, τ.keep w _ (fun _ _ => rfl) S.told.k, S.told.d⟩
theorem drawOk (hm : P.follows .mixedOrders = true) (hT : TysOk P Γ) (hC : CallsOk P Γ τ O) : DrawOk P Γ τ O := by
  intro R r w0 I0 F σ v0 Q id ops k A w e hk S h
  obtain ⟨its, e', h1, h2, h3, h4, h5⟩ := draw_items ops.toList 0 [] e rfl h
  simp only [List.nil_append] at h5
  have hlen : its.length = ops.size := by
    have := congrArg List.length h1
    simpa using this
  have hidx : ∀ (p : Nat) (x : Itm), its[p]? = some x → x.i = p := fun p x hp => by
    have hp' := (List.getElem?_eq_some_iff.1 hp).1
    have := congrArg (fun l => l[p]?) h1
    simp only [List.getElem?_map, hp, Option.map_some] at this
    rw [List.getElem?_range' (by simp; omega)] at this
    simpa using this
  refine wp_region_any hm (draw_run hT hC h4 (g' := e'.tk) (fun A w e S he => hk A w e' (S.env fun n => get_of_tk (by rw [he]) (by rw [he])) h3) _ its _ (by rw [hlen]) S.drawn h2 (fun x hx => ?_) (fun j hj => ?_) (fun j o ed _ hj _ _ => ?_) ?_ ?_)
  · obtain ⟨p, hp⟩ := List.mem_iff_getElem?.1 hx
    have hp' := (List.getElem?_eq_some_iff.1 hp).1
    rw [hidx p x hp, Array.getElem?_replicate, if_pos (by omega)]
  · have hj' : j < ops.size := by
      rcases Nat.lt_or_ge j ops.size with c | c
      · exact c
      · rw [Array.getElem?_replicate, if_neg (by omega)] at hj; cases hj
    exact ⟨its[j], List.getElem_mem _, hidx j _ (List.getElem?_eq_getElem (by omega))⟩
  · rw [Array.getElem?_replicate] at hj
    split at hj <;> cases hj
  · rw [List.pairwise_iff_getElem]
    intro p q hp hq hpq
    rw [hidx p _ (List.getElem?_eq_getElem hp), hidx q _ (List.getElem?_eq_getElem hq)]
    exact hpq
  · rw [List.pairwise_iff_getElem]
    intro p q hp hq hpq
    have hq2 : (its.map (·.f))[q]? = some its[q].f := by rw [List.getElem?_map, List.getElem?_eq_getElem hq]; rfl
    have hp2 : ([] ++ its.map (·.f))[p]? = some its[p].f := by rw [List.nil_append, List.getElem?_map, List.getElem?_eq_getElem hp]; rfl
    rcases clashFree_ok (its.map (·.f)) 0 [] rfl h5 q _ hq2 p _ hp2 (by omega) with c | c
    · exact .inl c
    · rw [Nat.zero_add] at c
      rw [hidx p _ (List.getElem?_eq_getElem hp), hidx q _ (List.getElem?_eq_getElem hq)]
      exact .inr (anc_reach ops.toList [] rfl (fun j p h => by simp at h) q p c)
end
end Go.Den
/-
  What the evaluator tells of a function is what a call of it does.
-/
namespace Go.Den
open Go
section
variable {τ : Told} {P : Program} {Γ : Ctx} {O : Fun Γ}
theorem backOf_none : ∀ {ps : List PSig} {vs : List Value}, ps.all PSig.plain = true → backOf ps vs = []
  | [], _, _ => by simp [backOf]
  | .val _ :: ps, [], _ => rfl
  | .fn _ _ :: ps, [], _ => rfl
  | .val _ :: ps, _ :: vs, h => backOf_none (ps := ps) (by simpa [PSig.plain] using h)
  | .fn _ _ :: ps, _ :: vs, h => backOf_none (ps := ps) (by simpa [PSig.plain] using h)
  | .mv _ _ :: ps, _, h => by simp [PSig.plain] at h
  | .pin _ _ :: ps, _, h => by simp [PSig.plain] at h
  | .io _ _ :: ps, _, h => by simp [PSig.plain] at h
  | .pio _ _ _ :: ps, _, h => by simp [PSig.plain] at h
/-- what is handed in to be read alone -/
theorem insSV_plain : ∀ {ps : List PSig} {ds : List ((t : Ty) × t.den)} {l : List SV}, ps.all PSig.plain = true → insSV ps ds = some l → ∀ z ∈ l, (∃ t x, z = .val .reg t (if t.flat then .sh false else .sh true) x) ∨ ∃ g, z = .fn g []
  | [], [], l, _, h, z, hz => by cases h; cases hz
  | [], _ :: _, l, _, h, z, hz => by cases h
  | .val t :: ps, [], l, _, h, z, hz => by cases h
  | .val t :: ps, d :: ds, l, hp, h, z, hz => by
    obtain ⟨x, _, h⟩ := Option.bind_eq_some_iff.1 h
    obtain ⟨l', h1, h2⟩ := Option.bind_eq_some_iff.1 h
    cases h2
    rcases List.mem_cons.1 hz with hz | hz
    · exact .inl ⟨t, x, hz⟩
    · exact insSV_plain (ps := ps) (by simpa [PSig.plain] using hp) h1 z hz
  | .fn g cs :: ps, ds, l, hp, h, z, hz => by
    cases cs with
    | cons _ _ => cases ds <;> cases h
    | nil =>
      have h : (insSV ps ds).bind (fun l => some (.fn g [] :: l)) = some l := by
        cases ds <;> exact h
      obtain ⟨l', h1, h2⟩ := Option.bind_eq_some_iff.1 h
      cases h2
      rcases List.mem_cons.1 hz with hz | hz
      · exact .inr ⟨g, hz⟩
      · exact insSV_plain (ps := ps) (by simpa [PSig.plain] using hp) h1 z hz
  | .mv _ _ :: ps, _, _, h, _, _, _ => by simp [PSig.plain] at h
  | .pin _ _ :: ps, _, _, h, _, _, _ => by simp [PSig.plain] at h
  | .io _ _ :: ps, _, _, h, _, _, _ => by simp [PSig.plain] at h
  | .pio _ _ _ :: ps, _, _, h, _, _, _ => by simp [PSig.plain] at h
/-- what no other can reach is the caller's own -/
theorem regain_ok {n : Nat} {a : (prodTy (Γ.insL n)).den} {r : (prodTy (Γ.outsL n)).den} (h : HoldsG P Γ τ n a r) : Holds P Γ τ n a r := by
  intro σ hσ w I F L hins hL hK
  by_cases c : σ.given = σ.results
  · have := h σ hσ w I F L hins hL hK
    rw [c] at this
    exact this
  have hg : ∃ e t m, σ.results = [.val (.sl e) (.own (.sh false)), .val t m] ∧ σ.given = [.val (.sl e) (.sh false), .val t m] ∧ e.flat = true ∧ t.flat = true ∧ σ.params.all PSig.plain = true := by
    unfold Sig.given at c ⊢
    split at c
    · rename_i e t m hb hr
      split at c
      · rename_i hc
        have hc' := hc
        simp only [Bool.and_eq_true] at hc'
        refine ⟨e, t, m, hr, ?_, hc'.1.1, hc'.1.2, hc'.2⟩
        exact if_pos hc
      · exact absurd hr.symm c
    · exact absurd rfl c
  obtain ⟨e, t, m, hres, hgiv, he, ht, hnb⟩ := hg
  have hL' : Items w I (fun b => F b ∧ ¬ I b) L := by
    refine ⟨fun i hi => ?_, hL.noref, hL.sep, fun i hi b hb => ?_, hL.imm, fun b hb => ⟨hL.new b hb, fun k => absurd (hL.imm b k) (by omega)⟩⟩
    · have ok := hL.ok i hi
      obtain ⟨sv, v, γ⟩ := i
      rcases insSV_plain hnb hins sv (List.mem_map.2 ⟨_, hi, rfl⟩) with ⟨t', x, hz⟩ | ⟨g, hz⟩
      · subst hz
        refine ⟨ok.1, ?_, ok.2.2.1, ok.2.2.2⟩
        have hM : Mem w I F t' (if t'.flat then .sh false else .sh true) x γ.g := ok.2.1
        show Mem w I _ t' (if t'.flat then .sh false else .sh true) x γ.g
        split at hM
        · rename_i hf
          exact Mem.flat hf
        · rename_i hf
          rw [if_neg hf]
          exact Mem.any hM
      · subst hz
        exact ok
    · obtain ⟨q1, q2, q3⟩ := hL.lv i hi b hb
      exact ⟨⟨q1, q2⟩, q2, q3⟩
  refine Calls.mono (h σ hσ w I (fun b => F b ∧ ¬ I b) L hins hL' (hK.less fun b hb => hb.1)) fun ex w' hx => ?_
  cases ex with
  | returned v =>
    obtain ⟨hw, J, M, N, m1, m2, hI, hJ, hv, hN, hO⟩ := hx
    have hN0 : N = [] := by
      rw [backOf_none hnb] at hN
      exact List.map_eq_nil_iff.1 hN
    subst hN0
    rw [hgiv] at m1
    rw [hres] at m1 m2 ⊢
    generalize (List.take ([RSig.val (.sl e) (.own (.sh false)), RSig.val t m] : List RSig).length (unProd (Γ.outsL n) r)) = ds at m1 ⊢
    match ds, m1 with
    | [], m1 => cases m1
    | [d1], m1 =>
      obtain ⟨x1, c1, m1⟩ := Option.bind_eq_some_iff.1 m1
      cases m1
    | d1 :: d2 :: d3 :: ds, m1 =>
      obtain ⟨x1, c1, m1⟩ := Option.bind_eq_some_iff.1 m1
      obtain ⟨l1, m1, _⟩ := Option.bind_eq_some_iff.1 m1
      obtain ⟨x2, c2, m1⟩ := Option.bind_eq_some_iff.1 m1
      cases m1
    | [d1, d2], m1 =>
      obtain ⟨x1, c1, m1⟩ := Option.bind_eq_some_iff.1 m1
      obtain ⟨l1, m1, e1⟩ := Option.bind_eq_some_iff.1 m1
      obtain ⟨x2, c2, m1⟩ := Option.bind_eq_some_iff.1 m1
      obtain ⟨l2, m1, e2⟩ := Option.bind_eq_some_iff.1 m1
      cases m1
      cases e2
      match M, e1 with
      | [], e1 => cases e1
      | [_], e1 => simp at e1
      | _ :: _ :: _ :: _, e1 => simp at e1
      | [⟨sv1, v1, γ1⟩, ⟨sv2, v2, γ2⟩], e1 =>
        simp only [List.map_cons, List.map_nil, Option.some.injEq, List.cons.injEq, and_true] at e1
        obtain ⟨e1, e2⟩ := e1
        subst e1
        subst e2
        obtain ⟨u1, u2, u3, u4⟩ := hI.ok ⟨.val .reg (.sl e) (.sh false) x1, v1, γ1⟩ (by simp)
        obtain ⟨y1, y2, y3, y4⟩ := hI.ok ⟨.val .reg t m x2, v2, γ2⟩ (by simp)
        have hrow := (u2.2.1.2.2 rfl)
        have o1 : ∀ b, Own (.sl e) (.own (.sh false)) γ1.g b → (F b ∧ ¬ I b) ∧ b < w'.heap.size := fun b hb => by
          rcases hb with ⟨ad, ha, rfl⟩ | ⟨j, hj, hb⟩
          · refine ⟨(hrow.2 ad ha).2, ?_⟩
            rcases hrow.1 with ⟨q1, _, _⟩ | ⟨bb, o, C, te, q1, q2, _⟩
            · rw [q1] at ha; cases ha
            · rw [q1] at ha; cases ha
              exact (Array.getElem?_eq_some_iff.1 q2).1
          · exact absurd hb (Own.flat he)
        have o2 : ∀ b, ¬ OwnS ((⟨.val .reg t m x2, v2, γ2⟩ : Item)).z γ2 b := fun b hb => Own.flat (t := t) ht hb
        have mem : ∀ i ∈ ([⟨.val .reg (.sl e) (.own (.sh false)) x1, v1, γ1⟩, ⟨.val .reg t m x2, v2, γ2⟩] ++ [] : List Item), i = ⟨.val .reg (.sl e) (.own (.sh false)) x1, v1, γ1⟩ ∨ i = ⟨.val .reg t m x2, v2, γ2⟩ := fun i hi => by simpa using hi
        refine ⟨⟨hw.os, hw.tape, hw.output, hw.size, hw.drawn, fun b hb hk => hw.old b hb (hk.imp id fun k q => k q.1)⟩, fun _ => False, [⟨.val .reg (.sl e) (.own (.sh false)) x1, v1, γ1⟩, ⟨.val .reg t m x2, v2, γ2⟩], [], ?_, m2, ⟨fun i hi => ?_, fun i hi k r' v' s d p t' q => ?_, ?_, fun i hi b hb => ?_, fun b hb => hb.elim, fun b hb => (hI.new b hb).1⟩, fun b hb => hb.elim, hv, ?_, fun i hi b hb => ?_⟩
        · simp only [resSV, c1, c2, Option.bind_some, List.map_cons, List.map_nil]
        · rcases mem i hi with rfl | rfl
          · exact ⟨u1, ⟨u2.1, hrow.1, fun j hj => ⟨(u2.2.2 j hj).1, Mem.flat he⟩⟩, ⟨fun j hj => Sep.flat he, fun i' j' b _ _ _ k1 => absurd k1 (Own.flat he), fun a' j' _ _ k => absurd k (Own.flat he)⟩, u4⟩
          · exact ⟨y1, Mem.flat ht, Sep.flat ht, y4⟩
        · rcases mem i hi with rfl | rfl <;> cases q
        · refine List.pairwise_cons.2 ⟨fun i hi b _ k => ?_, List.pairwise_singleton _ _⟩
          have hi' : i = ⟨.val .reg t m x2, v2, γ2⟩ := by simpa using hi
          subst hi'
          exact o2 b k
        · rcases mem i hi with rfl | rfl
          · obtain ⟨q1, q2⟩ := o1 b hb
            exact ⟨q1.1, fun k => k, q2⟩
          · exact absurd hb (o2 b)
        · rw [backOf_none hnb]; rfl
        · rcases mem i hi with rfl | rfl
          · exact (o1 b hb).1.2
          · exact absurd hb (o2 b)
  | _ => exact hx
theorem evalF_ok (hT : TysOk P Γ) (hC : CallsOk P Γ τ O) (hD : DrawOk P Γ τ O) (hF : FnsOk P Γ) {n : Nat} {a : (prodTy (Γ.insL n)).den} {r : (prodTy (Γ.outsL n)).den} (h : evalF Γ O n a = some r) : Holds P Γ τ n a r :=
  regain_ok (evalF_given hT hC hD hF h)
end
section
variable {τ : Told} {P : Program} {Γ : Ctx} {X : Ext Γ}
theorem denN_good (hm : P.follows .mixedOrders = true) (hT : TysOk P Γ) (hF : FnsOk P Γ) (hX : ∀ O, Good P Γ τ O → ∀ n a r, X.has n = true → X.f O n a = some r → Holds P Γ τ n a r) : ∀ k, Good P Γ τ (denN Γ X k)
  | 0 => fun n a r h => by cases h
  | k + 1 => fun n a r h => by
    have ih := denN_good hm hT hF hX k
    simp only [denN] at h
    split at h
    · rename_i hx; exact hX _ ih n a r hx h
    · exact evalF_ok hT (callsOk hF ih) (drawOk hm hT (callsOk hF ih)) hF h
theorem den_good (hm : P.follows .mixedOrders = true) (hT : TysOk P Γ) (hF : FnsOk P Γ) (hX : ∀ O, Good P Γ τ O → ∀ n a r, X.has n = true → X.f O n a = some r → Holds P Γ τ n a r) : Good P Γ τ (den Γ X) := fun n a r h => by
  obtain ⟨k, hk⟩ := lub_some h
  exact denN_good hm hT hF hX k n a r hk
end
end Go.Den
/-
  Arguments that can be read: they are data in memory.
-/
namespace Go.Den
open Go
set_option linter.unusedVariables false
set_option linter.unusedSimpArgs false
/-- a type's data, told of a type of the program -/
def RR (P : Program) : Ty → (TypeId → Prop) × (List Field → Nat → Prop)
  | .int k => (fun T => P.underlying T = some (.int k), fun _ _ => False)
  | .bool => (fun T => P.underlying T = some .bool, fun _ _ => False)
  | .str => (fun T => P.underlying T = some .string, fun _ _ => False)
  | .sl e => (fun T => ∃ E, P.underlying T = some (.slice E) ∧ P.cellsOf E = e.size ∧ 0 < e.size ∧ (RR P e).1 E, fun _ _ => False)
  | .unit => (fun T => False, fun _ _ => False)
  | .one a => (fun T => ∃ f, P.underlying T = some (.struct #[f]) ∧ P.cellsOf T = a.size ∧ f.offset = 0 ∧ P.cellsOf f.type = a.size ∧ (RR P a).1 f.type, fun _ _ => False)
  | .cons a b =>
    let F : List Field → Nat → Prop := fun l o => ∃ f r, l = f :: r ∧ f.offset = o ∧ P.cellsOf f.type = a.size ∧ (RR P a).1 f.type ∧ ((∃ g, r = [g] ∧ g.offset = o + a.size ∧ P.cellsOf g.type = b.size ∧ (RR P b).1 g.type) ∨ (RR P b).2 r (o + a.size))
    (fun T => ∃ fs, P.underlying T = some (.struct fs) ∧ P.cellsOf T = a.size + b.size ∧ F fs.toList 0, F)
/-- numbers in their range, texts and rows not longer than they can be -/
def Rng : (t : Ty) → t.den → Prop
  | .int k, n => k.min ≤ n ∧ n ≤ k.max
  | .bool, _ => True
  | .str, s => ByteArray.size s ≤ maxLen
  | .unit, _ => True
  | .one a, x => Rng a x
  | .cons a b, x => Rng a x.1 ∧ Rng b x.2
  | .sl e, l => List.length l ≤ maxLen ∧ ∀ i, i < List.length l → Rng e (List.getD l i e.dflt)
theorem cell_lt {w : World} {a : Addr} {v : Value} (h : w.cell? a = some v) : a.block < w.heap.size := by
  rcases Nat.lt_or_ge a.block w.heap.size with c | c
  · exact c
  · unfold World.cell? at h
    rw [Array.getElem?_eq_none c] at h
    simp at h
section
variable {H : Type} {enc : TypeId × Value → H} {P : Program} {w : World} {F : Nat → Prop}
theorem open_ty : ∀ (t : Ty), (∀ (T : TypeId) (fuel : Nat) (cs : List Value) (x : DataW H × List MemPlace), (RR P t).1 T → DataW.trod enc P w 0 (fun _ => true) true fuel T cs = some x →
      ∃ (y : t.den) (g : G), cs = cells t y g ∧ Mem w (fun b => b < w.heap.size) F t (.sh true) y g ∧ Rng t y) ∧
    (∀ (fs : List Field) (o n : Nat) (cs : List Value), (RR P t).2 fs o → cs.length = o + t.size → (∀ f ∈ fs, ∃ z, DataW.trod enc P w 0 (fun _ => true) true n f.type ((cs.drop f.offset).take (P.cellsOf f.type)) = some z) →
      ∃ (y : t.den) (g : G), cs.drop o = cells t y g ∧ Mem w (fun b => b < w.heap.size) F t (.sh true) y g ∧ Rng t y) := by
  intro t
  induction t with
  | int k =>
    refine ⟨fun T fuel cs x hR h => ?_, fun _ _ _ _ h => h.elim⟩
    obtain ⟨n, h1, _, h3⟩ := DataW.trod_int hR h
    simp only [Lit.wf, Bool.and_eq_true, decide_eq_true_eq] at h3
    exact ⟨n, .lf, h1, trivial, h3⟩
  | bool =>
    refine ⟨fun T fuel cs x hR h => ?_, fun _ _ _ _ h => h.elim⟩
    obtain ⟨n, h1, _⟩ := DataW.trod_bool hR h
    exact ⟨n, .lf, h1, trivial, trivial⟩
  | str =>
    refine ⟨fun T fuel cs x hR h => ?_, fun _ _ _ _ h => h.elim⟩
    obtain ⟨n, h1, _, h3⟩ := DataW.trod_string hR h
    exact ⟨n, .lf, h1, trivial, h3⟩
  | unit => exact ⟨fun _ _ _ _ h => h.elim, fun _ _ _ _ h => h.elim⟩
  | one a ih =>
    refine ⟨fun T fuel cs x hR h => ?_, fun _ _ _ _ h => h.elim⟩
    obtain ⟨f, h1, h2, h3, h4, h5⟩ := hR
    obtain ⟨xs, n, _, _, hl, hxl, hx⟩ := DataW.trod_struct h1 h
    have hf := hx 0 f rfl
    rw [h3, List.drop_zero, h4, List.take_of_length_le (by omega)] at hf
    have hx0 : ∃ z, xs[0]? = some z := ⟨xs[0]'(by rw [hxl]; simp), List.getElem?_eq_getElem _⟩
    obtain ⟨z, hz⟩ := hx0
    rw [hz] at hf
    exact ih.1 f.type n cs z h5 hf
  | cons a b iha ihb =>
    have part : ∀ (fs : List Field) (o n : Nat) (cs : List Value), (RR P (.cons a b)).2 fs o → cs.length = o + (a.size + b.size) → (∀ f ∈ fs, ∃ z, DataW.trod enc P w 0 (fun _ => true) true n f.type ((cs.drop f.offset).take (P.cellsOf f.type)) = some z) →
      ∃ (y : (Ty.cons a b).den) (g : G), cs.drop o = cells (.cons a b) y g ∧ Mem w (fun b => b < w.heap.size) F (.cons a b) (.sh true) y g ∧ Rng (.cons a b) y := by
      intro fs o n cs hR hl hd
      obtain ⟨f, r, rfl, h1, h2, h3, h4⟩ := hR
      obtain ⟨z, hz⟩ := hd f List.mem_cons_self
      rw [h1, h2] at hz
      obtain ⟨y1, g1, q1, q2, q3⟩ := iha.1 f.type n _ z h3 hz
      have hrest : ∃ (y : b.den) (g : G), cs.drop (o + a.size) = cells b y g ∧ Mem w (fun b => b < w.heap.size) F b (.sh true) y g ∧ Rng b y := by
        rcases h4 with ⟨g, rfl, k1, k2, k3⟩ | h4
        · obtain ⟨z2, hz2⟩ := hd g (by simp)
          rw [k1, k2, List.take_of_length_le (by rw [List.length_drop]; omega)] at hz2
          exact ihb.1 g.type n _ z2 k3 hz2
        · exact ihb.2 r (o + a.size) n cs h4 (by omega) fun f' hf' => hd f' (List.mem_cons_of_mem _ hf')
      obtain ⟨y2, g2, r1, r2, r3⟩ := hrest
      refine ⟨(y1, y2), .pr g1 g2, ?_, ⟨q2, r2⟩, q3, r3⟩
      have : cs.drop o = (cs.drop o).take a.size ++ cs.drop (o + a.size) := by
        rw [← List.drop_drop, List.take_append_drop]
      rw [this, q1, r1]
      rfl
    refine ⟨fun T fuel cs x hR h => ?_, part⟩
    obtain ⟨fs, h1, h2, h3⟩ := hR
    obtain ⟨xs, n, _, _, hl, hxl, hx⟩ := DataW.trod_struct h1 h
    have := part fs.toList 0 n cs h3 (by omega) fun f hf => by
      obtain ⟨i, hi⟩ := List.mem_iff_getElem?.1 hf
      rw [Array.getElem?_toList] at hi
      have hxi := hx i f hi
      have hil : i < xs.length := by rw [hxl]; exact (Array.getElem?_eq_some_iff.1 hi).1
      exact ⟨xs[i], by rw [hxi]; exact List.getElem?_eq_getElem hil⟩
    rw [List.drop_zero] at this
    exact this
  | sl e ih =>
    refine ⟨fun T fuel cs x hR h => ?_, fun _ _ _ _ h => h.elim⟩
    obtain ⟨E, h1, h2, h3, h4⟩ := hR
    rcases DataW.trod_slice h1 h with ⟨rfl, _⟩ | ⟨a, len, cap, elems, rest, n, _, rfl, _, _, hlc, hcm, hel, helem, _, _⟩
    · exact ⟨([] : List e.den), .lf, rfl, ⟨rfl, ⟨Nat.le_refl _, fun d hd => (by cases hd), fun c => by cases c⟩, fun i hi => absurd hi (Nat.not_lt_zero _)⟩, Nat.zero_le _, fun i hi => absurd hi (Nat.not_lt_zero _)⟩
    · have each : ∀ i, ∃ (z : e.den × G), i < len → At w (some a) (i * e.size) (cells e z.1 z.2) ∧ Mem w (fun b => b < w.heap.size) F e (.sh true) z.1 z.2 ∧ Rng e z.1 := fun i => by
        by_cases hi : i < len
        · have hx := helem i hi
          rw [h2] at hx
          have hei : elems[i]? = some (elems[i]'(by omega)) := List.getElem?_eq_getElem _
          rw [hei] at hx
          obtain ⟨ci, hci, hx⟩ := Option.bind_eq_some_iff.1 hx
          obtain ⟨y, g, q1, q2, q3⟩ := ih.1 E n ci _ h4 hx
          refine ⟨(y, g), fun _ => ⟨fun j v hj => ⟨a, rfl, ?_⟩, q2, q3⟩⟩
          unfold World.cells? at hci
          rw [if_pos (Nat.zero_le _)] at hci
          rw [← q1] at hj
          have hjl : j < e.size := by
            have h5 := mapM_some_length hci
            rw [List.length_range] at h5
            have := (List.getElem?_eq_some_iff.1 hj).1
            omega
          have := mapM_some_get hci j j (by simp [hjl])
          rw [hj, Addr.add_add'] at this
          exact this
        · exact ⟨(e.dflt, .lf), fun h => absurd h hi⟩
      let Z : Nat → e.den × G := fun i => (each i).choose
      have hZ : ∀ i, i < len → _ := fun i hi => (each i).choose_spec hi
      have hget : ∀ i, i < len → List.getD ((List.range len).map fun i => (Z i).1) i e.dflt = (Z i).1 := fun i hi => by
        rw [List.getD_eq_getElem?_getD, List.getElem?_map]
        simp [hi]
      refine ⟨((List.range len).map fun i => (Z i).1 : List e.den), .hd (some a) len cap fun i => (Z i).2, rfl, ⟨by simp [G.len], ⟨hlc, fun d hd hl => ⟨?_, fun c => by cases c⟩, fun c => by cases c⟩, fun i hi => ?_⟩, by simp; omega, fun i hi => ?_⟩
      · simp only [G.addr_hd, Option.some.injEq] at hd
        subst hd
        have h0 := (hZ 0 hl).1
        have hne : 0 < (cells e (Z 0).1 (Z 0).2).length := by rw [cells_len]; exact h3
        obtain ⟨d, hd, hc⟩ := h0 0 _ (List.getElem?_eq_getElem hne)
        cases hd
        have := cell_lt hc
        rw [Addr.add_block] at this
        exact this
      · have hi' : i < len := hi
        rw [hget i hi']
        exact ⟨(hZ i hi').1, (hZ i hi').2.1⟩
      · have hi' : i < len := by simpa using hi
        rw [hget i hi']
        exact (hZ i hi').2.2
end
end Go.Den
/-
  From the evaluator's answer to a row's contract.
-/
namespace Go.Den
open Go Go.ChangeShapes Go.RowKit
set_option linter.unusedVariables false
set_option linter.unusedSimpArgs false
/-- an argument: its type, its data, where its rows lie -/
structure Arg where
  t : Ty
  x : t.den
  g : G
def Arg.v (z : Arg) : Value := toV z.t z.x z.g
def Arg.d (z : Arg) : (t : Ty) × t.den := ⟨z.t, z.x⟩
def Arg.i (z : Arg) : Item := ⟨.val .reg z.t (vm z.t) z.x, toV z.t z.x z.g, ⟨none, z.g⟩⟩
section
variable {τ : Told} {H : Type} {enc : TypeId × Value → H} {P : Program} {Γ : Ctx} {O : Fun Γ} {w W W' : World}
theorem insSV_val : ∀ (as : List Arg), insSV (as.map fun z => .val z.t) (as.map Arg.d) = some (as.map fun z => z.i.sv)
  | [] => rfl
  | z :: as => by
    simp only [List.map_cons, insSV, Arg.d, cast_self, Option.bind_some]
    have := insSV_val as
    rw [this]
    rfl
theorem law_call (hG : Good P Γ τ O) {n : Nat} {σ : Sig} (hσ : Γ.sigs[n]? = some σ) (hcl : σ.clos = []) (hres : σ.results = [.val .bool (.sh false)]) {as : List Arg} (hp : σ.params = as.map fun z => .val z.t)
    {a : (prodTy (Γ.insL n)).den} {r : (prodTy (Γ.outsL n)).den} (ha : unProd (Γ.insL n) a = as.map Arg.d) (hr : unProd (Γ.outsL n) r = [⟨.bool, true⟩]) (h : O n a = some r)
    (hK : TOk τ (fun b => w.heap.size ≤ b) w) (hm : ∀ z ∈ as, Mem w (fun b => b < w.heap.size) (fun b => w.heap.size ≤ b) z.t (.sh true) z.x z.g) :
    Calls P σ.fid (as.map Arg.v).toArray w fun e w' => e = .returned (.bool true) ∧ Below w.heap.size w w' := by
  have hIt : Items w (fun b => b < w.heap.size) (fun b => w.heap.size ≤ b) (as.map Arg.i) := by
    refine ⟨fun i hi => ?_, fun i hi => ?_, ?_, fun i hi b hb => ?_, fun b hb => hb, fun b hb => hb⟩
    · obtain ⟨z, hz, rfl⟩ := List.mem_map.1 hi
      obtain ⟨o, ho⟩ := vm_sh z.t
      refine ⟨rfl, ?_, by rw [ho]; exact Sep.sh _ _ _, rfl⟩
      unfold vm
      split
      · rename_i hf; exact Mem.flat hf
      · exact hm z hz
    · obtain ⟨z, hz, rfl⟩ := List.mem_map.1 hi
      exact fun _ _ _ _ _ _ _ c => by cases c
    · rw [List.pairwise_map]
      refine List.pairwise_of_forall fun z z' b hb => ?_
      obtain ⟨o, ho⟩ := vm_sh z.t
      have hb' : Own z.t (vm z.t) z.g b := hb
      rw [ho] at hb'
      exact absurd hb' (Own.sh _ _ _ _)
    · obtain ⟨z, hz, rfl⟩ := List.mem_map.1 hi
      obtain ⟨o, ho⟩ := vm_sh z.t
      have hb' : Own z.t (vm z.t) z.g b := hb
      rw [ho] at hb'
      exact absurd hb' (Own.sh _ _ _ _)
  have hc := hG n a r h σ hσ w _ _ (as.map Arg.i) (by rw [hp, ha, insSV_val, List.map_map]; rfl) hIt hK
  rw [List.map_map, hcl] at hc
  refine Calls.mono hc fun e w' he => ?_
  cases e with
  | returned v =>
    obtain ⟨hw, J, M, N, h1, h2, h3, h4, h5, h6, h7⟩ := he
    rw [hr, hres] at h1
    simp only [List.length_cons, List.length_nil, List.take_succ_cons, List.take_zero, resSV, cast_self, Option.bind_some, Option.some.injEq] at h1
    match M, h1, h3, h5 with
    | [⟨isv, iv, iγ⟩], h1, h3, h5 =>
      simp only [List.map_cons, List.map_nil, List.cons.injEq, and_true] at h1
      subst h1
      have q : iv = .bool true := (h3.ok ⟨_, iv, iγ⟩ (List.mem_append_left _ List.mem_cons_self)).1
      have hv : v = .bool true := by rw [h5]; exact q
      subst hv
      exact ⟨rfl, hw.os, hw.tape, hw.output, hw.size, fun k hk => hw.old k hk (.inl hk)⟩
    | [], h1, _, _ => cases h1
    | _ :: _ :: _, h1, _, _ => simp at h1
  | panicked _ => exact he.elim
  | outgrown => exact he.elim

def Rels (P : Program) : List TypeId → List Ty → Prop
  | [], [] => True
  | T :: Ts, t :: ts => (RR P t).1 T ∧ Rels P Ts ts
  | _, _ => False
theorem val_of {base : Nat} {t : Ty} {T : TypeId} {v : Value} {y : t.den} {g : G} (hR : (RR P t).1 T) (hv : Value.okWide P W .any base T v) (hc : v.cells.toList = cells t y g) : v = toV t y g := by
  have agg : ∀ fs, P.underlying T = some (.struct fs) → t.agg = true → v = toV t y g := fun fs hu ha => by
    unfold Value.okWide at hv
    rw [hu] at hv
    obtain ⟨cs, rfl, _⟩ := hv
    unfold toV
    rw [ha, if_pos rfl, ← hc]
    simp [Value.cells]
  have one : t.agg = false → (∀ cs, ¬ Cell.okWide P W .any base T (.agg cs)) → Value.okWide P W .any base T v = Cell.okWide P W .any base T v → v = toV t y g := fun ha hn he => by
    rw [cells_single ha] at hc
    rw [he] at hv
    cases v with
    | agg cs => exact absurd hv (hn cs)
    | _ => simp only [Value.cells, List.cons.injEq, and_true] at hc; exact hc
  cases t with
  | int k =>
    have hu : P.underlying T = some (.int k) := hR
    exact one rfl (fun cs h => by simp [Cell.okWide, Cell.ok, hu] at h) (by unfold Value.okWide; rw [hu])
  | bool =>
    have hu : P.underlying T = some .bool := hR
    exact one rfl (fun cs h => by simp [Cell.okWide, Cell.ok, hu] at h) (by unfold Value.okWide; rw [hu])
  | str =>
    have hu : P.underlying T = some .string := hR
    exact one rfl (fun cs h => by simp [Cell.okWide, Cell.ok, hu] at h) (by unfold Value.okWide; rw [hu])
  | sl e =>
    obtain ⟨E, hu, _⟩ := hR
    exact one rfl (fun cs h => by simp [Cell.okWide, Cell.ok, hu] at h) (by unfold Value.okWide; rw [hu])
  | unit => exact hR.elim
  | one a => obtain ⟨f, hu, _⟩ := hR; exact agg _ hu rfl
  | cons a b => obtain ⟨fs, hu, _⟩ := hR; exact agg _ hu rfl
theorem openAll {F : Nat → Prop} {base : Nat} : ∀ {Ts : List TypeId} {tys : List Ty} {vs : List Value} {ds : List (DataW H)} {ps : List MemPlace}, Rels P Ts tys →
    (∀ (j : Nat) t v, Ts[j]? = some t → vs[j]? = some v → Value.okWide P W .any base t v) → DataW.TrodAll enc P W 0 (fun _ => true) true Ts vs ds ps →
    ∃ as : List Arg, vs = as.map Arg.v ∧ as.map Arg.t = tys ∧ ∀ z ∈ as, Mem W (fun b => b < W.heap.size) F z.t (.sh true) z.x z.g ∧ Rng z.t z.x
  | [], [], [], [], ps, _, _, h => ⟨[], rfl, rfl, fun z hz => absurd hz List.not_mem_nil⟩
  | T :: Ts, t :: tys, v :: vs, d :: ds, ps, hR, hv, h => by
    obtain ⟨p, q, ⟨fuel, h1⟩, h2, _⟩ := h
    obtain ⟨y, g, c1, c2, c3⟩ := (open_ty (F := F) t).1 T fuel _ _ hR.1 h1
    obtain ⟨as, k1, k2, k3⟩ := openAll (F := F) hR.2 (fun j t v hj hv' => hv (j + 1) t v (by simpa using hj) (by simpa using hv')) h2
    refine ⟨⟨t, y, g⟩ :: as, ?_, ?_, fun z hz => ?_⟩
    · rw [List.map_cons, ← k1]
      congr 1
      exact val_of hR.1 (hv 0 T v rfl rfl) c1
    · rw [List.map_cons, k2]
    · rcases List.mem_cons.1 hz with rfl | hz
      · exact ⟨c2, c3⟩
      · exact k3 z hz
  | [], _ :: _, _, _, _, hR, _, _ => hR.elim
  | _ :: _, [], _, _, _, hR, _, _ => hR.elim
  | [], [], _ :: _, _, _, _, _, h => h.elim
  | [], [], [], _ :: _, _, _, _, h => h.elim
  | _ :: _, _ :: _, [], _, _, _, _, h => h.elim
  | _ :: _, _ :: _, _ :: _, [], _, _, _, h => h.elim
theorem trodAll_below (hl : laidOutB P = true) (hb : Below W.heap.size W W') : ∀ {Ts : List TypeId} {vs : List Value} {ds : List (DataW H)} {ps : List MemPlace}, (∀ t ∈ Ts, P.readableRec t = true ∧ t < P.types.size) →
    DataW.TrodAll enc P W 0 (fun _ => true) true Ts vs ds ps → (∀ x ∈ ps, x.block < W.heap.size) → DataW.TrodAll enc P W' 0 (fun b => decide (b < W.heap.size)) true Ts vs ds ps
  | [], [], [], ps, _, h, _ => h
  | T :: Ts, v :: vs, d :: ds, ps, hr, h, hlt => by
    obtain ⟨p, q, h1, h2, rfl⟩ := h
    exact ⟨p, q, Below.trod hl (hr T List.mem_cons_self).1 (hr T List.mem_cons_self).2 h1 hb fun x hx => hlt x (List.mem_append_left _ hx), trodAll_below hl hb (fun t ht => hr t (List.mem_cons_of_mem _ ht)) h2 fun x hx => hlt x (List.mem_append_right _ hx), rfl⟩
  | [], _ :: _, _, _, _, h, _ => by simp [DataW.TrodAll] at h
  | [], [], _ :: _, _, _, h, _ => by simp [DataW.TrodAll] at h
  | _ :: _, [], _, _, _, h, _ => by simp [DataW.TrodAll] at h
  | _ :: _, _ :: _, [], _, _, h, _ => by simp [DataW.TrodAll] at h
theorem trodAll_len {b : Nat} {sp : Nat → Bool} {hd : Bool} : ∀ {Ts : List TypeId} {vs : List Value} {ds : List (DataW H)} {ps : List MemPlace}, DataW.TrodAll enc P W b sp hd Ts vs ds ps → ds.length = Ts.length
  | [], [], [], _, _ => rfl
  | _ :: _, _ :: _, _ :: _, _, ⟨_, _, _, h, _⟩ => by simp [trodAll_len h]
  | [], _ :: _, _, _, h => by simp [DataW.TrodAll] at h
  | [], [], _ :: _, _, h => by simp [DataW.TrodAll] at h
  | _ :: _, [], _, _, h => by simp [DataW.TrodAll] at h
  | _ :: _, _ :: _, [], _, h => by simp [DataW.TrodAll] at h
/-- a law that answers yes to all its arguments: the row's contract -/
theorem law_contract (hG : Good P Γ τ O) (hl : laidOutB P = true) {fn : Func} {n : Nat} {σ : Sig} (hσ : Γ.sigs[n]? = some σ) (hres : σ.results = [.val .bool (.sh false)]) {tys : List Ty} (hpar : σ.params = tys.map .val)
    (hRR : Rels P fn.params.toList tys) (hread : ∀ t ∈ fn.params.toList, P.readableRec t = true ∧ t < P.types.size) {B : TypeId} (hrt : fn.resultTypes = #[B]) (hB : P.underlying B = some .bool)
    (law : ∀ as : List Arg, as.map Arg.t = tys → (∀ z ∈ as, Rng z.t z.x) → ∃ (a : (prodTy (Γ.insL n)).den) (r : (prodTy (Γ.outsL n)).den), unProd (Γ.insL n) a = as.map Arg.d ∧ unProd (Γ.outsL n) r = [⟨.bool, true⟩] ∧ O n a = some r)
    {s : ChangeSpec} (hvars : s.vars = []) (hfn : ∀ ds : List (DataW H), ds.length = fn.params.toList.length → s.fn H ds = { results := [.lit (.bool true)], args := ds })
    (apart : Bool) {base : Nat} {args : Array Value} {ds gs : List (DataW H)} {before : List MemPlace}
    (hval : ∀ (j : Nat) t v, fn.params[j]? = some t → args[j]? = some v → Value.okWide P W .any base t v) (hW : DataW.Whole enc P fn.params.toList s.vars apart W args.toList ds gs before) (hK : TOk τ (fun b => W.heap.size ≤ b) W) (hcl : σ.clos = [] := by rfl) :
    Calls P σ.fid args W fun e W' => ∃ v, e = .returned v ∧ s.post enc P fn apart true false false W args v W' := by
  have hW' := hW
  obtain ⟨p, q, hA, hV, rfl, _, _⟩ := hW
  rw [hvars] at hV
  obtain ⟨rfl, rfl⟩ := trodVars_none hV
  obtain ⟨as, k1, k2, k3⟩ := openAll (F := fun b => W.heap.size ≤ b) hRR (fun j t v hj hv => hval j t v (by simpa using hj) (by simpa using hv)) hA
  obtain ⟨a, r, l1, l2, l3⟩ := law as k2 fun z hz => (k3 z hz).2
  have hc := law_call hG hσ hcl hres (as := as) (by rw [hpar, ← k2, List.map_map]; rfl) l1 l2 l3 hK fun z hz => (k3 z hz).1
  have ha : (as.map Arg.v).toArray = args := by rw [← k1]
  rw [ha] at hc
  have hlt : ∀ x ∈ p, x.block < W.heap.size := fun x hx => by simpa using hW'.lt x (List.mem_append_left _ hx)
  refine Calls.mono hc fun e W' ⟨he, hb⟩ => ?_
  have hlen : (ds ++ ([] : List (DataW H))).length = fn.params.toList.length := by
    rw [List.append_nil]; exact trodAll_len hA
  refine ⟨_, he, ds, [], _, [], p, [], hW', ?_, ?_, by rw [hvars, hfn _ hlen]; exact rfl, hb.frame _, fun h => by cases h⟩
  · rw [hfn _ hlen, hrt]
    exact trodAll_mk1 ⟨1, by simp [DataW.trod, hB, Value.cells]⟩
  · rw [hfn _ hlen, List.append_nil]
    exact trodAll_below hl hb hread hA hlt
end
end Go.Den
/-
  What is asked of a program's types and functions, in a form that a program can print.
-/
namespace Go.Den
open Go
set_option linter.unusedVariables false
set_option linter.unusedSimpArgs false
section
variable {P : Program} {Γ : Ctx} {T : TypeId}
theorem info_of {n : Nat} {v : Value} (h1 : (P.info? T).map (·.size) = some n) (h2 : (P.info? T).bind (·.zero) = some v) : ∃ d, P.info? T = some d ∧ d.size = n ∧ d.zero = some v := by
  obtain ⟨d, hd, h1⟩ := Option.map_eq_some_iff.1 h1
  rw [hd] at h2
  exact ⟨d, hd, h1, h2⟩
theorem tyInt {k : IntKind} (hu : P.underlying T = some (.int k)) (h1 : (P.info? T).map (·.size) = some 1) (h2 : (P.info? T).bind (·.zero) = some (.int k 0)) : TyOk P T ⟨.int k, [], false⟩ :=
  ⟨info_of h1 h2, hu, fun _ => rfl, fun h => (by cases h), fun h _ => (by cases h)⟩
theorem tyBool (hu : P.underlying T = some .bool) (h1 : (P.info? T).map (·.size) = some 1) (h2 : (P.info? T).bind (·.zero) = some (.bool false)) : TyOk P T ⟨.bool, [], false⟩ :=
  ⟨info_of h1 h2, hu, fun _ => rfl, fun h => (by cases h), fun h _ => (by cases h)⟩
theorem tyStr (hu : P.underlying T = some .string) (h1 : (P.info? T).map (·.size) = some 1) (h2 : (P.info? T).bind (·.zero) = some (.string ByteArray.empty)) : TyOk P T ⟨.str, [], false⟩ :=
  ⟨info_of h1 h2, hu, fun _ => rfl, fun h => (by cases h), fun h _ => (by cases h)⟩
theorem tySl {e : Ty} {E : TypeId} (hu : P.underlying T = some (.slice E)) (h1 : (P.info? T).map (·.size) = some 1) (h2 : (P.info? T).bind (·.zero) = some (.slice none 0 0))
    (h3 : (P.info? E).map (·.size) = some e.size) (h4 : (P.info? E).bind (·.zero) = some (toV e e.dflt .lf)) (h5 : Nat.ble 1 e.size = true) (h6 : (P.info? E).map (fun d => Nat.ble d.bytes 128) = some true) (h7 : ElOk P E e) : TyOk P T ⟨.sl e, [], false⟩ := by
  obtain ⟨d, hd, h3, h4⟩ := info_of h3 h4
  rw [hd] at h6
  exact ⟨info_of h1 h2, ⟨E, d, hu, hd, h3, h4, Nat.le_of_ble_eq_true h5, Nat.le_of_ble_eq_true (Option.some.inj h6), h7⟩, fun _ => rfl, fun h => (by cases h), fun h _ => (by cases h)⟩
theorem tyStruct {i : TInfo} (ha : i.ty.agg = true) {fs : Array Field} (hu : P.underlying T = some (.struct fs)) (h1 : (P.info? T).map (·.size) = some i.ty.size) (h2 : (P.info? T).bind (·.zero) = some (toV i.ty i.ty.dflt .lf))
    (h3 : fs.toList.mapM (fun f => (P.info? f.type).map fun i => (f.offset, i.size)) = some (i.fields.map fun f => (ofs i.ty f.1, f.2.size)))
    (h4 : i.fields.all (fun f => !hasAt f.1 && Nat.ble 1 f.2.size && decide ((sub i.ty i.ty.mine i.ty.dflt f.1).map (·.t) = some f.2)) = true)
    (h5 : i.eq = true → P.stoodInHeld T = false ∧ P.eqGuardType P.depth T = false ∧ EqF P fs.toList i.ty 0) : TyOk P T i := by
  have each : ∀ (k : Nat) (f : List Step × Ty), i.fields[k]? = some f → hasAt f.1 = false ∧ 0 < f.2.size ∧ ∃ m x, sub i.ty i.ty.mine i.ty.dflt f.1 = some ⟨f.2, m, x⟩ := fun k f hf => by
    rw [List.all_eq_true] at h4
    have := h4 f (List.mem_of_getElem? hf)
    simp only [Bool.and_eq_true, Bool.not_eq_true', decide_eq_true_eq] at this
    obtain ⟨⟨q1, q2⟩, q3⟩ := this
    obtain ⟨⟨zt, zm, zx⟩, hz, q3⟩ := Option.map_eq_some_iff.1 q3
    simp only at q3
    subst q3
    exact ⟨q1, Nat.le_of_ble_eq_true q2, zm, zx, hz⟩
  have hlen : i.fields.length = fs.toList.length := by simpa using mapM_some_length h3
  have hk : ∀ (k : Nat) (f : List Step × Ty), i.fields[k]? = some f → ∃ fd d, fs[k]? = some fd ∧ fd.offset = ofs i.ty f.1 ∧ P.info? fd.type = some d ∧ d.size = f.2.size := fun k f hf => by
    have hkl : k < fs.toList.length := by rw [← hlen]; exact (List.getElem?_eq_some_iff.1 hf).1
    have hfd := List.getElem?_eq_getElem hkl
    have := mapM_some_get h3 k _ hfd
    rw [List.getElem?_map, hf, Option.map_some] at this
    obtain ⟨d, hd, this⟩ := Option.map_eq_some_iff.1 this
    simp only [Prod.mk.injEq] at this
    exact ⟨_, d, by rw [← Array.getElem?_toList]; exact hfd, this.1, hd, this.2⟩
  have hU : UnderOk P T i := by
    have core : ∃ fs, P.underlying T = some (.struct fs) ∧ ∀ (k : Nat) (f : List Step × Ty), i.fields[k]? = some f → ∃ fd d, fs[k]? = some fd ∧ fd.offset = ofs i.ty f.1 ∧ P.info? fd.type = some d ∧ d.size = f.2.size ∧ 0 < f.2.size ∧
      hasAt f.1 = false ∧ ∃ m x, sub i.ty i.ty.mine i.ty.dflt f.1 = some ⟨f.2, m, x⟩ := ⟨fs, hu, fun k f hf => by
        obtain ⟨fd, d, q1, q2, q3, q4⟩ := hk k f hf
        obtain ⟨r1, r2, r3⟩ := each k f hf
        exact ⟨fd, d, q1, q2, q3, q4, r2, r1, r3⟩⟩
    obtain ⟨ty, fields, eq⟩ := i
    cases ty <;> first | exact .inl core | (cases ha; done)
  exact ⟨info_of h1 h2, hU, fun h => (by rw [ha] at h; cases h), fun h => ⟨fs, hu, h5 h⟩, fun _ _ => ⟨fs, _, hu, h3, fun k f hf => ⟨by rw [List.getElem?_map, hf]; rfl, (each k f hf).1, (each k f hf).2.2⟩⟩⟩
def Tys (P : Program) : Nat → List (Option TInfo) → Prop
  | _, [] => True
  | n, none :: r => Tys P (n + 1) r
  | n, some i :: r => TyOk P n i ∧ Tys P (n + 1) r
theorem Tys.get : ∀ {l : List (Option TInfo)} {n : Nat}, Tys P n l → ∀ {k : Nat} {i : TInfo}, l[k]? = some (some i) → TyOk P (n + k) i
  | [], _, _, k, i, h => by simp at h
  | none :: r, n, hT, k, i, h => by
    cases k with
    | zero => simp at h
    | succ k =>
      have := Tys.get (l := r) (n := n + 1) hT (k := k) (by simpa using h)
      rw [show n + 1 + k = n + (k + 1) by omega] at this
      exact this
  | some j :: r, n, hT, k, i, h => by
    cases k with
    | zero => simp only [List.getElem?_cons_zero, Option.some.injEq] at h; subst h; exact hT.1
    | succ k =>
      have := Tys.get (l := r) (n := n + 1) hT.2 (k := k) (by simpa using h)
      rw [show n + 1 + k = n + (k + 1) by omega] at this
      exact this
/-- an array's type: its elements are told elsewhere -/
theorem tyArr {t : Ty} {n : Nat} {E : TypeId} (ha : t.agg = true) (hu : P.underlying T = some (.array n E)) (h1 : (P.info? T).map (·.size) = some t.size) (h2 : (P.info? T).bind (·.zero) = some (toV t t.dflt .lf)) : TyOk P T ⟨t, [], false⟩ :=
  ⟨info_of h1 h2, (by cases t <;> first | exact Or.inr ⟨rfl, n, E, hu⟩ | cases ha), fun _ => rfl, fun h => (by cases h), fun _ h => absurd rfl h⟩
theorem arrNone (h : Γ.arrs = []) : ArrOk P Γ := fun T fs k => by unfold Ctx.arr at k; rw [h] at k; cases k
theorem arrOne {t : Ty} {fs : List (List Step × Ty)} {n : Nat} {E : TypeId} {rest : List (Nat × List (List Step × Ty))} {a : List (Nat × List (List Step × Ty))} (hT : Γ.tys[T]? = some (some ⟨t, [], false⟩)) (hu : P.underlying T = some (.array n E)) {s : Nat} (hE : (P.info? E).map (·.size) = some s)
    (hf : (fs.zipIdx.all fun x => Nat.ble (x.2 + 1) n && Nat.beq x.1.2.size s && Nat.beq (ofs t x.1.1) (x.2 * s) && !hasAt x.1.1 && decide ((sub t t.mine t.dflt x.1.1).map (·.t) = some x.1.2)) = true) :
    ∃ i n E d, Γ.tys[T]? = some (some i) ∧ P.underlying T = some (.array n E) ∧ P.info? E = some d ∧ ∀ (k : Nat) (f : List Step × Ty), fs[k]? = some f → k < n ∧ d.size = f.2.size ∧ ofs i.ty f.1 = k * d.size ∧ hasAt f.1 = false ∧ ∃ m x, sub i.ty i.ty.mine i.ty.dflt f.1 = some ⟨f.2, m, x⟩ := by
  obtain ⟨d, hd, hs⟩ := Option.map_eq_some_iff.1 hE
  refine ⟨_, n, E, d, hT, hu, hd, fun k f hk => ?_⟩
  have hm : (f, k) ∈ fs.zipIdx := by
    rw [List.mem_zipIdx_iff_getElem?]; exact hk
  have := List.all_eq_true.1 hf _ hm
  simp only [Bool.and_eq_true, Bool.not_eq_true', decide_eq_true_eq] at this
  obtain ⟨⟨⟨⟨q1, q2⟩, q3⟩, q4⟩, q5⟩ := this
  obtain ⟨⟨zt, zm, zx⟩, hz, q5⟩ := Option.map_eq_some_iff.1 q5
  simp only at q5
  subst q5
  have e2 := Nat.eq_of_beq_eq_true q2
  have e3 := Nat.eq_of_beq_eq_true q3
  exact ⟨Nat.le_of_ble_eq_true q1, by rw [hs]; exact e2.symm, by rw [hs]; exact e3, q4, zm, zx, hz⟩
theorem tysOk (h : Tys P 0 Γ.tys) (hm : ∀ T ∈ Γ.maps, MapTyOk P T) (ha : ArrOk P Γ) : TysOk P Γ := ⟨fun T i hi => by
  have := h.get hi
  rwa [Nat.zero_add] at this, hm, ha⟩
def Fn1 (P : Program) (σ : Sig) : Prop := P.funcs[σ.fid]? = some σ.fn ∧ σ.params.length ≤ σ.fn.ntmps ∧ σ.fn.body.isSome = true ∧ σ.fn.name ≠ "runtime.NumGoroutine"
theorem fn1 {σ : Sig} (h1 : P.funcs[σ.fid]? = some σ.fn) (h2 : (Nat.ble σ.params.length σ.fn.ntmps && σ.fn.body.isSome && !(σ.fn.name == "runtime.NumGoroutine")) = true) : Fn1 P σ := by
  simp only [Bool.and_eq_true, Bool.not_eq_true', beq_eq_false_iff_ne] at h2
  exact ⟨h1, Nat.le_of_ble_eq_true h2.1.1, h2.1.2, h2.2⟩
def Fns (P : Program) : List Sig → Prop
  | [] => True
  | σ :: r => Fn1 P σ ∧ Fns P r
theorem Fns.get : ∀ {l : List Sig}, Fns P l → ∀ {k : Nat} {σ : Sig}, l[k]? = some σ → Fn1 P σ
  | [], _, k, σ, h => by simp at h
  | τ :: r, hF, k, σ, h => by
    cases k with
    | zero => simp only [List.getElem?_cons_zero, Option.some.injEq] at h; subst h; exact hF.1
    | succ k => exact Fns.get hF.2 (k := k) (by simpa using h)
theorem fnsOk (h : Fns P Γ.sigs) : FnsOk P Γ := fun n σ hσ => h.get hσ
end
end Go.Den

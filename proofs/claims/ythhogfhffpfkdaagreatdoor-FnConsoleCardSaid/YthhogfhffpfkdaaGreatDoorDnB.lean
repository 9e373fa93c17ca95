/-
  The evaluator, operation by operation: what it tells is what the machine does.
-/
import Derived.Test.YthhogfhffpfkdaaGreatDoorDnA
import Derived.Laws.BytesString
import Derived.Laws.CopyRow
import Derived.Laws.MakeOwn
import Derived.Great.BuildSlice
import Derived.MapKept
import Derived.Laws.StructEq
import Derived.Orders
/-
  The evaluator's small steps and the state: what is read is there, what is handed over is in flight, what is written is held.
-/
namespace Go.Den
open Go
set_option linter.unusedVariables false
set_option linter.unusedSimpArgs false

section
variable {Γ : Ctx} {O : Fun Γ} {R : Type}
theorem run_bind {α β : Type} (k : β → Env → Option R) : ∀ (m : M Γ α) (f : α → M Γ β) (e : Env), (m.bind f).run O e k = m.run O e fun a e => (f a).run O e k
  | .ret a, f, e => rfl
  | .get s q, f, e => run_bind k (q (e.get s)) f e
  | .set s z q, f, e => run_bind k q f (e.set s z)
  | .fail, f, e => rfl
  | .ite true x y, f, e => run_bind k x f e
  | .ite false x y, f, e => run_bind k y f e
  | .ask n a q, f, e => by
    simp only [M.bind, M.run]
    congr 1
    funext z
    exact run_bind k (q z) f e
  | .peek s q, f, e => run_bind k (q (e.get s).core) f e
  | .mode s m q, f, e => run_bind k q f (e.set s ((e.get s).withMd m))
theorem run_ofOpt {α : Type} {k : α → Env → Option R} {e : Env} {r : R} {x : Option α} (h : (M.ofOpt (Γ := Γ) x).run O e k = some r) : ∃ a, x = some a ∧ k a e = some r := by
  cases x with
  | none => cases h
  | some a => exact ⟨a, rfl, h⟩
theorem run_ti {k : TInfo → Env → Option R} {e : Env} {r : R} {T : Nat} (h : (Γ.ti T).run O e k = some r) : ∃ i, Γ.tys[T]? = some (some i) ∧ k i e = some r := by
  unfold Ctx.ti at h
  split at h
  · rename_i i hi; exact ⟨i, hi, h⟩
  · cases h
theorem run_ty {k : Ty → Env → Option R} {e : Env} {r : R} {T : Nat} (h : (Γ.ty T).run O e k = some r) : ∃ i, Γ.tys[T]? = some (some i) ∧ k i.ty e = some r := by
  unfold Ctx.ty at h
  rw [run_bind] at h
  exact run_ti h
theorem run_ite {α : Type} {k : α → Env → Option R} {e : Env} {r : R} {b : Bool} {x y : M Γ α} (h : (M.ite b x y).run O e k = some r) : (b = true ∧ x.run O e k = some r) ∨ (b = false ∧ y.run O e k = some r) := by
  cases b
  · exact .inr ⟨rfl, h⟩
  · exact .inl ⟨rfl, h⟩
end

theorem Own.free : ∀ {t : Ty} {m : Md} {g : G} {b : Nat}, t.free m = true → ¬ Own t m g b
  | .int _, _, _, _, _ => fun h => h
  | .bool, _, _, _, _ => fun h => h
  | .str, _, _, _, _ => fun h => h
  | .unit, _, _, _, _ => fun h => h
  | .one a, _, _, _, h => Own.free (t := a) h
  | .cons a b, _, _, _, h => by
    simp only [Ty.free, Bool.and_eq_true] at h
    exact fun k => k.elim (Own.free h.1) (Own.free h.2)
  | .sl e, m, _, _, h => by
    cases m with
    | sh o => exact fun k => k
    | _ => cases h
theorem Own.give : ∀ {t : Ty} {m : Md} {g : G} {b : Nat}, ¬ Own t (t.give m) g b
  | .int _, _, _, _ => fun h => h
  | .bool, _, _, _ => fun h => h
  | .str, _, _, _ => fun h => h
  | .unit, _, _, _ => fun h => h
  | .one a, _, _, _ => Own.give (t := a)
  | .cons a b, _, _, _ => fun k => k.elim (Own.give (t := a)) (Own.give (t := b))
  | .sl e, m, _, _ => by cases m <;> exact fun k => k
theorem Mem.flat {w : World} {I F : Nat → Prop} : ∀ {t : Ty} {m : Md} {x : t.den} {g : G}, t.flat = true → Mem w I F t m x g
  | .int _, _, _, _, _ => trivial
  | .bool, _, _, _, _ => trivial
  | .str, _, _, _, _ => trivial
  | .unit, _, _, _, _ => trivial
  | .one a, _, _, _, h => Mem.flat (t := a) h
  | .cons a b, _, _, _, h => by
    simp only [Ty.flat, Bool.and_eq_true] at h
    exact ⟨Mem.flat h.1, Mem.flat h.2⟩
  | .sl e, _, _, _, h => by cases h
theorem Own.flat : ∀ {t : Ty} {m : Md} {g : G} {b : Nat}, t.flat = true → ¬ Own t m g b
  | .int _, _, _, _, _ => fun h => h
  | .bool, _, _, _, _ => fun h => h
  | .str, _, _, _, _ => fun h => h
  | .unit, _, _, _, _ => fun h => h
  | .one a, _, _, _, h => Own.flat (t := a) h
  | .cons a b, _, _, _, h => by
    simp only [Ty.flat, Bool.and_eq_true] at h
    exact fun k => k.elim (Own.flat h.1) (Own.flat h.2)
  | .sl e, _, _, _, h => by cases h
theorem Sep.flat : ∀ {t : Ty} {m : Md} {g : G}, t.flat = true → Sep t m g
  | .int _, _, _, _ => trivial
  | .bool, _, _, _ => trivial
  | .str, _, _, _ => trivial
  | .unit, _, _, _ => trivial
  | .one a, _, _, h => Sep.flat (t := a) h
  | .cons a b, _, _, h => by
    simp only [Ty.flat, Bool.and_eq_true] at h
    exact ⟨Sep.flat h.1, Sep.flat h.2, fun b k => absurd k (Own.flat h.1)⟩
  | .sl e, _, _, h => by cases h
theorem coer_gone : ∀ (t : Ty) (m : Md), t.coer m .gone = true
  | .int _, _ => rfl
  | .bool, _ => rfl
  | .str, _ => rfl
  | .unit, _ => rfl
  | .one a, m => coer_gone a m
  | .cons a b, m => by simp only [Ty.coer, Md.fst, Md.snd, coer_gone a, coer_gone b, Bool.and_self]
  | .sl e, m => by cases m <;> rfl
theorem Mem.keep {w : World} {I F : Nat → Prop} {t : Ty} {m : Md} {x : t.den} {g : G} (h : Mem w I F t m x g) : Mem w I F t (Den.keep t m) x g := by
  unfold Den.keep; split
  · rename_i hf; exact Mem.flat hf
  · exact h
theorem Own.keep {t : Ty} {m : Md} {g : G} {b : Nat} (h : Own t (Den.keep t m) g b) : Own t m g b := by
  unfold Den.keep at h; split at h
  · rename_i hf; exact absurd h (Own.flat hf)
  · exact h
theorem Sep.keep {t : Ty} {m : Md} {g : G} (h : Sep t m g) : Sep t (Den.keep t m) g := by
  unfold Den.keep; split
  · rename_i hf; exact Sep.flat hf
  · exact h

/-- a part's mode turns -/
theorem Way.md {w : World} {I I' F : Nat → Prop} {T : Ty} {N : Md} {X : T.den} {g : G} {p : List Step} {t : Ty} {m : Md} {x : t.den} {h : G} (W : Way T N X g p t m x h)
    {m' : Md} (M' : Mem w I' F t m' x h) (S' : Sep t m' h) (hO : ∀ b, Own t m' h b → Own t m h b) (hI : ∀ b, I b → I' b) :
    ∀ {N' : Md}, Mem w I F T N X g → Sep T N g → MdR T N p m' N' → Mem w I' F T N' X g ∧ Sep T N' g ∧ ∀ b, Own T N' g b ↔ rest T N g p b ∨ Own t m' h b := by
  induction W with
  | @nil T N X g =>
    intro N' M S hN
    have e2 : N' = m' := by cases T <;> exact hN
    subst e2
    exact ⟨M', S', fun b => by cases T <;> simp [rest]⟩
  | one W ih => intro N' M S hN; exact ih M' S' hO M S hN
  | @l a b N X g p t m x h W ih =>
    intro N' M S hN
    obtain ⟨i1, i2, i3⟩ := ih M' S' hO M.1 S.1 hN.1
    refine ⟨⟨i1, by rw [hN.2]; exact M.2.mono hI fun _ _ k => k⟩, ⟨i2, by rw [hN.2]; exact S.2.1, fun q h1 h2 => ?_⟩, fun q => ?_⟩
    · rw [hN.2] at h2
      refine S.2.2 q ((W.own_iff q).2 ?_) h2
      exact ((i3 q).1 h1).imp id (hO q)
    · simp only [Own, rest, i3, hN.2]; grind
  | @r a b N X g p t m x h W ih =>
    intro N' M S hN
    obtain ⟨i1, i2, i3⟩ := ih M' S' hO M.2 S.2.1 hN.2
    refine ⟨⟨by rw [hN.1]; exact M.1.mono hI fun _ _ k => k, i1⟩, ⟨by rw [hN.1]; exact S.1, i2, fun q h1 h2 => ?_⟩, fun q => ?_⟩
    · rw [hN.1] at h1
      refine S.2.2 q h1 ((W.own_iff q).2 ?_)
      exact ((i3 q).1 h2).imp id (hO q)
    · simp only [Own, rest, i3, hN.1]; grind
  | @own e me X g i p t m x h hi W ih =>
    intro N' M S hN
    obtain ⟨me1, e1, rfl, hN⟩ := hN
    cases e1
    obtain ⟨i1, i2, i3⟩ := ih M' S' hO (M.2.2 i hi).2 (S.1 i hi) hN
    refine ⟨⟨M.1, M.2.1, fun j hj => ⟨(M.2.2 j hj).1, ?_⟩⟩, S, fun q => ?_⟩
    · by_cases c : j = i
      · subst c; exact i1
      · exact (M.2.2 j hj).2.mono hI fun _ _ k => k
    · simp only [Own, rest]
      constructor
      · rintro (h1 | ⟨j, hj, h1⟩)
        · exact .inl (.inl h1)
        · by_cases c : j = i
          · subst c; exact ((i3 q).1 h1).imp (fun k => .inr (.inr k)) id
          · exact .inl (.inr (.inl ⟨j, hj, c, h1⟩))
      · rintro ((h1 | ⟨j, hj, _, h1⟩ | h1) | h1)
        · exact .inl h1
        · exact .inr ⟨j, hj, h1⟩
        · exact .inr ⟨i, hi, (i3 q).2 (.inl h1)⟩
        · exact .inr ⟨i, hi, (i3 q).2 (.inr h1)⟩
  | sh hi W ih =>
    intro N' M S hN
    obtain ⟨me, h1, _⟩ := hN
    cases h1

/-- data that lie at a way from a slot -/
def SrcAt (e : Env) (γ : Nat → Gs) (src : Option (Nat × List Step)) (t : Ty) (m : Md) (x : t.den) (g : G) : Prop := match src with
  | none => ∀ b, ¬ Own t m g b
  | some (r, p) => ∃ kk T N X, (e.get r).sv = .val kk T N X ∧ Way T N X (γ r).g p t m x g
structure DtOk (w : World) (I F : Nat → Prop) (e : Env) (γ : Nat → Gs) (t : Ty) (m : Md) (x : t.den) (src : Option (Nat × List Step)) (g : G) (v : Value) : Prop where
  v : v = toV t x g
  mem : Mem w I F t m x g
  sep : Sep t m g
  src : SrcAt e γ src t m x g
def PtrOk (e : Env) (γ : Nat → Gs) (r : Nat) (p : List Step) (t : Ty) (v : Value) : Prop :=
  ∃ kk T N X, (e.get r).sv = .val kk T N X ∧ okP T (γ r).g p ∧ (∃ m x, sub T T.mine X p = some ⟨t, m, x⟩) ∧ ∃ a, place T (γ r).g (γ r).b p = some a ∧ v = .pointer (some a)
def OVok (w : World) (a : Nat → Value) (I F : Nat → Prop) (e : Env) (γ : Nat → Gs) (o : OV) (v : Value) : Prop := match o with
  | .data .tup t m x src => ∃ g, v = .tuple (tupV t x g).toArray ∧ Mem w I F t m x g ∧ Sep t m g ∧ SrcAt e γ src t m x g
  | .data .reg t m x src => ∃ g, DtOk w I F e γ t m x src g v
  | .data .box .. => False
  | .data .map t m x src => ∃ r, src = some (r, []) ∧ (e.get r).sv = .val .map t m x ∧ v = kV .map t x (γ r)
  | .data (.pin f) t m x src => ∃ r f', src = some (r, []) ∧ (e.get r).sv = .val (.pin f') t m x ∧ v = kV (.pin f) t x (γ r) ∧ (f = none ∨ f' = f)
  | .ptr r p t => PtrOk e γ r p t v
  | .clo g r p t => ∃ u, PtrOk e γ r p t u ∧ v = .func (.func g) #[] #[u]
  | .fn g cs => cs = [] ∧ v = .func (.func g) #[] #[]
  | .nil => v = .slice none 0 0
  | .cst c => v = c
  | .cl g cs => CloOk e a g cs v
def ev (a : Nat → Value) : Operand → Value
  | .tmp t => a t
  | .const v => v
  | .global g => .pointer (some ⟨g, 0, none⟩)
  | .func f => .func (.func f) #[] #[]

section
variable {Γ : Ctx} {O : Fun Γ} {R : Type} {w : World} {a : Nat → Value} {e : Env} {γ : Nat → Gs} {I F H Ω : Nat → Prop} {r : R}
theorem SlotOk.val {ve s d : Nat} {k : VK} {t : Ty} {m : Md} {x : t.den} {v : Value} {γ : Gs} (h : SlotOk w I F ⟨ve, s, d, .val k t m x⟩ v γ) : v = kV k t x γ ∧ Mem w I F t m x γ.g ∧ Sep t m γ.g := ⟨h.1, h.2.1, h.2.2.1⟩
theorem SlotOk.valMem {z : Slot} {k : VK} {t : Ty} {m : Md} {x : t.den} {v : Value} {γ : Gs} (h : SlotOk w I F z v γ) (hz : z.sv = .val k t m x) : v = kV k t x γ ∧ Mem w I F t m x γ.g ∧ Sep t m γ.g := by
  unfold SlotOk at h
  rw [hz] at h
  exact ⟨h.1, h.2.1, h.2.2.1⟩
theorem rdSlot_ok (S : St w a e γ I F H Ω) (hH : ∀ n, ¬ H n) (s : Nat) {k : OV → Env → Option R} (h : (rdSlot (Γ := Γ) s).run O e k = some r) : ∃ o, OVok w a I F e γ o (a s) ∧ k o e = some r := by
  unfold rdSlot at h
  simp only [M.run] at h
  have hslot := S.slot s (hH s)
  have href := S.ref s
  unfold SlotOk at hslot
  generalize hz : e.get s = z at h hslot href
  obtain ⟨ve, sv', dv', z⟩ := z
  cases z with
  | no => cases h
  | und => cases h
  | nil => exact ⟨.nil, hslot, h⟩
  | fn g cs => exact ⟨.fn g cs, hslot, h⟩
  | clo g cs => exact ⟨.cl g cs, S.fn.clo s g cs (by rw [hz]), h⟩
  | val kk t m x =>
    obtain ⟨h1, h2, h3, h4⟩ := hslot
    cases kk with
    | reg => exact ⟨.data .reg t m x (some (s, [])), ⟨(γ s).g, h1, h2, h3, _, _, _, _, by rw [hz], .nil⟩, h⟩
    | tup => exact ⟨.data .tup t m x (some (s, [])), ⟨(γ s).g, h1, h2, h3, _, _, _, _, by rw [hz], .nil⟩, h⟩
    | box =>
      obtain ⟨a', C, te, hb, _⟩ := h4
      refine ⟨.ptr s [] t, ⟨.box, t, m, x, by rw [hz], by cases t <;> trivial, ⟨t.mine, x, by cases t <;> rfl⟩, a', ?_, ?_⟩, h⟩
      · rw [← hb]; cases t <;> rfl
      · rw [h1, kV, hb]
    | map => exact ⟨.data .map t m x (some (s, [])), ⟨s, rfl, by rw [hz], h1⟩, h⟩
    | pin f =>
      cases f with
      | some g => exact ⟨.data (.pin (some g)) t m x (some (s, [])), ⟨s, some g, rfl, by rw [hz], h1, .inr rfl⟩, h⟩
      | none =>
        obtain ⟨_, a', C, te, fz, hb, _⟩ := h4
        refine ⟨.ptr s [] t, ⟨.pin none, t, m, x, by rw [hz], by cases t <;> trivial, ⟨t.mine, x, by cases t <;> rfl⟩, a', ?_, ?_⟩, h⟩
        · rw [← hb]; cases t <;> rfl
        · rw [h1, kV, hb]
  | ref kk r' v sv dv p t =>
    have hr := (href kk r' v sv dv p t rfl).2
    cases kk with
    | plc =>
      simp only [M.run] at h
      split at h
      · rename_i hok
        obtain ⟨kk, T, N, X, e1, o1, m, x, o2, a', o3, o4⟩ := hr hok
        exact ⟨.ptr r' p t, ⟨kk, T, N, X, e1, o1, ⟨m, x, o2⟩, a', o3, o4⟩, h⟩
      · cases h
    | clo g =>
      simp only [M.run] at h
      split at h
      · rename_i hok
        obtain ⟨kk, T, N, X, e1, o1, m, x, o2, a', o3, o4⟩ := hr hok
        exact ⟨.clo g r' p t, ⟨_, ⟨kk, T, N, X, e1, o1, ⟨m, x, o2⟩, a', o3, rfl⟩, o4⟩, h⟩
      · cases h
    | ali =>
      simp only [M.run] at h
      split at h
      · rename_i hok
        obtain ⟨kk, T, N, X, e1, o1, m, x, o2, o3⟩ := hr hok
        rw [e1] at h
        simp only at h
        cases hsub : sub T N X p with
        | none => rw [hsub] at h; cases h
        | some z =>
          rw [hsub] at h
          have hm := sub_mine hsub
          rw [o2] at hm
          obtain ⟨zt, zm, zx⟩ := z
          simp only [Option.some.injEq, Sub.mk.injEq] at hm
          obtain ⟨rfl, rfl, hx⟩ := hm
          cases hx
          have W := way hsub o1
          obtain ⟨_, M1, M2⟩ := (S.slot r' (hH r')).valMem e1
          have src : SrcAt e γ (some (r', p)) t zm x (gsub T (γ r').g p) := ⟨kk, T, N, X, e1, W⟩
          simp only at o3
          by_cases hp : p = []
          · subst hp
            have e0 : (⟨T, N, X⟩ : Sub) = ⟨t, zm, x⟩ := by
              have h0 : sub T N X [] = some ⟨T, N, X⟩ := by cases T <;> rfl
              rw [h0] at hsub; exact Option.some.inj hsub
            cases e0
            have e5 : gsub t (γ r').g [] = (γ r').g := by cases t <;> rfl
            cases kk with
            | map =>
              simp only [VK.whole, if_true, and_self] at o3
              exact ⟨.data .map t _ _ (some (r', [])), ⟨r', rfl, e1, o3⟩, h⟩
            | pin f =>
              cases f with
              | some g =>
                simp only [VK.whole, if_true, and_self] at o3
                exact ⟨.data (.pin (some g)) t _ _ (some (r', [])), ⟨r', some g, rfl, e1, o3, .inr rfl⟩, h⟩
              | none =>
                simp only [VK.whole, Bool.false_eq_true, false_and, if_false] at o3
                exact ⟨.data .reg t _ _ (some (r', [])), ⟨_, o3, W.mem M1, (W.sep M2).1, src⟩, h⟩
            | tup =>
              simp only [VK.whole, if_true, and_self] at o3
              exact ⟨.data .tup t _ _ (some (r', [])), ⟨(γ r').g, o3, M1, M2, e5 ▸ src⟩, h⟩
            | reg =>
              simp only [VK.whole, Bool.false_eq_true, false_and, if_false] at o3
              exact ⟨.data .reg t _ _ (some (r', [])), ⟨_, o3, W.mem M1, (W.sep M2).1, src⟩, h⟩
            | box =>
              simp only [VK.whole, Bool.false_eq_true, false_and, if_false] at o3
              exact ⟨.data .reg t _ _ (some (r', [])), ⟨_, o3, W.mem M1, (W.sep M2).1, src⟩, h⟩
          · simp only [hp, and_false, if_false] at o3 h
            exact ⟨.data .reg t zm x (some (r', p)), ⟨_, o3, W.mem M1, (W.sep M2).1, src⟩, h⟩
      · cases h
theorem rd_ok (S : St w a e γ I F H Ω) (hH : ∀ n, ¬ H n) (x : Operand) {k : OV → Env → Option R} (h : (rd (Γ := Γ) x).run O e k = some r) : ∃ o, OVok w a I F e γ o (ev a x) ∧ k o e = some r := by
  cases x with
  | tmp s => exact rdSlot_ok S hH s h
  | const v => exact ⟨.cst v, rfl, h⟩
  | func f => exact ⟨.fn f [], ⟨rfl, rfl⟩, h⟩
  | global g => cases h
theorem decodeV_ok {t : Ty} {v : Value} {x : t.den} (h : decodeV t v = some x) : v = toV t x .lf ∧ Mem w I F t t.mine x .lf ∧ Sep t t.mine .lf ∧ ∀ b, ¬ Own t t.mine .lf b := by
  cases t with
  | int k =>
    cases v <;> simp only [decodeV] at h <;> try cases h
    split at h
    · rename_i hk; subst hk; cases h; exact ⟨rfl, trivial, trivial, fun b => id⟩
    · cases h
  | bool => cases v <;> simp only [decodeV] at h <;> cases h <;> exact ⟨rfl, trivial, trivial, fun b => id⟩
  | str => cases v <;> simp only [decodeV] at h <;> cases h <;> exact ⟨rfl, trivial, trivial, fun b => id⟩
  | sl e =>
    have hv : v = .slice none 0 0 ∧ x = ([] : List e.den) := by
      cases v with
      | slice a l c =>
        cases a with
        | some a => simp [decodeV] at h
        | none =>
          cases l with
          | succ l => simp [decodeV] at h
          | zero =>
            cases c with
            | succ c => simp [decodeV] at h
            | zero => simp only [decodeV, Option.some.injEq] at h; exact ⟨rfl, h.symm⟩
      | _ => simp [decodeV] at h
    obtain ⟨rfl, rfl⟩ := hv
    refine ⟨rfl, ⟨rfl, .inl ⟨rfl, rfl, rfl⟩, fun i hi => absurd hi (Nat.not_lt_zero _)⟩, ⟨fun i hi => absurd hi (Nat.not_lt_zero _), fun i j b hi => absurd hi (Nat.not_lt_zero _), fun a i ha => by cases ha⟩, ?_⟩
    rintro b (⟨a, ha, _⟩ | ⟨i, hi, _⟩)
    · cases ha
    · exact absurd hi (Nat.not_lt_zero _)
  | unit => simp [decodeV] at h
  | one a => simp [decodeV] at h
  | cons a b => simp [decodeV] at h
theorem asData_ok {t : Ty} {o : OV} {v : Value} (D : OVok w a I F e γ o v) {k : Dt t → Env → Option R} (h : (asData (Γ := Γ) t o).run O e k = some r) :
    ∃ m x src g, DtOk w I F e γ t m x src g v ∧ k ⟨m, x, src⟩ e = some r := by
  unfold asData at h
  cases o with
  | data kk t' m x src =>
    cases kk with
    | reg =>
      simp only [run_bind] at h
      obtain ⟨y, hy, h⟩ := run_ofOpt h
      unfold Ty.cast at hy
      split at hy
      · rename_i ht; subst ht; cases hy
        obtain ⟨g, D⟩ := D
        exact ⟨m, x, src, g, D, h⟩
      · cases hy
    | tup => cases h
    | box => cases h
    | map => cases h
    | pin f => cases h
  | nil =>
    cases t with
    | sl el =>
      have := decodeV_ok (w := w) (I := I) (F := F) (t := .sl el) (v := .slice none 0 0) (x := ([] : List el.den)) rfl
      exact ⟨_, _, none, .lf, ⟨D.trans this.1, this.2.1, this.2.2.1, this.2.2.2⟩, h⟩
    | _ => cases h
  | cst c =>
    simp only [run_bind] at h
    obtain ⟨y, hy, h⟩ := run_ofOpt h
    have := decodeV_ok (w := w) (I := I) (F := F) hy
    exact ⟨_, _, none, .lf, ⟨D.trans this.1, this.2.1, this.2.2.1, this.2.2.2⟩, h⟩
  | ptr _ _ _ => cases h
  | clo _ _ _ _ => cases h
  | fn _ _ => cases h
  | cl _ _ => cases h
theorem asInt_ok {kd : IntKind} {o : OV} {v : Value} (D : OVok w a I F e γ o v) {k : Int → Env → Option R} (h : (asInt (Γ := Γ) kd o).run O e k = some r) : ∃ n, v = .int kd n ∧ k n e = some r := by
  unfold asInt at h
  rw [run_bind] at h
  obtain ⟨m, x, src, g, D, h⟩ := asData_ok D h
  exact ⟨x, D.v, h⟩
theorem asBool_ok {o : OV} {v : Value} (D : OVok w a I F e γ o v) {k : Bool → Env → Option R} (h : (asBool (Γ := Γ) o).run O e k = some r) : ∃ n, v = .bool n ∧ k n e = some r := by
  unfold asBool at h
  rw [run_bind] at h
  obtain ⟨m, x, src, g, D, h⟩ := asData_ok D h
  exact ⟨x, D.v, h⟩

/-- only modes turned -/
def EnvMd (e e' : Env) : Prop := ∀ n, e'.get n = e.get n ∨ ∃ v s d k T N N' X, e.get n = ⟨v, s, d, .val k T N X⟩ ∧ e'.get n = ⟨v, s, d, .val k T N' X⟩
theorem EnvMd.refl (e : Env) : EnvMd e e := fun n => .inl rfl
theorem PtrOk.md {e' : Env} (E : EnvMd e e') {p : List Step} {t : Ty} {v : Value} {n : Nat} (h : PtrOk e γ n p t v) : PtrOk e' γ n p t v := by
  obtain ⟨kk, T, N, X, e1, h⟩ := h
  rcases E n with k | ⟨ve, s, d, kk', T', N', N'', X', k1, k2⟩
  · exact ⟨kk, T, N, X, by rw [k]; exact e1, h⟩
  · rw [k1] at e1; cases e1
    exact ⟨_, _, N'', _, by rw [k2], h⟩
theorem SrcAt.same {e' : Env} {src : Option (Nat × List Step)} {t : Ty} {m : Md} {x : t.den} {g : G} (h : SrcAt e γ src t m x g) (hs : ∀ n p, src = some (n, p) → e'.get n = e.get n) : SrcAt e' γ src t m x g := by
  cases src with
  | none => exact h
  | some s =>
    obtain ⟨n, p⟩ := s
    obtain ⟨kk, T, N, X, e1, W⟩ := h
    exact ⟨kk, T, N, X, by rw [hs n p rfl]; exact e1, W⟩
end
end Go.Den
/-
  Handing over and writing: what is handed over is in flight, what is written is held.
-/
namespace Go.Den
open Go
set_option linter.unusedVariables false
set_option linter.unusedSimpArgs false

theorem Mem.gone {w : World} {I F : Nat → Prop} : ∀ {t : Ty} {m : Md} {x : t.den} {g : G}, Mem w I F t m x g → Mem w I F t .gone x g
  | .int _, _, _, _, _ => trivial
  | .bool, _, _, _, _ => trivial
  | .str, _, _, _, _ => trivial
  | .unit, _, _, _, _ => trivial
  | .one a, _, _, _, h => Mem.gone (t := a) h
  | .cons a b, _, _, _, h => ⟨Mem.gone h.1, Mem.gone h.2⟩
  | .sl e, _, _, _, h => ⟨h.1, trivial⟩

section
variable {Γ : Ctx} {O : Fun Γ} {R : Type} {w : World} {a : Nat → Value} {e : Env} {γ : Nat → Gs} {I I' F H H' Ω : Nat → Prop} {r : R}
theorem St.holes (S : St w a e γ I F H Ω) (h : ∀ n, H n → H' n) : St w a e γ I F H' Ω :=
  ⟨fun n hn => S.slot n fun k => hn (h n k), S.ref, fun n n' b hn hn' => S.sep n n' b (fun k => hn (h n k)) fun k => hn' (h n' k), fun n b hn => S.flt n b fun k => hn (h n k), fun n b hn => S.lv n b fun k => hn (h n k), S.lvΩ, S.imm, S.new, S.fn⟩
/-- the block of the slot itself -/
def boxed (k : VK) (γ : Gs) (b : Nat) : Prop := (k = .box ∧ ∃ a, γ.b = some a ∧ a.block = b) ∨ (k = .map ∧ ∃ a, γ.g.addr = some a ∧ a.block = b)
theorem boxed.box {k : VK} {γ : Gs} {b : Nat} (h : boxed k γ b) (hl : k.lent = false) : k = .box ∧ ∃ a, γ.b = some a ∧ a.block = b := h.elim id fun h => by rw [h.1] at hl; cases hl
theorem OwnS.val {ve s d : Nat} {k : VK} {t : Ty} {m : Md} {x : t.den} {γ : Gs} {b : Nat} : OwnS ⟨ve, s, d, .val k t m x⟩ γ b ↔ boxed k γ b ∨ Own t m γ.g b := by
  cases k <;> simp [OwnS, boxed]
/-- a slot's mode turns: what it owns no more is in flight or given to all -/
theorem St.mode (S : St w a e γ I F H Ω) {n : Nat} (hn : ¬ H n) {ve s d : Nat} {kk : VK} (hl : kk.lent = false) {T : Ty} {N N' : Md} {X : T.den} (hq : e.get n = ⟨ve, s, d, .val kk T N X⟩)
    (hM : Mem w I' F T N' X (γ n).g) (hS : Sep T N' (γ n).g) (hO : ∀ b, Own T N' (γ n).g b → Own T N (γ n).g b) (hI : ∀ b, I b → I' b)
    (hI' : ∀ b, I' b → I b ∨ (Own T N (γ n).g b ∧ ¬ Own T N' (γ n).g b)) :
    St w a (e.set n ⟨ve, s, d, .val kk T N' X⟩) γ I' F H (fun b => (Ω b) ∨ (Own T N (γ n).g b ∧ ¬ Own T N' (γ n).g b ∧ ¬ I' b)) := by
  have slot := S.slot n hn
  rw [hq] at slot
  obtain ⟨h1, h2, h3, h4⟩ := slot
  have own : ∀ b, Own T N (γ n).g b → OwnS (e.get n) (γ n) b := fun b h => by rw [hq, OwnS.val]; exact .inr h
  have hbox : kk = .box → ∀ a, (γ n).b = some a → ¬ Own T N (γ n).g a.block := fun hk a ha => by
    subst hk
    obtain ⟨a', C, te, ha', _, _, _, hno⟩ := h4
    rw [ha] at ha'; cases ha'; exact hno
  have gow : ∀ j b, OwnS ((e.set n ⟨ve, s, d, .val kk T N' X⟩).get j) (γ j) b → OwnS (e.get j) (γ j) b := fun j b h => by
    by_cases c : j = n
    · subst c; rw [get_set_self, OwnS.val] at h
      rw [hq, OwnS.val]
      exact h.imp id (hO b)
    · rwa [get_set_ne _ _ c] at h
  have lost : ∀ j b, ¬ H j → OwnS ((e.set n ⟨ve, s, d, .val kk T N' X⟩).get j) (γ j) b → ¬ (Own T N (γ n).g b ∧ ¬ Own T N' (γ n).g b) := fun j b hj h k => by
    by_cases c : j = n
    · subst c; rw [get_set_self, OwnS.val] at h
      rcases h with h | h
      · obtain ⟨hk, a, ha, rfl⟩ := h.box hl
        exact hbox hk a ha k.1
      · exact k.2 h
    · rw [get_set_ne _ _ c] at h
      exact S.sep j n b hj hn c h (own b k.1)
  refine ⟨fun j hj => ?_, fun j k r' v s' d' p t h => ?_, fun j j' b hj hj' hne h h' => S.sep j j' b hj hj' hne (gow j b h) (gow j' b h'), fun j b hj h k => ?_, fun j b hj h => ?_, fun b h => ?_, fun b h => ?_, S.new, ?_⟩
  rotate_right
  · have e1 : upd a n (a n) = a := by
      funext k
      unfold upd
      split
      · rename_i c; rw [c]
      · rfl
    have := (S.fn.put (d := n) (z := ⟨ve, s, d, .val kk T N' X⟩) (v := a n) ⟨by rw [hq]; exact Nat.le_refl _, fun _ => rfl⟩ (by exact fun _ _ h => (by cases h))).same (w' := w) (I' := I')
    rwa [e1] at this
  · by_cases c : j = n
    · subst c; rw [get_set_self]
      refine ⟨h1, hM, hS, ?_⟩
      cases kk with
      | box =>
        obtain ⟨a', C, te, ha', hs, hC, hat, hno⟩ := h4
        exact ⟨a', C, te, ha', hs, hC, hat, fun k => hno (hO _ k)⟩
      | reg => exact h4
      | tup => exact h4
      | map => cases hl
      | pin f => cases hl
    · rw [get_set_ne _ _ c]; exact (S.slot j hj).mono hI
  · have hj : (e.get j).sv = .ref k r' v s' d' p t := by
      by_cases c : j = n
      · subst c; rw [get_set_self] at h; cases h
      · rwa [get_set_ne _ _ c] at h
    have := S.ref j k r' v s' d' p t hj
    by_cases c : r' = n
    · subst c; rw [get_set_self]; rw [hq] at this; exact this.md
    · rw [get_set_ne _ _ c]; exact this
  · rcases k with k | k
    · exact S.flt j b hj (gow j b h) k
    · exact lost j b hj h ⟨k.1, k.2.1⟩
  · obtain ⟨l1, l2, l3⟩ := S.lv j b hj (gow j b h)
    exact ⟨l1, fun k => (hI' b k).elim l2 (lost j b hj h), l3⟩
  · rcases h with h | h
    · obtain ⟨l1, l2, l3⟩ := S.lvΩ b h
      exact ⟨l1, fun k => (hI' b k).elim l2 fun k => S.flt n b hn (own b k.1) h, l3⟩
    · obtain ⟨l1, l2, l3⟩ := S.lv n b hn (own b h.1)
      exact ⟨l1, h.2.2, l3⟩
  · rcases hI' b h with h | h
    · exact S.imm b h
    · exact (S.lv n b hn (own b h.1)).2.2

theorem Way.pre {T : Ty} {N : Md} {X : T.den} {g : G} {p : List Step} {t : Ty} {m : Md} {x : t.den} {h : G} (W : Way T N X g p t m x h) :
    ∃ (t1 : Ty) (m1 : Md) (x1 : t1.den) (g1 : G), Way T N X g (preAt p) t1 m1 x1 g1 ∧ ∀ b, Own t m h b → Own t1 m1 g1 b := by
  induction W with
  | nil => exact ⟨_, _, _, _, .nil, fun b h => h⟩
  | one _ ih => obtain ⟨t1, m1, x1, g1, W1, o⟩ := ih; exact ⟨_, _, _, _, .one W1, o⟩
  | l _ ih => obtain ⟨t1, m1, x1, g1, W1, o⟩ := ih; exact ⟨_, _, _, _, .l W1, o⟩
  | r _ ih => obtain ⟨t1, m1, x1, g1, W1, o⟩ := ih; exact ⟨_, _, _, _, .r W1, o⟩
  | own hi W ih => exact ⟨_, _, _, _, .nil, fun b hb => ((Way.own hi W).own_iff b).2 (.inr hb)⟩
  | sh hi W ih => exact ⟨_, _, _, _, .nil, fun b hb => ((Way.sh hi W).own_iff b).2 (.inr hb)⟩

structure Hand (w : World) (a : Nat → Value) (e e' : Env) (γ : Nat → Gs) (I I' F H Ω Ω' : Nat → Prop) (gv : Bool) (t : Ty) (m m' : Md) (x : t.den) (src : Option (Nat × List Step)) (g : G) : Prop where
  st : St w a e' γ I' F H Ω'
  mem : Mem w I' F t m' x g
  sep : Sep t m' g
  own : ∀ b, Own t m' g b → Ω' b ∧ ¬ Ω b
  flt : ∀ b, Ω b → Ω' b
  imm : ∀ b, I b → I' b
  new : ∀ b, I' b → I b ∨ (F b ∧ ¬ Ω b)
  md : EnvMd e e'
  same : ∀ n, (∀ p, src ≠ some (n, p)) → e'.get n = e.get n
  take : gv = false → I' = I ∧ m' = m
  kept' : gv = true → ∀ b, ¬ Own t m' g b
  giv : gv = true → ∀ b, Own t m g b → I' b
theorem handOver_ok (S : St w a e γ I F H Ω) (hH : ∀ n, ¬ H n) {gv : Bool} {t : Ty} {m : Md} {x : t.den} {src : Option (Nat × List Step)} {g : G} (Mm : Mem w I F t m x g) (Sp : Sep t m g) (A : SrcAt e γ src t m x g)
    {k : Md → Env → Option R} (h : (handOver (Γ := Γ) gv t m src).run O e k = some r) :
    ∃ m' e' I' Ω', k m' e' = some r ∧ Hand w a e e' γ I I' F H Ω Ω' gv t m m' x src g := by
  unfold handOver at h
  split at h
  · rename_i hf
    exact ⟨m, e, I, Ω, h, S, Mm, Sp, fun b hb => absurd hb (Own.free hf), fun b h => h, fun b h => h, fun b h => .inl h, EnvMd.refl e, fun n _ => rfl, fun _ => ⟨rfl, rfl⟩, fun _ b hb => absurd hb (Own.free hf), fun _ b hb => absurd hb (Own.free hf)⟩
  · cases src with
    | none => exact ⟨m, e, I, Ω, h, S, Mm, Sp, fun b hb => absurd hb (A b), fun b h => h, fun b h => h, fun b h => .inl h, EnvMd.refl e, fun n _ => rfl, fun _ => ⟨rfl, rfl⟩, fun _ b hb => absurd hb (A b), fun _ b hb => absurd hb (A b)⟩
    | some s =>
      obtain ⟨n, p⟩ := s
      obtain ⟨kk, T, N, X, e1, W⟩ := A
      simp only at h
      split at h
      · cases h
      simp only [M.run] at h
      generalize hq : e.get n = q at h e1
      obtain ⟨ve, s, d, sv⟩ := q
      cases e1
      simp only at h
      obtain ⟨_, M1, M2⟩ := (S.slot n (hH n)).valMem (congrArg Slot.sv hq)
      have hlent : kk.lent = false := by
        cases hc : kk.lent with
        | false => rfl
        | true => rw [hc] at h; simp only [if_true] at h; cases h
      rw [hlent] at h
      simp only [Bool.false_eq_true, if_false] at h
      have lv : ∀ b, Own T N (γ n).g b → F b ∧ ¬ I b ∧ b < w.heap.size := fun b hb => S.lv n b (hH n) (by rw [hq, OwnS.val]; exact .inr hb)
      have flt : ∀ b, Own T N (γ n).g b → ¬ Ω b := fun b hb => S.flt n b (hH n) (by rw [hq, OwnS.val]; exact .inr hb)
      have wown : ∀ b, Own t m g b → Own T N (γ n).g b := fun b hb => (W.own_iff b).2 (.inr hb)
      have wrest : ∀ b, rest T N (γ n).g p b → Own T N (γ n).g b := fun b hb => (W.own_iff b).2 (.inl hb)
      have same : ∀ z, ∀ j, (∀ q, (some (n, p) : Option (Nat × List Step)) ≠ some (j, q)) → (e.set n z).get j = e.get j := fun z j hj => get_set_ne _ _ fun c => hj p (by rw [c])
      cases gv with
      | true =>
        simp only [if_true] at h
        split at h
        · rename_i hc
          rw [run_bind] at h
          obtain ⟨N', hN', h⟩ := run_ofOpt h
          simp only [M.run, hq, Slot.withMd] at h
          have hR := mdPut_R hN'
          have M' : Mem w (fun b => I b ∨ Own t m g b) F t (t.give m) x g := Mm.coer hc Sp (fun b h => .inl h) (fun b hb => (lv b (wown b hb)).1) fun b hb _ => .inr hb
          obtain ⟨i1, i2, i3⟩ := W.md M' (Sp.coer hc) (fun b hb => hb.coer hc) (fun b h => .inl h) M1 M2 hR
          have i4 : ∀ b, Own T N' (γ n).g b → rest T N (γ n).g p b := fun b hb => ((i3 b).1 hb).elim id fun k => absurd k Own.give
          have S' := S.mode (hH n) hlent hq (I' := fun b => I b ∨ Own t m g b) i1 i2 (fun b hb => wrest b (i4 b hb)) (fun b h => .inl h) fun b hb => hb.imp id fun hb => ⟨wown b hb, fun k => (W.sep M2).2 b (i4 b k) hb⟩
          exact ⟨_, _, _, Ω, h, S'.drop fun b h => .inl h, M', Sp.coer hc, fun b hb => absurd hb Own.give, fun b h => h, fun b h => .inl h, fun b hb => hb.imp id fun hb => ⟨(lv b (wown b hb)).1, flt b (wown b hb)⟩,
            fun j => by
              by_cases c : j = n
              · subst c; exact .inr ⟨_, _, _, _, _, _, _, _, hq, get_set_self _ _ _⟩
              · exact .inl (get_set_ne _ _ c), same _, fun c => (by cases c), fun _ b => Own.give, fun _ b hb => .inr hb⟩
        · cases h
      | false =>
        simp only [Bool.false_eq_true, if_false] at h
        rw [run_bind] at h
        obtain ⟨N', hN', h⟩ := run_ofOpt h
        simp only [M.run, hq, Slot.withMd] at h
        have hR := mdPut_R hN'
        obtain ⟨t1, m1, x1, g1, W1, W1o⟩ := W.pre
        have Mm1 : Mem w I F t1 m1 x1 g1 := (W1.mem M1)
        obtain ⟨i1, i2, i3⟩ := W1.md Mm1.gone (Sep.gone _ _) (fun b hb => absurd hb (Own.gone _ _ _)) (fun b h => h) M1 M2 hR
        have i4 : ∀ b, Own T N' (γ n).g b → rest T N (γ n).g (preAt p) b := fun b hb => ((i3 b).1 hb).elim id fun k => absurd k (Own.gone _ _ _)
        have wrest1 : ∀ b, rest T N (γ n).g (preAt p) b → Own T N (γ n).g b := fun b hb => (W1.own_iff b).2 (.inl hb)
        have S' := S.mode (hH n) hlent hq (I' := I) i1 i2 (fun b hb => wrest1 b (i4 b hb)) (fun b h => h) fun b hb => .inl hb
        have hnew : ∀ b, Own t m g b → Own T N (γ n).g b ∧ ¬ Own T N' (γ n).g b ∧ ¬ I b := fun b hb => ⟨wown b hb, fun k => (W1.sep M2).2 b (i4 b k) (W1o b hb), (lv b (wown b hb)).2.1⟩
        exact ⟨_, _, _, _, h, S', Mm, Sp, fun b hb => ⟨.inr (hnew b hb), flt b (wown b hb)⟩, fun b h => .inl h, fun b h => h, fun b h => .inl h,
          fun j => by
            by_cases c : j = n
            · subst c; exact .inr ⟨_, _, _, _, _, _, _, _, hq, get_set_self _ _ _⟩
            · exact .inl (get_set_ne _ _ c), same _, fun _ => ⟨rfl, rfl⟩, fun c => (by cases c), fun c => (by cases c)⟩

def outP (d : Option Nat) (a : Nat → Value) (v : Value) : Nat → Value := match d with
  | none => a
  | some d => upd a d v
theorem newSv_ok (S : St w a e γ I F H Ω) (hH : ∀ n, ¬ H n) {d : Nat} {sv : SV} {γ' : Gs} {v : Value} (hz : ∀ z : Slot, z.sv = sv → SlotOk w I F z v γ') (ho : ∀ z : Slot, z.sv = sv → ∀ b, OwnS z γ' b → Ω b)
    (hr : ∀ k r v' s d' p t, sv = .ref k r v' s d' p t → RefSt (e.get r) (γ r) k v' s d' p t v) {k : Unit → Env → Option R} (h : (newSv (Γ := Γ) d sv).run O e k = some r) (hf : FnNew w e a I sv v := by exact fun _ _ h => (by cases h)) :
    ∃ ve, k () (e.set d ⟨ve, 0, 0, sv⟩) = some r ∧ St w (upd a d v) (e.set d ⟨ve, 0, 0, sv⟩) (upd γ d γ') I F H (fun b => Ω b ∧ ¬ OwnS ⟨ve, 0, 0, sv⟩ γ' b) :=
  ⟨_, h, S.write d (hH d) (hz _ rfl) (ho _ rfl) hr hf⟩
theorem out_ok (S : St w a e γ I F H Ω) (hH : ∀ n, ¬ H n) {d : Option Nat} {sv : SV} {γ' : Gs} {v : Value} (hz : ∀ z : Slot, z.sv = sv → SlotOk w I F z v γ') (ho : ∀ z : Slot, z.sv = sv → ∀ b, OwnS z γ' b → Ω b)
    (hr : ∀ k r v' s d' p t, sv = .ref k r v' s d' p t → RefSt (e.get r) (γ r) k v' s d' p t v) {k : Unit → Env → Option R} (h : (out (Γ := Γ) d sv).run O e k = some r) (hf : FnNew w e a I sv v := by exact fun _ _ h => (by cases h)) :
    ∃ e' γ'', k () e' = some r ∧ St w (outP d a v) e' γ'' I F H (fun _ => False) := by
  cases d with
  | none => exact ⟨e, γ, h, S.drop fun _ k => k.elim⟩
  | some d =>
    obtain ⟨ve, h, S'⟩ := newSv_ok S hH hz ho hr h hf
    exact ⟨_, _, h, S'.drop fun _ k => k.elim⟩
/-- data in flight are written into a slot -/
theorem outVal_ok (S : St w a e γ I F H Ω) (hH : ∀ n, ¬ H n) {d : Option Nat} {t : Ty} {m : Md} {x : t.den} {g : G} (M : Mem w I F t m x g) (Sp : Sep t m g) (ho : ∀ b, Own t m g b → Ω b)
    {k : Unit → Env → Option R} (h : (out (Γ := Γ) d (.val .reg t m x)).run O e k = some r) :
    ∃ e' γ'', k () e' = some r ∧ St w (outP d a (toV t x g)) e' γ'' I F H (fun _ => False) :=
  out_ok S hH (γ' := ⟨none, g⟩) (fun z hz => by unfold SlotOk; rw [hz]; exact ⟨rfl, M, Sp, rfl⟩) (fun z hz b hb => by unfold OwnS at hb; rw [hz] at hb; exact ho b hb) (fun _ _ _ _ _ _ _ c => by cases c) h
theorem scal_ok (S : St w a e γ I F H Ω) (hH : ∀ n, ¬ H n) {d : Option Nat} {t : Ty} {x : t.den} (hf : t.flat = true) {k : Unit → Env → Option R} (h : (scal (Γ := Γ) d t x).run O e k = some r) :
    ∃ e' γ'', k () e' = some r ∧ St w (outP d a (toV t x .lf)) e' γ'' I F H (fun _ => False) :=
  outVal_ok S hH (Mem.flat hf) (Sep.flat hf) (fun b hb => absurd hb (Own.flat hf)) h
theorem RefSt.self {z : Slot} {γ : Gs} {k : RK} {kk : VK} {T : Ty} {N : Md} {X : T.den} {p : List Step} {t : Ty} {y : Value} (hz : z.sv = .val kk T N X) (h : RefOk k kk T X γ p t y) : RefSt z γ k z.ver z.sver z.dver p t y :=
  ⟨⟨Nat.le_refl _, fun _ => ⟨Nat.le_refl _, fun _ => Nat.le_refl _⟩⟩, fun _ => ⟨kk, T, N, X, hz, h⟩⟩
theorem RefSt.plc0 {z : Slot} {γ : Gs} {s d : Nat} {kk : VK} {T : Ty} {N : Md} {X : T.den} {p : List Step} {t : Ty} {y : Value} (hz : z.sv = .val kk T N X) (h : RefOk .plc kk T X γ p t y) (hs : s ≤ z.sver) (hd : s = z.sver → d ≤ z.dver) : RefSt z γ .plc z.ver s d p t y :=
  ⟨⟨Nat.le_refl _, fun _ => ⟨hs, hd⟩⟩, fun _ => ⟨kk, T, N, X, hz, h⟩⟩
theorem outRef_ok (S : St w a e γ I F H Ω) (hH : ∀ n, ¬ H n) {d : Option Nat} {kd : RK} {n v' s d' : Nat} {p : List Step} {t : Ty} {v : Value} (h1 : RefSt (e.get n) (γ n) kd v' s d' p t v)
    {k : Unit → Env → Option R} (h : (out (Γ := Γ) d (.ref kd n v' s d' p t)).run O e k = some r) :
    ∃ e' γ'', k () e' = some r ∧ St w (outP d a v) e' γ'' I F H (fun _ => False) :=
  out_ok S hH (γ' := ⟨none, .lf⟩) (fun z hz => by unfold SlotOk; rw [hz]; trivial) (fun z hz b hb => by unfold OwnS at hb; rw [hz] at hb; exact hb.elim) (fun _ _ _ _ _ _ _ c => by cases c; exact h1) h
theorem outNo_ok (S : St w a e γ I F H Ω) (hH : ∀ n, ¬ H n) {d : Option Nat} (v : Value) {k : Unit → Env → Option R} (h : (out (Γ := Γ) d .no).run O e k = some r) :
    ∃ e' γ'', k () e' = some r ∧ St w (outP d a v) e' γ'' I F H (fun _ => False) :=
  out_ok S hH (γ' := ⟨none, .lf⟩) (fun z hz => by unfold SlotOk; rw [hz]; trivial) (fun z hz b hb => by unfold OwnS at hb; rw [hz] at hb; exact hb.elim) (fun _ _ _ _ _ _ _ c => by cases c) h
theorem outNil_ok (S : St w a e γ I F H Ω) (hH : ∀ n, ¬ H n) {d : Option Nat} {k : Unit → Env → Option R} (h : (out (Γ := Γ) d .nil).run O e k = some r) :
    ∃ e' γ'', k () e' = some r ∧ St w (outP d a (.slice none 0 0)) e' γ'' I F H (fun _ => False) :=
  out_ok S hH (γ' := ⟨none, .lf⟩) (fun z hz => by unfold SlotOk; rw [hz]) (fun z hz b hb => by unfold OwnS at hb; rw [hz] at hb; exact hb.elim) (fun _ _ _ _ _ _ _ c => by cases c) h
theorem outUnd_ok (S : St w a e γ I F H Ω) (hH : ∀ n, ¬ H n) {d : Option Nat} {k : Unit → Env → Option R} (h : (out (Γ := Γ) d .und).run O e k = some r) :
    ∃ e' γ'', k () e' = some r ∧ St w (outP d a undef) e' γ'' I F H (fun _ => False) :=
  out_ok S hH (γ' := ⟨none, .lf⟩) (fun z hz => by unfold SlotOk; rw [hz]) (fun z hz b hb => by unfold OwnS at hb; rw [hz] at hb; exact hb.elim) (fun _ _ _ _ _ _ _ c => by cases c) h
theorem outFn_ok (S : St w a e γ I F H Ω) (hH : ∀ n, ¬ H n) {d : Option Nat} {g : Nat} {cs : List Nat} {k : Unit → Env → Option R} (hc : cs = []) (h : (out (Γ := Γ) d (.fn g cs)).run O e k = some r) :
    ∃ e' γ'', k () e' = some r ∧ St w (outP d a (.func (.func g) #[] #[])) e' γ'' I F H (fun _ => False) :=
  out_ok S hH (γ' := ⟨none, .lf⟩) (fun z hz => by unfold SlotOk; rw [hz]; exact ⟨hc, rfl⟩) (fun z hz b hb => by unfold OwnS at hb; rw [hz] at hb; exact hb.elim) (fun _ _ _ _ _ _ _ c => by cases c) h
theorem outClo_ok (S : St w a e γ I F H Ω) (hH : ∀ n, ¬ H n) {d : Option Nat} {g : Nat} {cs : List (Nat × Nat)} {v : Value} (hc : CloOk e a g cs v) {k : Unit → Env → Option R} (h : (out (Γ := Γ) d (.clo g cs)).run O e k = some r) :
    ∃ e' γ'', k () e' = some r ∧ St w (outP d a v) e' γ'' I F H (fun _ => False) :=
  out_ok S hH (γ' := ⟨none, .lf⟩) (fun z hz => by unfold SlotOk; rw [hz]; trivial) (fun z hz b hb => by unfold OwnS at hb; rw [hz] at hb; exact hb.elim) (fun _ _ _ _ _ _ _ c => by cases c) h
    fun g' cs' c => by cases c; exact hc
end
end Go.Den
/-
  Moves and assignments: the slots hold what the machine holds.
-/
namespace Go.Den
open Go
set_option linter.unusedVariables false
set_option linter.unusedSimpArgs false

/-- an operation is done: the slots hold what the machine holds -/
def Done {R : Type} (k : Unit → Env → Option R) (r : R) (w : World) (a : Nat → Value) (I F H : Nat → Prop) : Prop :=
  ∃ e' γ' I', k () e' = some r ∧ St w a e' γ' I' F H (fun _ => False) ∧ (∀ b, I b → I' b) ∧ ∀ b, I' b → I b ∨ F b

theorem Way.nil_eq {T : Ty} {N : Md} {X : T.den} {g : G} {t : Ty} {m : Md} {x : t.den} {h : G} (W : Way T N X g [] t m x h) : (⟨T, N, X⟩ : Sub) = ⟨t, m, x⟩ ∧ g = h := by
  have h1 := W.ok
  have h0 : sub T N X [] = some ⟨T, N, X⟩ := by cases T <;> rfl
  have h2 : gsub T g [] = g := by cases T <;> rfl
  rw [h0, h2] at h1
  exact ⟨Option.some.inj h1.2.2, h1.2.1⟩
theorem upd_eq_self {α : Type} (f : Nat → α) (n : Nat) : upd f n (f n) = f := by
  funext k; unfold upd; split
  · rename_i h; rw [h]
  · rfl

section
variable {Γ : Ctx} {O : Fun Γ} {R : Type} {w : World} {a : Nat → Value} {e : Env} {γ : Nat → Gs} {I F H Ω : Nat → Prop} {r : R}
theorem Done.of {k : Unit → Env → Option R} (h : ∃ e' γ', k () e' = some r ∧ St w a e' γ' I F H (fun _ => False)) : Done k r w a I F H := by
  obtain ⟨e', γ', h1, h2⟩ := h
  exact ⟨e', γ', I, h1, h2, fun _ h => h, fun _ h => .inl h⟩
theorem Done.of' {I' : Nat → Prop} {k : Unit → Env → Option R} (h : ∃ e' γ', k () e' = some r ∧ St w a e' γ' I' F H (fun _ => False)) (h1 : ∀ b, I b → I' b) (h2 : ∀ b, I' b → I b ∨ F b) : Done k r w a I F H := by
  obtain ⟨e', γ', h3, h4⟩ := h
  exact ⟨e', γ', I', h3, h4, h1, h2⟩
theorem RefOk.nil {kk : VK} {t : Ty} {x : t.den} {γ : Gs} : RefOk .ali kk t x γ [] t (if kk.whole = true then kV kk t x γ else toV t x γ.g) := by
  refine ⟨by cases t <;> trivial, t.mine, x, by cases t <;> rfl, ?_⟩
  have h2 : gsub t γ.g [] = γ.g := by cases t <;> rfl
  simp [h2]
theorem moveM_ok (S : St w a e γ I F H Ω) (hH : ∀ n, ¬ H n) {d : Option Nat} {n : Nat} {x : Operand} {k : Unit → Env → Option R} (h : (moveM (Γ := Γ) d (Γ.ty n) x).run O e k = some r) :
    ∃ e' γ', k () e' = some r ∧ St w (outP d a (ev a x)) e' γ' I F H (fun _ => False) := by
  unfold moveM at h
  split at h
  · rename_i s
    simp only [M.run] at h
    have hslot := S.slot s (hH s)
    have href := S.ref s
    generalize hz : e.get s = z at h hslot href
    obtain ⟨ve, sv', dv', z⟩ := z
    cases z with
    | no => cases h
    | und => cases h
    | nil =>
      simp only at h
      unfold SlotOk at hslot
      have := outNil_ok S hH h
      rw [← hslot] at this; exact this
    | fn g cs =>
      simp only at h
      unfold SlotOk at hslot
      have := outFn_ok S hH hslot.1 h
      rw [← hslot.2] at this; exact this
    | clo g cs => exact outClo_ok S hH (S.fn.clo s g cs (by rw [hz])) h
    | val kk t m x =>
      obtain ⟨h1, h2, h3, h4⟩ := hslot
      have hali : ∀ (hk : kk ≠ .box) (hk2 : kk ≠ .pin none), RefSt (e.get s) (γ s) .ali ve sv' dv' [] t (a s) := fun hk hk2 => by
        have := RefSt.self (z := e.get s) (γ := γ s) (congrArg Slot.sv hz) (RefOk.nil (kk := kk) (x := x))
        rw [hz] at this ⊢
        rw [h1]
        cases kk with
        | box => exact absurd rfl hk
        | reg => exact this
        | tup => exact this
        | map => exact this
        | pin f =>
          cases f with
          | none => exact absurd rfl hk2
          | some g => exact this
      cases kk with
      | box =>
        simp only at h
        obtain ⟨a', C, te, hb, _⟩ := h4
        refine outRef_ok S hH (v := a s) ?_ h
        have hp : RefOk .plc .box t x (γ s) [] t (a s) := ⟨by cases t <;> trivial, t.mine, x, by cases t <;> rfl, a', by rw [← hb]; cases t <;> rfl, by rw [h1, kV, hb]⟩
        have := RefSt.plc0 (z := e.get s) (γ := γ s) (s := sv') (d := 0) (congrArg Slot.sv hz) hp (by rw [hz]; exact Nat.le_refl _) (fun _ => Nat.zero_le _)
        rw [hz] at this ⊢
        exact this
      | reg =>
        simp only at h
        split at h
        · rename_i hc
          simp only [decide_true, Bool.true_and] at hc
          have := outVal_ok S hH h2.keep h3.keep (fun b hb => absurd hb.keep (Own.free hc)) h
          show ∃ e' γ', k () e' = some r ∧ St w (outP d a (a s)) e' γ' I F H (fun _ => False)
          rw [h1]; exact this
        · exact outRef_ok S hH (hali (by simp) (by simp)) h
      | tup =>
        simp only at h
        split at h
        · rename_i hc; simp at hc
        · exact outRef_ok S hH (hali (by simp) (by simp)) h
      | map =>
        simp only at h
        split at h
        · rename_i hc; simp at hc
        · exact outRef_ok S hH (hali (by simp) (by simp)) h
      | pin f =>
        cases f with
        | some g =>
          simp only at h
          split at h
          · rename_i hc; simp at hc
          · exact outRef_ok S hH (hali (by simp) (by simp)) h
        | none =>
          simp only at h
          obtain ⟨_, a', C, te, fz, hb, _⟩ := h4
          refine outRef_ok S hH (v := a s) ?_ h
          have hp : RefOk .plc (.pin none) t x (γ s) [] t (a s) := ⟨by cases t <;> trivial, t.mine, x, by cases t <;> rfl, a', by rw [← hb]; cases t <;> rfl, by rw [h1, kV, hb]⟩
          have := RefSt.plc0 (z := e.get s) (γ := γ s) (s := sv') (d := 0) (congrArg Slot.sv hz) hp (by rw [hz]; exact Nat.le_refl _) (fun _ => Nat.zero_le _)
          rw [hz] at this ⊢
          exact this
    | ref kk r' v sv dv p t =>
      simp only at h
      exact outRef_ok S hH (href kk r' v sv dv p t rfl) h
  · exact outNil_ok S hH h
  · exact outNo_ok S hH _ h
  · exact outNo_ok S hH _ h
  · rename_i v _ _ _
    simp only [run_bind] at h
    obtain ⟨i, hi, h⟩ := run_ty h
    obtain ⟨y, hy, h⟩ := run_ofOpt h
    obtain ⟨d1, d2, d3, d4⟩ := decodeV_ok (w := w) (I := I) (F := F) hy
    have := outVal_ok S hH d2.keep d3.keep (fun b hb => absurd hb.keep (d4 b)) h
    simp only [ev]; rw [d1]; exact this
  · exact outFn_ok S hH rfl h
  · cases h

theorem aliasTo_ok (S : St w a e γ I F H Ω) (hH : ∀ n, ¬ H n) {t : Ty} {m : Md} {src : Option (Nat × List Step)} {d : Nat} {kk : VK} {m' : Md} {x : t.den}
    (hd : (e.get d).sv = .val kk t m' x) (hk : kk.whole = false) (hv : ∀ n, n ≠ d → src = some (n, []) → (∃ t m x, (e.get n).sv = .val .reg t m x) → a n = toV t x (γ d).g) {k : Unit → Env → Option R} (h : (aliasTo (Γ := Γ) t m src d).run O e k = some r) :
    ∃ e' γ', k () e' = some r ∧ St w a e' γ' I F H (fun _ => False) := by
  have triv : k () e = some r → ∃ e' γ', k () e' = some r ∧ St w a e' γ' I F H (fun _ => False) := fun h => ⟨e, γ, h, S.drop fun _ k => k.elim⟩
  unfold aliasTo at h
  split at h
  · rename_i n
    split at h
    · exact triv h
    · rename_i hc
      simp only [Bool.or_eq_true, decide_eq_true_eq, not_or] at hc
      simp only [M.run] at h
      split at h
      · rename_i t' m' x' hq
        simp only [M.run] at h
        have hvn := hv n hc.1 rfl ⟨_, _, _, hq⟩
        have hr : RefSt (e.get d) (γ d) .ali (e.get d).ver (e.get d).sver (e.get d).dver [] t (a n) := by
          have := RefSt.self (z := e.get d) (γ := γ d) hd (RefOk.nil (kk := kk) (x := x))
          rw [hvn]
          rw [hk] at this
          exact this
        have := S.write n (hH n) (sv := .ref .ali d (e.get d).ver (e.get d).sver (e.get d).dver [] t) (γ' := ⟨none, .lf⟩) (v := a n) trivial (fun b hb => hb.elim) (fun _ _ _ _ _ _ _ c => by cases c; exact hr)
        rw [upd_eq_self] at this
        exact ⟨_, _, h, this.drop fun _ k => k.elim⟩
      · exact triv h
  · exact triv h

theorem rerootM_ok (S : St w a e γ I F H Ω) (hH : ∀ n, ¬ H n) {X : Option Nat} {p0 : List Step} {r0 d : Nat} {t : Ty} {m' : Md} {x : t.den}
    (hd : (e.get d).sv = .val .reg t m' x) (hr : p0 = [] → ∃ kk N, (e.get r0).sv = .val kk t N x ∧ (γ r0).g = (γ d).g) {k : Unit → Env → Option R} (h : (rerootM (Γ := Γ) X p0 r0 d).run O e k = some r) :
    ∃ e' γ', k () e' = some r ∧ St w a e' γ' I F H Ω ∧ ∀ n, n = d ∨ n = r0 → e'.get n = e.get n ∧ γ' n = γ n := by
  have triv : k () e = some r → ∃ e' γ', k () e' = some r ∧ St w a e' γ' I F H Ω ∧ ∀ n, n = d ∨ n = r0 → e'.get n = e.get n ∧ γ' n = γ n := fun h => ⟨e, γ, h, S, fun _ _ => ⟨rfl, rfl⟩⟩
  unfold rerootM at h
  split at h
  · rename_i n0
    split at h
    · exact triv h
    · rename_i hn
      simp only [Bool.or_eq_true, decide_eq_true_eq, not_or] at hn
      simp only [M.run] at h
      split at h
      · rename_i r' v s dv p t' hz
        split at h
        · rename_i hc
          simp only [Bool.and_eq_true, decide_eq_true_eq] at hc
          obtain ⟨⟨c1, c2⟩, c3⟩ := hc
          subst c1
          simp only [M.run] at h
          obtain ⟨kk, N, q1, q2⟩ := hr rfl
          obtain ⟨kk', T, M', X', z1, z2⟩ := (S.ref n0 _ _ _ _ _ _ _ hz).2 c3
          rw [q1] at z1
          cases z1
          obtain ⟨o1, mm, xx, o2, o3⟩ := z2
          have o3' : a n0 = toV t' xx (gsub t (γ r').g p) := by
            have : a n0 = if kk.whole = true ∧ p = [] then kV kk t x (γ r') else toV t' xx (gsub t (γ r').g p) := o3
            rw [if_neg (fun c => c2 c.2)] at this
            exact this
          have hr' : RefSt (e.get d) (γ d) .ali (e.get d).ver (e.get d).sver (e.get d).dver p t' (a n0) := by
            refine RefSt.self (z := e.get d) (γ := γ d) hd ⟨by rw [← q2]; exact o1, mm, xx, o2, ?_⟩
            show a n0 = if _ then _ else _
            rw [if_neg (fun c => c2 c.2), ← q2]
            exact o3'
          have W := S.write n0 (hH n0) (sv := .ref .ali d (e.get d).ver (e.get d).sver (e.get d).dver p t') (γ' := ⟨none, .lf⟩) (v := a n0) trivial (fun b hb => hb.elim) (fun _ _ _ _ _ _ _ c => by cases c; exact hr')
          rw [upd_eq_self] at W
          refine ⟨_, _, h, ⟨W.slot, W.ref, W.sep, fun n b hn' hb kk => W.flt n b hn' hb ⟨kk, fun z => z.elim⟩, W.lv, fun b hb => S.lvΩ b hb, W.imm, W.new, W.fn⟩, fun n hn' => ?_⟩
          have : n ≠ n0 := by
            rintro rfl
            exact hn'.elim hn.1 hn.2
          exact ⟨get_set_ne _ _ this, upd_ne _ _ this⟩
        · exact triv h
      · exact triv h
  · exact triv h

theorem assignM_ok (S : St w a e γ I F H Ω) (hH : ∀ n, ¬ H n) {gv al : Bool} {X : Option Nat} {d : Option Nat} {n : Nat} {x : Operand} {k : Unit → Env → Option R} (h : (assignM (Γ := Γ) gv al X d (Γ.ty n) x).run O e k = some r) :
    Done k r w (outP d a (ev a x)) I F H := by
  cases x with
  | tmp s =>
    simp only [assignM] at h
    rw [run_bind] at h
    obtain ⟨o, D, h⟩ := rdSlot_ok S hH s h
    show Done k r w (outP d a (a s)) I F H
    cases o with
    | data kk t m x src =>
      cases kk with
      | tup => cases src <;> cases h
      | box => cases src <;> cases h
      | map =>
        obtain ⟨n', rfl, e1, e2⟩ := D
        simp only [M.run] at h
        have hr : RefSt (e.get n') (γ n') .ali (e.get n').ver (e.get n').sver (e.get n').dver [] t (a s) := by
          have := RefSt.self (z := e.get n') (γ := γ n') e1 (RefOk.nil (kk := .map) (x := x))
          rw [e2]; exact this
        exact Done.of (outRef_ok S hH hr h)
      | pin f =>
        cases f with
        | none => cases src <;> cases h
        | some g =>
          obtain ⟨n', f', rfl, e1, e2, e3⟩ := D
          obtain rfl : f' = some g := e3.elim (fun k => by cases k) id
          simp only [M.run] at h
          have hr : RefSt (e.get n') (γ n') .ali (e.get n').ver (e.get n').sver (e.get n').dver [] t (a s) := by
            have := RefSt.self (z := e.get n') (γ := γ n') e1 (RefOk.nil (kk := .pin (some g)) (x := x))
            rw [e2]; exact this
          exact Done.of (outRef_ok S hH hr h)
      | reg =>
        obtain ⟨g, Dv, Dm, Ds, Dsrc⟩ := D
        cases src with
        | none =>
          simp only at h
          split at h
          · rename_i hf
            rw [Dv]
            exact Done.of (outVal_ok S hH Dm.keep Ds.keep (fun b hb => absurd hb.keep (Own.free hf)) h)
          · cases h
        | some sr =>
          obtain ⟨n', p⟩ := sr
          simp only at h
          split at h
          · rename_i hf
            rw [Dv]
            exact Done.of (outVal_ok S hH Dm.keep Ds.keep (fun b hb => absurd hb.keep (Own.free hf)) h)
          · obtain ⟨kk, T, N, Xd, e1, W⟩ := Dsrc
            split at h
            · rename_i hd
              split at h
              · rename_i hp
                subst hp
                simp only [M.run] at h
                rw [e1] at h
                cases kk with
                | map => cases h
                | pin f => cases h
                | reg =>
                  simp only at h
                  obtain ⟨h1, M1, M2⟩ := (S.slot n' (hH n')).valMem e1
                  obtain ⟨e0, e0'⟩ := W.nil_eq
                  cases e0
                  subst e0'
                  have : a s = a n' := by rw [Dv, h1]; rfl
                  rw [hd, this]
                  simp only [outP, upd_eq_self]
                  exact Done.of ⟨e, γ, h, S.drop fun _ k => k.elim⟩
                | box => cases h
                | tup => cases h
              · cases h
            · rename_i hdd
              cases d with
              | none => cases h
              | some d =>
                simp only [M.run] at h
                generalize hq : e.get n' = q at h e1
                obtain ⟨ve, sv, dv, q⟩ := q
                cases e1
                simp only at h
                split at h
                · rw [run_bind] at h
                  have A : SrcAt e γ (some (n', p)) t m x g := ⟨kk, T, N, Xd, by rw [hq], W⟩
                  obtain ⟨m', e', I', Ω', h, HD⟩ := handOver_ok S hH Dm Ds A h
                  rw [run_bind] at h
                  obtain ⟨ve', h, S'⟩ := newSv_ok HD.st hH (d := d) (γ' := ⟨none, g⟩) (v := toV t x g) (fun z hz => by unfold SlotOk; rw [hz]; exact ⟨rfl, HD.mem, HD.sep, rfl⟩)
                    (fun z hz b hb => by unfold OwnS at hb; rw [hz] at hb; exact (HD.own b hb).1) (fun _ _ _ _ _ _ _ c => by cases c) h
                  have hI' : ∀ b, I' b → I b ∨ F b := fun b hb => (HD.new b hb).imp id (·.1)
                  have ee : outP (some d) a (a s) = upd a d (toV t x g) := by rw [Dv]; rfl
                  rw [ee]
                  split at h
                  · exact Done.of' ⟨_, _, h, S'.drop fun _ k => k.elim⟩ HD.imm hI'
                  · rename_i hgv
                    rw [run_bind] at h
                    have hnd : n' ≠ d := fun c => hdd (by rw [c])
                    have hsv : ∃ N', (e'.get n').sv = .val kk T N' Xd := by
                      rcases HD.md n' with c | ⟨_, _, _, _, _, _, _, _, c1, c2⟩
                      · rw [c, hq]; exact ⟨_, rfl⟩
                      · rw [hq] at c1; cases c1; rw [c2]; exact ⟨_, rfl⟩
                    obtain ⟨e2, γ2, h, S2, same⟩ := rerootM_ok S' hH (m' := m') (x := x) (by rw [get_set_self]) (fun hp => by
                      subst hp
                      obtain ⟨e0, e0'⟩ := W.nil_eq
                      cases e0
                      obtain ⟨N', hN'⟩ := hsv
                      exact ⟨kk, N', by rw [get_set_ne _ _ hnd]; exact hN', by rw [upd_self, upd_ne _ _ hnd]; exact e0'⟩) h
                    have sd := same d (.inl rfl)
                    refine Done.of' (aliasTo_ok S2 hH (kk := .reg) (m' := m') (x := x) (by rw [sd.1, get_set_self]) rfl ?_ h) HD.imm hI'
                    intro j hj hs ⟨t', m'', x', hq'⟩
                    cases hs
                    rw [sd.2, upd_self, upd_ne _ _ hj]
                    rw [(same _ (.inr rfl)).1, get_set_ne _ _ hj] at hq'
                    have hkk : kk = .reg := by
                      rcases HD.md n' with c | ⟨_, _, _, _, _, _, _, _, c1, c2⟩
                      · rw [c, hq] at hq'; cases hq'; rfl
                      · rw [hq] at c1; cases c1; rw [c2] at hq'; cases hq'; rfl
                    subst hkk
                    obtain ⟨h1, _, _⟩ := (S.slot n' (hH n')).valMem (congrArg Slot.sv hq)
                    obtain ⟨e0, e0'⟩ := W.nil_eq
                    cases e0
                    subst e0'
                    exact h1
                · rename_i hc
                  split at h
                  · cases h
                  rename_i hlent
                  simp only [Bool.or_eq_true, Bool.and_eq_true, not_or, decide_eq_true_eq] at hc
                  have hr : RefSt (e.get n') (γ n') .ali ve sv dv p t (a s) := by
                    refine ⟨by rw [hq]; exact ⟨Nat.le_refl _, fun _ => ⟨Nat.le_refl _, fun _ => Nat.le_refl _⟩⟩, fun _ => ⟨kk, T, N, Xd, by rw [hq], ?_⟩⟩
                    obtain ⟨o1, o2, o3⟩ := W.ok
                    refine ⟨o1, _, _, sub_mine o3, ?_⟩
                    have hnt : ¬ (kk.whole = true ∧ p = []) := fun c => hc.1.2 ⟨by have := c.1; cases kk <;> first | rfl | (simp [VK.whole] at this; done) | (simp [VK.lent] at hlent; done), .inr c.2⟩
                    show a s = if kk.whole = true ∧ p = [] then _ else _
                    rw [if_neg hnt, Dv, o2]
                  exact Done.of (outRef_ok (d := some d) S hH hr h)
    | clo g n' p t =>
      obtain ⟨u, ⟨kk, T, N, X, e1, o1, ⟨m, x, o2⟩, a', o3, o4⟩, o5⟩ := D
      simp only [M.run] at h
      have hr : RefSt (e.get n') (γ n') (.clo g) (e.get n').ver (e.get n').sver 0 p t (a s) :=
        ⟨⟨Nat.le_refl _, fun _ => ⟨Nat.le_refl _, fun _ => Nat.zero_le _⟩⟩, fun _ => ⟨kk, T, N, X, e1, o1, m, x, o2, a', o3, by rw [o5, o4]⟩⟩
      exact Done.of (outRef_ok S hH hr h)
    | ptr n' p t =>
      obtain ⟨kk, T, N, X, e1, o1, ⟨m, x, o2⟩, a', o3, o4⟩ := D
      exact Done.of (outRef_ok S hH (RefSt.plc0 e1 ⟨o1, m, x, o2, a', o3, o4⟩ (Nat.le_refl _) fun _ => Nat.zero_le _) h)
    | fn g cs =>
      have := outFn_ok S hH D.1 h
      rw [← D.2] at this; exact Done.of this
    | cl g cs => exact Done.of (outClo_ok S hH D h)
    | nil =>
      have := outNil_ok S hH h
      rw [← D] at this; exact Done.of this
    | cst c => cases h
  | const v => exact Done.of (moveM_ok S hH (n := n) (x := .const v) h)
  | func f => exact Done.of (moveM_ok S hH (n := n) (x := .func f) h)
  | global g => exact Done.of (moveM_ok S hH (n := n) (x := .global g) h)
end
end Go.Den
/-
  Operations that read alone: what the machine yields is what the evaluator writes.
-/
namespace Go.Den
open Go
set_option linter.unusedVariables false
set_option linter.unusedSimpArgs false

/-- a row that is there -/
def Md.row : Md → Prop
  | .own _ => True
  | .sh _ => True
  | _ => False
def ElOk (P : Program) (E : TypeId) : Ty → Prop
  | .int k => P.underlying E = some (.int k)
  | _ => True
def ScalOk (P : Program) (T : TypeId) : Ty → Prop
  | .int k => P.underlying T = some (.int k)
  | .bool => P.underlying T = some .bool
  | .str => P.underlying T = some .string
  | _ => False
/-- the fields of a struct that is compared field by field -/
def EqF (P : Program) : List Field → Ty → Nat → Prop
  | f :: r, .cons a b, o => f.name ≠ "_" ∧ f.offset = o ∧ ScalOk P f.type a ∧ EqF P r b (o + a.size)
  | [f], t, o => f.name ≠ "_" ∧ f.offset = o ∧ ScalOk P f.type t
  | _, _, _ => False
/-- what is known of a type of the program -/
def UnderOk (P : Program) (T : TypeId) (i : TInfo) : Prop := match i.ty with
  | .int k => P.underlying T = some (.int k)
  | .bool => P.underlying T = some .bool
  | .str => P.underlying T = some .string
  | .sl e => ∃ E d, P.underlying T = some (.slice E) ∧ P.info? E = some d ∧ d.size = e.size ∧ d.zero = some (toV e e.dflt .lf) ∧ 0 < e.size ∧ d.bytes ≤ 128 ∧
      ElOk P E e
  | _ => (∃ fs, P.underlying T = some (.struct fs) ∧ ∀ (k : Nat) (f : List Step × Ty), i.fields[k]? = some f → ∃ fd d, fs[k]? = some fd ∧ fd.offset = ofs i.ty f.1 ∧ P.info? fd.type = some d ∧ d.size = f.2.size ∧ 0 < f.2.size ∧
      hasAt f.1 = false ∧ ∃ m x, sub i.ty i.ty.mine i.ty.dflt f.1 = some ⟨f.2, m, x⟩) ∨ (i.fields = [] ∧ ∃ n E, P.underlying T = some (.array n E))
structure TyOk (P : Program) (T : TypeId) (i : TInfo) : Prop where
  info : ∃ d, P.info? T = some d ∧ d.size = i.ty.size ∧ d.zero = some (toV i.ty i.ty.dflt .lf)
  under : UnderOk P T i
  flds : i.ty.agg = false → i.fields = []
  eqs : i.eq = true → ∃ fs, P.underlying T = some (.struct fs) ∧ P.stoodInHeld T = false ∧ P.eqGuardType P.depth T = false ∧ EqF P fs.toList i.ty 0
  bld : i.ty.agg = true → i.fields ≠ [] → ∃ fs places, P.underlying T = some (.struct fs) ∧ fs.toList.mapM (fun f => (P.info? f.type).map fun i => (f.offset, i.size)) = some places ∧
    ∀ (k : Nat) (f : List Step × Ty), i.fields[k]? = some f → places[k]? = some (ofs i.ty f.1, f.2.size) ∧ hasAt f.1 = false ∧ ∃ m x, sub i.ty i.ty.mine i.ty.dflt f.1 = some ⟨f.2, m, x⟩

/-- the world goes on, none but the call's own blocks turned -/
structure Wk (I F : Nat → Prop) (w w' : World) : Prop where
  os : w'.os = w.os
  tape : w'.tape = w.tape
  output : w'.output = w.output
  size : w.heap.size ≤ w'.heap.size
  drawn : w.drawn ≤ w'.drawn
  old : ∀ b, b < w.heap.size → (I b ∨ ¬ F b) → w'.heap[b]? = w.heap[b]?
theorem Wk.refl (I F : Nat → Prop) (w : World) : Wk I F w w := ⟨rfl, rfl, rfl, Nat.le_refl _, Nat.le_refl _, fun _ _ _ => rfl⟩
theorem Wk.mono {I I' F : Nat → Prop} {w w' : World} (h : Wk I' F w w') (hI : ∀ b, I b → I' b) : Wk I F w w' :=
  ⟨h.os, h.tape, h.output, h.size, h.drawn, fun b hb k => h.old b hb (k.imp (hI b) id)⟩
theorem Wk.trans {I I' F : Nat → Prop} {w w' w'' : World} (h : Wk I F w w') (k : Wk I' F w' w'') (hI : ∀ b, I b → I' b) : Wk I F w w'' :=
  ⟨k.os.trans h.os, k.tape.trans h.tape, k.output.trans h.output, Nat.le_trans h.size k.size, Nat.le_trans h.drawn k.drawn, fun b hb hF => (k.old b (Nat.lt_of_lt_of_le hb h.size) (hF.imp (hI b) id)).trans (h.old b hb hF)⟩

section
variable {P : Program} {Γ : Ctx} {O : Fun Γ} {R : Type} {w : World} {a : Nat → Value} {e : Env} {γ : Nat → Gs} {I F H Ω : Nat → Prop} {r : R}

theorem isAgg_run {T : TypeId} {i : TInfo} (h : TyOk P T i) : (isAgg T).run P w = .ok i.ty.agg w := by
  have hu := h.under
  unfold UnderOk at hu
  unfold isAgg
  simp only [Sem.run_bind]
  cases hi : i.ty with
  | int k => rw [hi] at hu; simp [run_underlying hu, Ty.agg]
  | bool => rw [hi] at hu; simp [run_underlying hu, Ty.agg]
  | str => rw [hi] at hu; simp [run_underlying hu, Ty.agg]
  | sl e => rw [hi] at hu; obtain ⟨E, d, hu, _⟩ := hu; simp [run_underlying hu, Ty.agg]
  | unit => rw [hi] at hu; rcases hu with ⟨fs, hu, _⟩ | ⟨_, n, E, hu⟩ <;> simp [run_underlying hu, Ty.agg]
  | one a => rw [hi] at hu; rcases hu with ⟨fs, hu, _⟩ | ⟨_, n, E, hu⟩ <;> simp [run_underlying hu, Ty.agg]
  | cons a b => rw [hi] at hu; rcases hu with ⟨fs, hu, _⟩ | ⟨_, n, E, hu⟩ <;> simp [run_underlying hu, Ty.agg]
theorem sizeOf_run {T : TypeId} {i : TInfo} (h : TyOk P T i) : (sizeOf T).run P w = .ok i.ty.size w := by
  obtain ⟨d, h1, h2, _⟩ := h.info
  simp [sizeOf, typeInfo, h1, h2]
theorem zeroValue_run {T : TypeId} {i : TInfo} (h : TyOk P T i) : (zeroValue T).run P w = .ok (toV i.ty i.ty.dflt .lf) w := by
  obtain ⟨d, h1, h2, h3⟩ := h.info
  simp [zeroValue, typeInfo, h1, h3]
theorem size_pos : ∀ {t : Ty}, t.agg = false → t.size = 1
  | .int _, _ => rfl
  | .bool, _ => rfl
  | .str, _ => rfl
  | .sl _, _ => rfl
  | .unit, h => by cases h
  | .one _, h => by cases h
  | .cons _ _, h => by cases h
theorem cells_single {t : Ty} {x : t.den} {g : G} (h : t.agg = false) : cells t x g = [toV t x g] := by
  have hl := cells_len t x g
  rw [size_pos h] at hl
  obtain ⟨v, hv⟩ := List.length_eq_one_iff.1 hl
  unfold toV
  rw [hv, h]
  rfl
theorem toV_cells {t : Ty} {x : t.den} {g : G} : (toV t x g).cells.toList = cells t x g := by
  cases h : t.agg with
  | true => unfold toV; rw [h]; simp [Value.cells]
  | false =>
    rw [cells_single h]
    have : (toV t x g) = (cells t x g).headD undef := by unfold toV; rw [h]; rfl
    have hne : (toV t x g).cells = #[toV t x g] := by
      cases t <;> first | rfl | cases h
    rw [hne]
theorem loadVar_run {T : TypeId} {i : TInfo} (h : TyOk P T i) {ad : Addr} {x : i.ty.den} {g : G} (hat : At w (some ad) 0 (cells i.ty x g)) : (loadVar T ad).run P w = .ok (toV i.ty x g) w := by
  have hl := run_loadCells_list (P := P) w ad (cells i.ty x g) (fun j v hj => by
    obtain ⟨d, hd, hv⟩ := hat j v hj
    cases hd; rw [Nat.zero_add] at hv; exact hv)
  rw [cells_len] at hl
  unfold loadVar
  simp only [Sem.run_bind, isAgg_run h, Result.andThen_ok]
  cases hg : i.ty.agg with
  | true => simp only [if_true, Sem.run_bind, sizeOf_run h, Result.andThen_ok, hl, Sem.run_pure]; unfold toV; rw [hg]; rfl
  | false =>
    rw [cells_single hg] at hat
    obtain ⟨d, hd, hv⟩ := hat 0 _ rfl
    cases hd
    rw [Addr.add_zero'] at hv
    simp [hv]

theorem Done.scal (S : St w a e γ I F H Ω) (hH : ∀ n, ¬ H n) {d : Option Nat} {t : Ty} {x : t.den} {k : Unit → Env → Option R} {v : Value} (hf : t.flat = true) (hv : v = toV t x .lf) (h : (Den.scal (Γ := Γ) d t x).run O e k = some r) :
    Done k r w (outP d a v) I F H := by rw [hv]; exact Done.of (scal_ok S hH hf h)

theorem intBin_ok (S : St w a e γ I F H Ω) (hH : ∀ n, ¬ H n) {d : Option Nat} {op : BinOp} {kd yk : IntKind} {x y : Int} {T : TypeId} (hk : op = .shl ∨ op = .shr ∨ yk = kd)
    {k : Unit → Env → Option R} (h : (intBin (Γ := Γ) d op kd x y).run O e k = some r) :
    ∃ v, (binOp op T (.int kd x) (.int yk y)).run P w = .ok v w ∧ Done k r w (outP d a v) I F H := by
  unfold intBin at h
  cases op with
  | add => rcases hk with hk | hk | rfl <;> first | cases hk | exact ⟨_, by simp [binOp, Op.intArith]; rfl, Done.scal S hH rfl rfl h⟩
  | sub => rcases hk with hk | hk | rfl <;> first | cases hk | exact ⟨_, by simp [binOp, Op.intArith]; rfl, Done.scal S hH rfl rfl h⟩
  | mul => rcases hk with hk | hk | rfl <;> first | cases hk | exact ⟨_, by simp [binOp, Op.intArith]; rfl, Done.scal S hH rfl rfl h⟩
  | quo =>
    rcases hk with hk | hk | rfl <;> try cases hk
    rcases run_ite h with ⟨_, h⟩ | ⟨hb, h⟩
    · cases h
    · simp only [decide_eq_false_iff_not] at hb
      exact ⟨_, by simp [binOp, Op.intDiv, hb]; rfl, Done.scal S hH rfl rfl h⟩
  | rem =>
    rcases hk with hk | hk | rfl <;> try cases hk
    rcases run_ite h with ⟨_, h⟩ | ⟨hb, h⟩
    · cases h
    · simp only [decide_eq_false_iff_not] at hb
      exact ⟨_, by simp [binOp, Op.intDiv, hb]; rfl, Done.scal S hH rfl rfl h⟩
  | eql => rcases hk with hk | hk | rfl <;> first | cases hk | exact ⟨_, by simp [binOp, Op.intCmp]; rfl, Done.scal S hH rfl rfl h⟩
  | neq => rcases hk with hk | hk | rfl <;> first | cases hk | exact ⟨_, by simp [binOp, Op.intCmp]; rfl, Done.scal S hH rfl rfl h⟩
  | lss => rcases hk with hk | hk | rfl <;> first | cases hk | exact ⟨_, by simp [binOp, Op.intCmp]; rfl, Done.scal S hH rfl rfl h⟩
  | leq => rcases hk with hk | hk | rfl <;> first | cases hk | exact ⟨_, by simp [binOp, Op.intCmp]; rfl, Done.scal S hH rfl rfl h⟩
  | gtr => rcases hk with hk | hk | rfl <;> first | cases hk | exact ⟨_, by simp [binOp, Op.intCmp]; rfl, Done.scal S hH rfl rfl h⟩
  | geq => rcases hk with hk | hk | rfl <;> first | cases hk | exact ⟨_, by simp [binOp, Op.intCmp]; rfl, Done.scal S hH rfl rfl h⟩
  | shl =>
    rcases run_ite h with ⟨_, h⟩ | ⟨hb, h⟩
    · cases h
    · simp only [decide_eq_false_iff_not] at hb
      exact ⟨_, by simp [binOp, Op.shift, hb]; rfl, Done.scal S hH rfl rfl h⟩
  | shr =>
    rcases run_ite h with ⟨_, h⟩ | ⟨hb, h⟩
    · cases h
    · simp only [decide_eq_false_iff_not] at hb
      exact ⟨_, by simp [binOp, Op.shift, hb]; rfl, Done.scal S hH rfl rfl h⟩
  | and =>
    rcases hk with hk | hk | rfl <;> try cases hk
    simp only [run_bind] at h
    obtain ⟨z, hz, h⟩ := run_ofOpt h
    simp only [bitsD, Option.some.injEq] at hz; subst hz
    exact ⟨_, by simp [binOp, Op.intBits]; rfl, Done.scal S hH rfl rfl h⟩
  | or =>
    rcases hk with hk | hk | rfl <;> try cases hk
    simp only [run_bind] at h
    obtain ⟨z, hz, h⟩ := run_ofOpt h
    simp only [bitsD, Option.some.injEq] at hz; subst hz
    exact ⟨_, by simp [binOp, Op.intBits]; rfl, Done.scal S hH rfl rfl h⟩
  | xor =>
    rcases hk with hk | hk | rfl <;> try cases hk
    simp only [run_bind] at h
    obtain ⟨z, hz, h⟩ := run_ofOpt h
    simp only [bitsD, Option.some.injEq] at hz; subst hz
    exact ⟨_, by simp [binOp, Op.intBits]; rfl, Done.scal S hH rfl rfl h⟩
  | andNot =>
    rcases hk with hk | hk | rfl <;> try cases hk
    simp only [run_bind] at h
    obtain ⟨z, hz, h⟩ := run_ofOpt h
    simp only [bitsD, Option.some.injEq] at hz; subst hz
    exact ⟨_, by simp [binOp, Op.intBits]; rfl, Done.scal S hH rfl rfl h⟩
theorem strBin_ok (S : St w a e γ I F H Ω) (hH : ∀ n, ¬ H n) {d : Option Nat} {op : BinOp} {x y : ByteArray} {T : TypeId}
    {k : Unit → Env → Option R} (h : (strBin (Γ := Γ) d op x y).run O e k = some r) :
    ∃ v, (binOp op T (.string x) (.string y)).run P w = .ok v w ∧ Done k r w (outP d a v) I F H := by
  unfold strBin at h
  cases op <;> first | (cases h; done) | skip
  · rcases run_ite h with ⟨hb, h⟩ | ⟨_, h⟩
    · simp only [decide_eq_true_eq] at hb
      refine ⟨_, ?_, Done.scal S hH rfl rfl h⟩
      have hm : IntKind.i64.max = 9223372036854775807 := rfl
      have : ¬ ((x.size + y.size : Nat) : Int) > IntKind.i64.max := by rw [hm]; omega
      simp only [binOp, Op.stringOp]
      rw [if_neg this]
      rfl
    · cases h
  · exact ⟨_, by simp [binOp, Op.stringOp]; rfl, Done.scal S hH rfl rfl h⟩
  · exact ⟨_, by simp [binOp, Op.stringOp]; rfl, Done.scal S hH rfl rfl h⟩

theorem Way.trans {T : Ty} {N : Md} {X : T.den} {g : G} {p : List Step} {t : Ty} {m : Md} {x : t.den} {h : G} (W : Way T N X g p t m x h) {q : List Step} {t2 : Ty} {m2 : Md} {x2 : t2.den} {h2 : G} (W2 : Way t m x h q t2 m2 x2 h2) :
    Way T N X g (p ++ q) t2 m2 x2 h2 := by
  induction W with
  | nil => exact W2
  | one _ ih => exact .one (ih W2)
  | l _ ih => exact .l (ih W2)
  | r _ ih => exact .r (ih W2)
  | own hi _ ih => exact .own hi (ih W2)
  | sh hi _ ih => exact .sh hi (ih W2)
theorem Way.place_append {T : Ty} {N : Md} {X : T.den} {g : G} {p : List Step} {t : Ty} {m : Md} {x : t.den} {h : G} (W : Way T N X g p t m x h) (q : List Step) : ∀ c, place T g c (p ++ q) = place t h (place T g c p) q := by
  induction W with
  | @nil T N X g => intro c; cases T <;> rfl
  | one _ ih => exact ih
  | l _ ih => exact ih
  | r _ ih => exact fun c => ih _
  | own hi _ ih => exact fun c => ih _
  | sh hi _ ih => exact fun c => ih _
theorem hasAt_append : ∀ (p q : List Step), hasAt (p ++ q) = (hasAt p || hasAt q)
  | [], q => by simp [hasAt]
  | .at i :: p, q => rfl
  | .l :: p, q => hasAt_append p q
  | .r :: p, q => hasAt_append p q

theorem okP_sub : ∀ {T : Ty} {N : Md} {X : T.den} {p : List Step} {z : Sub} {g : G}, sub T N X p = some z → hasAt p = false → okP T g p
  | T, N, X, [], z, g, hs, _ => by cases T <;> trivial
  | .one a, N, X, .l :: p, z, g, hs, hp => okP_sub (T := a) hs hp
  | .cons a b, N, X, .l :: p, z, g, hs, hp => okP_sub (T := a) hs hp
  | .cons a b, N, X, .r :: p, z, g, hs, hp => okP_sub (T := b) hs hp
  | .sl e, N, X, .at i :: p, z, g, hs, hp => by cases hp
  | .int _, _, _, _ :: _, _, _, hs, _ => by simp [sub] at hs
  | .bool, _, _, _ :: _, _, _, hs, _ => by simp [sub] at hs
  | .str, _, _, _ :: _, _, _, hs, _ => by simp [sub] at hs
  | .unit, _, _, _ :: _, _, _, hs, _ => by simp [sub] at hs
  | .one _, _, _, .r :: _, _, _, hs, _ => by cases hs
  | .one _, _, _, .at _ :: _, _, _, _, hp => by cases hp
  | .cons _ _, _, _, .at _ :: _, _, _, _, hp => by cases hp
  | .sl _, _, _, .l :: _, _, _, hs, _ => by cases hs
  | .sl _, _, _, .r :: _, _, _, hs, _ => by cases hs
theorem free_sh : ∀ (t : Ty) (o : Bool), t.free (.sh o) = true
  | .int _, _ => rfl
  | .bool, _ => rfl
  | .str, _ => rfl
  | .unit, _ => rfl
  | .one a, o => free_sh a o
  | .cons a b, o => by simp only [Ty.free, Md.fst, Md.snd, free_sh a o, free_sh b o, Bool.and_self]
  | .sl e, _ => rfl
/-- what stands behind a pointer -/
theorem PtrOk.load (S : St w a e γ I F H Ω) (hH : ∀ n, ¬ H n) {n : Nat} {p : List Step} {t : Ty} {v : Value} (D : PtrOk e γ n p t v) {kk : VK} {T : Ty} {N : Md} {X : T.den} (hq : (e.get n).sv = .val kk T N X) {z : Sub} (hz : sub T N X p = some z) :
    ∃ ad, v = .pointer (some ad) ∧ z.t = t ∧ Way T N X (γ n).g p z.t z.m z.x (gsub T (γ n).g p) ∧ place T (γ n).g (γ n).b p = some ad ∧ At w (some ad) 0 (cells z.t z.x (gsub T (γ n).g p)) ∧ (kk.whole = true → p = [] → z.t.free z.m = true) := by
  obtain ⟨kk', T', N', X', e1, o1, ⟨m, x, o2⟩, ad, o3, o4⟩ := D
  rw [hq] at e1
  cases e1
  have hm := sub_mine hz
  rw [o2] at hm
  have ht : z.t = t := (congrArg Sub.t (Option.some.inj hm)).symm
  have W := way hz o1
  have slot := S.slot n (hH n)
  unfold SlotOk at slot
  rw [hq] at slot
  obtain ⟨h1, h2, h3, h4⟩ := slot
  have hreg : (γ n).b = none → hasAt p = true := fun hb => by
    cases hp : hasAt p with
    | true => rfl
    | false => rw [(W.ofs hp).2.1, hb] at o3; cases o3
  have hc : hasAt p = true ∨ At w (γ n).b 0 (cells T X (γ n).g) := by
    cases kk with
    | box => obtain ⟨_, _, _, _, _, _, hat, _⟩ := h4; exact .inr hat
    | reg => exact .inl (hreg h4)
    | tup => exact .inl (hreg h4)
    | map => exact .inl (hreg h4.2.2.1)
    | pin f => obtain ⟨_, _, _, _, _, _, _, _, hat, _⟩ := h4; exact .inr hat
  refine ⟨ad, o4, ht, W, o3, ?_, fun hk hp => ?_⟩
  · have := W.at h2 hc; rw [o3] at this; exact this
  · cases kk with
    | reg => cases hk
    | box => cases hk
    | tup => have := hreg h4; rw [hp] at this; cases this
    | map => have := hreg h4.2.2.1; rw [hp] at this; cases this
    | pin f =>
      obtain ⟨⟨o, ho⟩, _⟩ := h4
      subst hp
      have h0 : sub T N X [] = some ⟨T, N, X⟩ := by cases T <;> rfl
      rw [h0] at hz; cases hz
      rw [ho]; exact free_sh _ _

theorem loadM_ok (S : St w a e γ I F H Ω) (hH : ∀ n, ¬ H n) {T : TypeId} {i : TInfo} (hT : TyOk P T i) {d : Option Nat} {x : Operand} {k : Unit → Env → Option R} (h : (loadM (Γ := Γ) d i.ty x).run O e k = some r) :
    ∃ v, (Instr.loadAt T (ev a x)).run P w = .ok v w ∧ Done k r w (outP d a v) I F H := by
  unfold loadM at h
  rw [run_bind] at h
  obtain ⟨o, D, h⟩ := rd_ok S hH x h
  cases o with
  | ptr n p t =>
    simp only [M.run] at h
    split at h
    · rename_i kk T' N X hq
      split at h
      · rename_i z hz
        obtain ⟨ad, h1, h2, W, h3, hat, hk⟩ := PtrOk.load S hH D hq hz
        obtain ⟨_, M1, M2⟩ := (S.slot n (hH n)).valMem hq
        obtain ⟨zt, zm, zx⟩ := z
        split at h
        · rename_i hty
          simp only at hty W hat h
          subst hty
          refine ⟨toV i.ty zx (gsub T' (γ n).g p), by rw [h1]; simp [Instr.loadAt, Instr.sureAddr, loadVar_run hT hat], ?_⟩
          split at h
          · rename_i hf
            exact Done.of (outVal_ok S hH (W.mem M1).keep (W.sep M2).1.keep (fun b hb => absurd hb.keep (Own.free hf)) h)
          · split at h
            · cases h
            · refine Done.of (outRef_ok S hH (RefSt.self hq ⟨W.ok.1, _, _, sub_mine hz, ?_⟩) h)
              rename_i hnf _
              have : ¬ (kk.whole = true ∧ p = []) := fun c => hnf (hk c.1 c.2)
              show _ = if kk.whole = true ∧ p = [] then _ else _
              rw [if_neg this]
        · cases h
      · cases h
    · cases h
  | data k' _ _ _ _ => cases k' <;> cases h
  | clo _ _ _ _ => cases h
  | cl _ _ => cases h
  | fn _ _ => cases h
  | nil => cases h
  | cst _ => cases h

theorem fieldAddrM_ok (S : St w a e γ I F H Ω) (hH : ∀ n, ¬ H n) {T : TypeId} {i : TInfo} (hT : TyOk P T i) {d : Option Nat} {x : Operand} {j : Nat} {k : Unit → Env → Option R} (h : (fieldAddrM (Γ := Γ) d i x j).run O e k = some r) :
    ∃ v, (Instr.fieldAt T (ev a x) j).run P w = .ok v w ∧ Done k r w (outP d a v) I F H := by
  unfold fieldAddrM at h
  rw [run_bind] at h
  obtain ⟨o, D, h⟩ := rd_ok S hH x h
  cases o with
  | ptr n p t =>
    simp only at h
    split at h
    · rename_i ht
      subst ht
      cases hf : i.fields[j]? with
      | none => rw [hf] at h; cases h
      | some f =>
        rw [hf] at h
        simp only [M.run] at h
        obtain ⟨kk, T', N, X, e1, o1, ⟨m, x', o2⟩, ad, o3, o4⟩ := D
        have hu := hT.under
        unfold UnderOk at hu
        have hu' : ∃ fs, P.underlying T = some (.struct fs) ∧ ∀ (k : Nat) (f : List Step × Ty), i.fields[k]? = some f → ∃ fd d, fs[k]? = some fd ∧ fd.offset = ofs i.ty f.1 ∧ P.info? fd.type = some d ∧ d.size = f.2.size ∧ 0 < f.2.size ∧
            hasAt f.1 = false ∧ ∃ m x, sub i.ty i.ty.mine i.ty.dflt f.1 = some ⟨f.2, m, x⟩ := by
          cases hg : i.ty.agg with
          | false => rw [hT.flds hg] at hf; cases hf
          | true =>
            obtain ⟨ty, fields, eqb⟩ := i
            cases ty <;> first | exact hu.elim id (fun k => by have k1 := k.1; simp only at k1 hf; rw [k1] at hf; cases hf) | cases hg
        obtain ⟨fs, hfs, hall⟩ := hu'
        obtain ⟨fd, di, q1, q2, q3, q4, q5, q6, m', xd, q7⟩ := hall j f hf
        have W := way o2 o1
        have hmine : m = i.ty.mine := by
          have := sub_mine o2
          rw [o2] at this
          exact congrArg Sub.m (Option.some.inj this)
        subst hmine
        obtain ⟨xf, q8⟩ := sub_any x' q7
        have W2 : Way i.ty i.ty.mine x' (gsub T' (γ n).g p) f.1 f.2 m' xf (gsub i.ty (gsub T' (γ n).g p) f.1) := way q8 (okP_sub q8 q6)
        have W3 := W.trans W2
        refine ⟨.pointer (some (ad.add fd.offset)), ?_, Done.of (outRef_ok S hH (RefSt.plc0 e1 ⟨W3.ok.1, _, _, sub_mine W3.ok.2.2, ad.add fd.offset, ?_, rfl⟩ (Nat.le_refl _) fun _ => Nat.zero_le _) h)⟩
        · have hs : (sizeOf fd.type).run P w = .ok f.2.size w := by simp [sizeOf, typeInfo, q3, q4]
          have hne : ¬ f.2.size = 0 := by omega
          rw [o4]
          simp [Instr.fieldAt, run_underlying hfs, q1, Instr.sureAddr, fieldPlace, hs, hne]
        · rw [W.place_append, o3, (W2.ofs q6).2.1, q2]
          rfl
    · cases h
  | data k' _ _ _ _ => cases k' <;> cases h
  | clo _ _ _ _ => cases h
  | cl _ _ => cases h
  | fn _ _ => cases h
  | nil => cases h
  | cst _ => cases h
/-- an array of numbers -/
def ArrOk (P : Program) (Γ : Ctx) : Prop := ∀ T fs, Γ.arr T = some fs → ∃ i n E d, Γ.tys[T]? = some (some i) ∧ P.underlying T = some (.array n E) ∧ P.info? E = some d ∧ ∀ (k : Nat) (f : List Step × Ty), fs[k]? = some f →
  k < n ∧ d.size = f.2.size ∧ ofs i.ty f.1 = k * d.size ∧ hasAt f.1 = false ∧ ∃ m x, sub i.ty i.ty.mine i.ty.dflt f.1 = some ⟨f.2, m, x⟩
theorem arrAddrM_ok (S : St w a e γ I F H Ω) (hH : ∀ n, ¬ H n) {T : TypeId} {i : TInfo} {fs : List (List Step × Ty)} {len : Nat} {E : TypeId} {di : TypeInfo} (hu : P.underlying T = some (.array len E)) (hE : P.info? E = some di)
    (hall : ∀ (k : Nat) (f : List Step × Ty), fs[k]? = some f → k < len ∧ di.size = f.2.size ∧ ofs i.ty f.1 = k * di.size ∧ hasAt f.1 = false ∧ ∃ m x, sub i.ty i.ty.mine i.ty.dflt f.1 = some ⟨f.2, m, x⟩)
    {d : Option Nat} {x ix : Operand} {k : Unit → Env → Option R} (h : (arrAddrM (Γ := Γ) d i.ty fs x ix).run O e k = some r) :
    ∃ v, (Instr.indexAt T (ev a x) (ev a ix)).run P w = .ok v w ∧ Done k r w (outP d a v) I F H := by
  unfold arrAddrM at h
  rw [run_bind] at h
  obtain ⟨o, D, h⟩ := rd_ok S hH x h
  split at h
  · rename_i n p t j _
    split at h
    · rename_i hc
      simp only [Bool.and_eq_true, decide_eq_true_eq] at hc
      obtain ⟨ht, hj⟩ := hc
      subst ht
      cases hf : fs[j.toNat]? with
      | none => rw [hf] at h; cases h
      | some f =>
        rw [hf] at h
        simp only [M.run] at h
        obtain ⟨kk, T', N, X, e1, o1, ⟨m, x', o2⟩, ad, o3, o4⟩ := D
        obtain ⟨q1, q2, q3, q6, m', xd, q7⟩ := hall _ f hf
        have W := way o2 o1
        have hmine : m = i.ty.mine := by
          have := sub_mine o2
          rw [o2] at this
          exact congrArg Sub.m (Option.some.inj this)
        subst hmine
        obtain ⟨xf, q8⟩ := sub_any x' q7
        have W2 : Way i.ty i.ty.mine x' (gsub T' (γ n).g p) f.1 f.2 m' xf (gsub i.ty (gsub T' (γ n).g p) f.1) := way q8 (okP_sub q8 q6)
        have W3 := W.trans W2
        refine ⟨.pointer (some (ad.add (j.toNat * di.size))), ?_, Done.of (outRef_ok S hH (RefSt.plc0 e1 ⟨W3.ok.1, _, _, sub_mine W3.ok.2.2, ad.add (j.toNat * di.size), ?_, rfl⟩ (Nat.le_refl _) fun _ => Nat.zero_le _) h)⟩
        · have hs : (sizeOf E).run P w = .ok di.size w := by simp [sizeOf, typeInfo, hE]
          have hlt : j < (len : Int) := by omega
          rw [o4]
          show (Instr.indexAt T (.pointer (some ad)) (.int .i64 j)).run P w = _
          simp [Instr.indexAt, asIntOf, run_underlying hu, Instr.sureAddr, hs, hj, hlt]
        · rw [W.place_append, o3, (W2.ofs q6).2.1, q3]
          rfl
    · cases h
  · cases h
end
end Go.Den
/-
  More operations that read alone.
-/
namespace Go.Den
open Go
set_option linter.unusedVariables false
set_option linter.unusedSimpArgs false
section
variable {P : Program} {Γ : Ctx} {O : Fun Γ} {R : Type} {w : World} {a : Nat → Value} {e : Env} {γ : Nat → Gs} {I F H Ω : Nat → Prop} {r : R}

theorem slInfo {T : TypeId} {i : TInfo} (hT : TyOk P T i) {el : Ty} (hi : i.ty = .sl el) : ∃ E d, P.underlying T = some (.slice E) ∧ P.info? E = some d ∧ d.size = el.size ∧ d.zero = some (toV el el.dflt .lf) ∧ 0 < el.size ∧ d.bytes ≤ 128 ∧
      ElOk P E el := by
  have := hT.under
  unfold UnderOk at this
  rw [hi] at this
  exact this
/-- a row that may be read, with an element -/
theorem Mem.elem {el : Ty} {m : Md} {x : List el.den} {g : G} (h : Mem w I F (.sl el) m x g) (hm : m.row) (h0 : 0 < el.size) {j : Nat} (hj : j < List.length x) :
    ∃ d, g.addr = some d ∧ g.len = List.length x ∧ At w (some (d.add (j * el.size))) 0 (cells el (List.getD x j el.dflt) (g.kid j)) := by
  have hl := h.1
  have hat : At w g.addr (j * el.size) (cells el (List.getD x j el.dflt) (g.kid j)) := by
    cases m with
    | own me => exact (h.2.2 j (by rw [hl]; exact hj)).1
    | sh o => exact (h.2.2 j (by rw [hl]; exact hj)).1
    | pr _ _ => exact hm.elim
    | gone => exact hm.elim
  have hlen := cells_len el (List.getD x j el.dflt) (g.kid j)
  obtain ⟨d, hd, _⟩ := hat 0 ((cells el (List.getD x j el.dflt) (g.kid j))[0]'(by omega)) (List.getElem?_eq_getElem _)
  refine ⟨d, hd, hl, ?_⟩
  rw [hd] at hat
  exact (At.add (a := some d)).2 (by simpa using hat)
theorem lenM_ok (S : St w a e γ I F H Ω) (hH : ∀ n, ¬ H n) {T ty : TypeId} {i : TInfo} (hT : TyOk P T i) {d : Option Nat} {x : Operand} {k : Unit → Env → Option R} (h : (lenM (Γ := Γ) d i.ty x).run O e k = some r) :
    ∃ v, (Builtin.len_ #[T] ty #[ev a x]).run P w = .ok v w ∧ Done k r w (outP d a v) I F H := by
  unfold lenM at h
  rw [run_bind] at h
  obtain ⟨o, D, h⟩ := rd_ok S hH x h
  have hu := hT.under
  unfold UnderOk at hu
  obtain ⟨ty', fields, eqb⟩ := i
  cases ty' with
  | str =>
    simp only [run_bind] at h hu
    obtain ⟨m, y, src, g, Dd, h⟩ := asData_ok D h
    refine ⟨goInt y.size, ?_, Done.scal S hH rfl rfl h⟩
    have := Dd.v
    rw [this]
    simp [Builtin.len_, run_underlying hu, toV, cells, Ty.agg]
  | sl el =>
    simp only [run_bind] at h hu
    obtain ⟨m, y, src, g, Dd, h⟩ := asData_ok D h
    obtain ⟨E, di, hu, _⟩ := hu
    refine ⟨goInt (List.length y), ?_, Done.scal S hH rfl rfl h⟩
    have := Dd.v
    rw [this]
    have hl := Dd.mem.1
    simp [Builtin.len_, run_underlying hu, toV, cells, Ty.agg, hl]
  | _ => cases h
theorem indexAddrM_ok (S : St w a e γ I F H Ω) (hH : ∀ n, ¬ H n) {T : TypeId} {i : TInfo} (hT : TyOk P T i) {d : Option Nat} {x ix : Operand} {k : Unit → Env → Option R} (h : (indexAddrM (Γ := Γ) d i.ty x ix).run O e k = some r) :
    ∃ v, (Instr.indexAt T (ev a x) (ev a ix)).run P w = .ok v w ∧ Done k r w (outP d a v) I F H := by
  unfold indexAddrM at h
  cases hi : i.ty with
  | sl el =>
    rw [hi] at h
    simp only [run_bind] at h
    obtain ⟨o, D, h⟩ := rd_ok S hH x h
    obtain ⟨m, y, src, g, Dd, h⟩ := asData_ok D h
    obtain ⟨o2, D2, h⟩ := rd_ok S hH ix h
    obtain ⟨n, hn, h⟩ := asInt_ok D2 h
    obtain ⟨E, di, hu, hE, hsz, _, h0, _⟩ := slInfo hT hi
    have key : ∀ (hm : m.row), (match src with
      | some (r, p) => M.ite (inside n (List.length y)) (.get r fun q => out d (.ref .plc r q.ver q.sver 0 (p ++ [Step.at n.toNat]) el)) .fail
      | none => (.fail : M Γ Unit)).run O e k = some r → ∃ v, (Instr.indexAt T (ev a x) (ev a ix)).run P w = .ok v w ∧ Done k r w (outP d a v) I F H := by
      intro hm h
      cases src with
      | none => cases h
      | some s =>
        obtain ⟨rr, p⟩ := s
        simp only at h
        rcases run_ite h with ⟨hin, h⟩ | ⟨_, h⟩
        · simp only [M.run] at h
          simp only [inside, Bool.and_eq_true, decide_eq_true_eq] at hin
          have hj : n.toNat < List.length y := by omega
          obtain ⟨ad, hg, hl, hat⟩ := Dd.mem.elem hm h0 hj
          obtain ⟨kk, T', N, X, e1, W⟩ := Dd.src
          have W2 : Way (.sl el) m y g [.at n.toNat] el m.elem (List.getD y n.toNat el.dflt) (g.kid n.toNat) := by
            cases m with
            | own me => exact .own (by rw [hl]; exact hj) .nil
            | sh o => exact .sh (by rw [hl]; exact hj) .nil
            | pr _ _ => exact hm.elim
            | gone => exact hm.elim
          have W3 := W.trans W2
          refine ⟨.pointer (some (ad.add (n.toNat * el.size))), ?_, Done.of (outRef_ok S hH (RefSt.plc0 e1 ⟨W3.ok.1, _, _, sub_mine W3.ok.2.2, _, ?_, rfl⟩ (Nat.le_refl _) fun _ => Nat.zero_le _) h)⟩
          · have hs : (sizeOf E).run P w = .ok el.size w := by simp [sizeOf, typeInfo, hE, hsz]
            have hv : ev a x = .slice (some ad) g.len g.cap := by rw [Dd.v]; simp [toV, cells, Ty.agg, hg]
            have hlt : 0 ≤ n ∧ n < (g.len : Int) := by rw [hl]; exact hin
            rw [hv, hn]
            simp [Instr.indexAt, asIntOf, run_underlying hu, hs, hlt]
          · rw [W.place_append]
            simp only [place, hg, Option.map_some]
        · cases h
    cases m with
    | own me => exact key trivial h
    | sh o => exact key trivial h
    | pr _ _ => cases h
    | gone => cases h
  | _ => rw [hi] at h; cases h
theorem nilCheck_ok (S : St w a e γ I F H Ω) (hH : ∀ n, ¬ H n) {d : Option Nat} {x : Operand} {k : Unit → Env → Option R}
    (h : ((rd (Γ := Γ) x).bind fun o => match o with
      | .ptr r p t => .get r fun q => out d (.ref .plc r q.ver q.sver 0 p t)
      | .fn g cs => out d (.fn g cs)
      | _ => .fail).run O e k = some r) :
    ((∃ ad, ev a x = .pointer (some ad)) ∨ ∃ g, ev a x = .func (.func g) #[] #[]) ∧ Done k r w (outP d a (ev a x)) I F H := by
  rw [run_bind] at h
  obtain ⟨o, D, h⟩ := rd_ok S hH x h
  cases o with
  | ptr n p t =>
    obtain ⟨kk, T, N, X, e1, o1, ⟨m, x, o2⟩, a', o3, o4⟩ := D
    exact ⟨.inl ⟨_, o4⟩, Done.of (outRef_ok S hH (RefSt.plc0 e1 ⟨o1, m, x, o2, a', o3, o4⟩ (Nat.le_refl _) fun _ => Nat.zero_le _) h)⟩
  | fn g cs =>
    have := outFn_ok S hH D.1 h
    rw [← D.2] at this; exact ⟨.inr ⟨g, D.2⟩, Done.of this⟩
  | data kk _ _ _ _ => cases kk <;> cases h
  | clo _ _ _ _ => cases h
  | cl _ _ => cases h
  | nil => cases h
  | cst _ => cases h
theorem pick_ok (S : St w a e γ I F H Ω) (hH : ∀ n, ¬ H n) {d : Option Nat} {T : Nat} {c x y : Operand} {k : Unit → Env → Option R}
    (h : ((rd (Γ := Γ) c).bind fun oc => (asBool oc).bind fun t => .ite t (moveM d (Γ.ty T) x) (moveM d (Γ.ty T) y)).run O e k = some r) :
    ∃ t, ev a c = .bool t ∧ Done k r w (outP d a (if t then ev a x else ev a y)) I F H := by
  simp only [run_bind] at h
  obtain ⟨o, D, h⟩ := rd_ok S hH c h
  obtain ⟨t, ht, h⟩ := asBool_ok D h
  refine ⟨t, ht, ?_⟩
  rcases run_ite h with ⟨rfl, h⟩ | ⟨rfl, h⟩
  · exact Done.of (moveM_ok S hH h)
  · exact Done.of (moveM_ok S hH h)
theorem unM_ok (S : St w a e γ I F H Ω) (hH : ∀ n, ¬ H n) {d : Option Nat} {op : UnOp} {t : Ty} {x : Operand} {k : Unit → Env → Option R} (h : (unM (Γ := Γ) d op t x).run O e k = some r) :
    ∃ v, (Op.unary op (ev a x)).run P w = .ok v w ∧ Done k r w (outP d a v) I F H := by
  unfold unM at h
  rw [run_bind] at h
  obtain ⟨o, D, h⟩ := rd_ok S hH x h
  split at h
  · rw [run_bind] at h
    obtain ⟨n, hn, h⟩ := asInt_ok D h
    exact ⟨_, by rw [hn]; simp [Op.unary, Op.intArith]; rfl, Done.scal S hH rfl rfl h⟩
  · rw [run_bind] at h
    obtain ⟨n, hn, h⟩ := asBool_ok D h
    exact ⟨_, by rw [hn]; simp [Op.unary]; rfl, Done.scal S hH rfl rfl h⟩
  · cases h
theorem maxM_ok (S : St w a e γ I F H Ω) (hH : ∀ n, ¬ H n) {d : Option Nat} {ts : Array TypeId} {ty : TypeId} {t : Ty} {x y : Operand} {k : Unit → Env → Option R} (h : (maxM (Γ := Γ) d t x y).run O e k = some r) :
    ∃ v, (Builtin.max_ ts ty #[ev a x, ev a y]).run P w = .ok v w ∧ Done k r w (outP d a v) I F H := by
  unfold maxM at h
  simp only [run_bind] at h
  obtain ⟨o, D, h⟩ := rd_ok S hH x h
  obtain ⟨o2, D2, h⟩ := rd_ok S hH y h
  split at h
  · simp only [run_bind] at h
    obtain ⟨n, hn, h⟩ := asInt_ok D h
    obtain ⟨n2, hn2, h⟩ := asInt_ok D2 h
    exact ⟨_, by rw [hn, hn2]; simp [Builtin.max_, Builtin.max2]; rfl, Done.scal S hH rfl rfl h⟩
  · cases h
theorem minM_ok (S : St w a e γ I F H Ω) (hH : ∀ n, ¬ H n) {d : Option Nat} {ts : Array TypeId} {ty : TypeId} {t : Ty} {x y : Operand} {k : Unit → Env → Option R} (h : (minM (Γ := Γ) d t x y).run O e k = some r) :
    ∃ v, (Builtin.min_ ts ty #[ev a x, ev a y]).run P w = .ok v w ∧ Done k r w (outP d a v) I F H := by
  unfold minM at h
  simp only [run_bind] at h
  obtain ⟨o, D, h⟩ := rd_ok S hH x h
  obtain ⟨o2, D2, h⟩ := rd_ok S hH y h
  split at h
  · simp only [run_bind] at h
    obtain ⟨n, hn, h⟩ := asInt_ok D h
    obtain ⟨n2, hn2, h⟩ := asInt_ok D2 h
    exact ⟨_, by rw [hn, hn2]; simp [Builtin.min_, Builtin.min2]; rfl, Done.scal S hH rfl rfl h⟩
  · cases h
theorem tupV_get : ∀ {T : Ty} {m : Md} {X : T.den} {g : G} {i : Nat} {z : Sub}, sub T m X (compAt i) = some z → (tupV T X g)[i]? = some (toV z.t z.x (gsub T g (compAt i)))
  | .one b, m, X, g, 0, z, h => by
    have : z = ⟨b, m, X⟩ := by
      have h0 : sub (.one b) m X (compAt 0) = sub b m X [] := rfl
      rw [h0] at h
      have : sub b m X [] = some ⟨b, m, X⟩ := by cases b <;> rfl
      rw [this] at h; exact (Option.some.inj h).symm
    subst this
    have : gsub (.one b) g (compAt 0) = g := by show gsub b g [] = g; cases b <;> rfl
    rw [this]; rfl
  | .cons b c, m, X, g, 0, z, h => by
    have : z = ⟨b, m.fst, X.1⟩ := by
      have h0 : sub (.cons b c) m X (compAt 0) = sub b m.fst X.1 [] := rfl
      rw [h0] at h
      have : sub b m.fst X.1 [] = some ⟨b, m.fst, X.1⟩ := by cases b <;> rfl
      rw [this] at h; exact (Option.some.inj h).symm
    subst this
    have : gsub (.cons b c) g (compAt 0) = g.fst := by show gsub b g.fst [] = g.fst; cases b <;> rfl
    rw [this]; rfl
  | .cons b c, m, X, g, i + 1, z, h => tupV_get (T := c) (i := i) h
  | .one _, _, _, _, _ + 1, _, h => by cases h
  | .sl _, _, _, _, 0, _, h => by cases h
  | .sl _, _, _, _, _ + 1, _, h => by cases h
  | .int _, _, _, _, 0, _, h => by simp [sub, compAt] at h
  | .int _, _, _, _, _ + 1, _, h => by simp [sub, compAt, List.replicate_succ] at h
  | .bool, _, _, _, 0, _, h => by simp [sub, compAt] at h
  | .bool, _, _, _, _ + 1, _, h => by simp [sub, compAt, List.replicate_succ] at h
  | .str, _, _, _, 0, _, h => by simp [sub, compAt] at h
  | .str, _, _, _, _ + 1, _, h => by simp [sub, compAt, List.replicate_succ] at h
  | .unit, _, _, _, 0, _, h => by simp [sub, compAt] at h
  | .unit, _, _, _, _ + 1, _, h => by simp [sub, compAt, List.replicate_succ] at h
theorem hasAt_comp : ∀ i, hasAt (compAt i) = false
  | 0 => rfl
  | i + 1 => hasAt_comp i
theorem extractM0_ok (S : St w a e γ I F H Ω) (hH : ∀ n, ¬ H n) {d : Option Nat} {x : Operand} {j : Nat} {k : Unit → Env → Option R} (h : (extractM0 (Γ := Γ) j d x).run O e k = some r) :
    ∃ v, (Instr.extract (ev a x) j).run P w = .ok v w ∧ Done k r w (outP d a v) I F H := by
  unfold extractM0 at h
  rw [run_bind] at h
  obtain ⟨o, D, h⟩ := rd_ok S hH x h
  cases o with
  | data kk T m X src =>
    cases kk with
    | tup =>
      obtain ⟨g, hv, M1, M2, src'⟩ := D
      cases src with
      | none => cases h
      | some s =>
        obtain ⟨n, p⟩ := s
        simp only at h
        split at h
        · rename_i z hz
          have W2 : Way T m X g (compAt j) z.t z.m z.x (gsub T g (compAt j)) := way hz (okP_sub hz (hasAt_comp j))
          refine ⟨toV z.t z.x (gsub T g (compAt j)), ?_, ?_⟩
          · rw [hv]
            simp [Instr.extract, tupV_get (g := g) hz]
          · split at h
            · rename_i hf
              exact Done.of (outVal_ok S hH (W2.mem M1).keep (W2.sep M2).1.keep (fun b hb => absurd hb.keep (Own.free hf)) h)
            · simp only [M.run] at h
              obtain ⟨kk, T', N, X', e1, W⟩ := src'
              have W3 := W.trans W2
              refine Done.of (outRef_ok S hH (RefSt.self e1 ⟨W3.ok.1, _, _, sub_mine W3.ok.2.2, ?_⟩) h)
              have hne : ¬ (kk.whole = true ∧ p ++ compAt j = []) := fun c => by
                have := c.2
                simp [compAt] at this
              show _ = if kk.whole = true ∧ p ++ compAt j = [] then _ else _
              rw [if_neg hne, W3.ok.2.1]
        · cases h
    | reg => cases src <;> cases h
    | box => cases src <;> cases h
    | map => cases src <;> cases h
    | pin f => cases src <;> cases h
  | clo _ _ _ _ => cases h
  | cl _ _ => cases h
  | ptr _ _ _ => cases h
  | fn _ _ => cases h
  | nil => cases h
  | cst _ => cases h

theorem flat_free : ∀ {t : Ty} {m : Md}, t.flat = true → t.free m = true
  | .int _, _, _ => rfl
  | .bool, _, _ => rfl
  | .str, _, _ => rfl
  | .unit, _, _ => rfl
  | .sl _, _, h => by cases h
  | .one a, m, h => flat_free (t := a) (m := m) h
  | .cons a b, m, h => by
    simp only [Ty.flat, Bool.and_eq_true] at h
    simp only [Ty.free, Bool.and_eq_true]
    exact ⟨flat_free h.1, flat_free h.2⟩
theorem sub_core : ∀ {T : Ty} {N : Md} {X : T.den} {p : List Step} {z : Sub}, hasAt p = false → sub T N X p = some z → ∀ (N' : Md), ∃ m, sub T N' X p = some ⟨z.t, m, z.x⟩
  | T, N, X, [], z, _, hs, N' => by
    have : z = ⟨T, N, X⟩ := by cases T <;> (simp only [sub, Option.some.injEq] at hs; exact hs.symm)
    subst this
    exact ⟨N', by cases T <;> rfl⟩
  | .one a, N, X, .l :: p, z, hp, hs, N' => sub_core (T := a) (p := p) hp hs N'
  | .cons a b, N, X, .l :: p, z, hp, hs, N' => sub_core (T := a) (p := p) hp hs N'.fst
  | .cons a b, N, X, .r :: p, z, hp, hs, N' => sub_core (T := b) (p := p) hp hs N'.snd
  | .sl e, N, X, .at i :: p, z, hp, _, _ => by cases hp
  | .int _, _, _, _ :: _, _, _, hs, _ => by simp [sub] at hs
  | .bool, _, _, _ :: _, _, _, hs, _ => by simp [sub] at hs
  | .str, _, _, _ :: _, _, _, hs, _ => by simp [sub] at hs
  | .unit, _, _, _ :: _, _, _, hs, _ => by simp [sub] at hs
  | .one _, _, _, .r :: _, _, _, hs, _ => by cases hs
  | .one _, _, _, .at _ :: _, _, hp, _, _ => by cases hp
  | .cons _ _, _, _, .at _ :: _, _, hp, _, _ => by cases hp
  | .sl _, _, _, .l :: _, _, _, hs, _ => by cases hs
  | .sl _, _, _, .r :: _, _, _, hs, _ => by cases hs
theorem extractM_slow {d : Option Nat} {x : Operand} {j : Nat} {k : Unit → Env → Option R} (h : (extractM (Γ := Γ) j d x).run O e k = some r) : (extractM0 (Γ := Γ) j d x).run O e k = some r := by
  unfold extractM at h
  rw [run_bind] at h
  cases x with
  | const v => exact h
  | func f => exact h
  | global g => exact h
  | tmp s =>
    unfold fastX at h
    simp only [M.run] at h
    simp only [Slot.core] at h
    cases hsv : (e.get s).sv with
    | ref q n v sv dv p t =>
      rw [hsv] at h
      simp only at h
      cases q with
      | plc => exact h
      | clo g => exact h
      | ali =>
        cases p with
        | cons _ _ => exact h
        | nil =>
          simp only [M.run] at h
          simp only [Slot.core] at h
          cases hr : (e.get n).sv with
          | val k2 T m X =>
            rw [hr] at h
            simp only at h
            cases k2 with
            | tup =>
              simp only [M.run] at h
              cases hok : refOk .ali [] t v sv dv (⟨(e.get n).ver, (e.get n).sver, (e.get n).dver, .val .tup T .gone X⟩ : Slot) with
              | true =>
                rw [hok] at h
                simp only [cond_true] at h
                cases hz : sub T .gone X (compAt j) with
                | none => rw [hz] at h; exact h
                | some z =>
                  rw [hz] at h
                  simp only at h
                  cases hfl : z.t.flat with
                  | true =>
                    rw [hfl] at h
                    simp only [cond_true] at h
                    obtain ⟨m', hm⟩ := sub_core (hasAt_comp j) hz m
                    have hnil : sub T m X [] = some ⟨T, m, X⟩ := by cases T <;> rfl
                    unfold extractM0
                    rw [run_bind]
                    have hok2 : refOk .ali [] t v sv dv (e.get n) = true := hok
                    simp only [rd, rdSlot, M.run, hsv, hok2, if_true, hr, hnil, VK.whole, hm, flat_free hfl, keep, hfl]
                    exact h
                  | false => rw [hfl] at h; exact h
              | false => rw [hok] at h; exact h
            | reg => exact h
            | box => exact h
            | map => exact h
            | pin _ => exact h
          | no => rw [hr] at h; exact h
          | und => rw [hr] at h; exact h
          | nil => rw [hr] at h; exact h
          | fn _ _ => rw [hr] at h; exact h
          | clo _ _ => rw [hr] at h; exact h
          | ref _ _ _ _ _ _ _ => rw [hr] at h; exact h
    | val k2 T m X => rw [hsv] at h; exact h
    | no => rw [hsv] at h; exact h
    | und => rw [hsv] at h; exact h
    | nil => rw [hsv] at h; exact h
    | fn _ _ => rw [hsv] at h; exact h
    | clo _ _ => rw [hsv] at h; exact h
theorem extractM_ok (S : St w a e γ I F H Ω) (hH : ∀ n, ¬ H n) {d : Option Nat} {x : Operand} {j : Nat} {k : Unit → Env → Option R} (h : (extractM (Γ := Γ) j d x).run O e k = some r) :
    ∃ v, (Instr.extract (ev a x) j).run P w = .ok v w ∧ Done k r w (outP d a v) I F H := extractM0_ok S hH (extractM_slow h)

theorem foldl_push : ∀ (ns : List Int) (l : List UInt8), (ns.foldl (fun r n => ByteArray.push r (UInt8.ofNat n.toNat)) ⟨l.toArray⟩) = ⟨(l ++ ns.map fun n => UInt8.ofNat n.toNat).toArray⟩
  | [], l => by simp
  | n :: ns, l => by
    simp only [List.foldl_cons, List.map_cons]
    have : ByteArray.push ⟨l.toArray⟩ (UInt8.ofNat n.toNat) = ⟨(l ++ [UInt8.ofNat n.toNat]).toArray⟩ := by simp [ByteArray.push]
    rw [this, foldl_push ns]
    simp
theorem toStr_eq (ns : List Int) : ns.foldl (fun r n => ByteArray.push r (UInt8.ofNat n.toNat)) ByteArray.empty = toStr ns := by
  refine (foldl_push ns []).trans ?_
  simp [toStr]
theorem Mem.row_cells {el : Ty} {m : Md} {x : List el.den} {g : G} (h : Mem w I F (.sl el) m x g) (hm : m.row) : g.len = List.length x ∧ ∀ i, i < List.length x → At w g.addr (i * el.size) (cells el (List.getD x i el.dflt) (g.kid i)) := by
  refine ⟨h.1, fun i hi => ?_⟩
  cases m with
  | own me => exact (h.2.2 i (by rw [h.1]; exact hi)).1
  | sh o => exact (h.2.2 i (by rw [h.1]; exact hi)).1
  | pr _ _ => exact hm.elim
  | gone => exact hm.elim
theorem fits_row {el : Ty} {m : Md} (h : (Ty.sl el).fits m = true) : m.row := by
  cases m with
  | own _ => trivial
  | sh _ => trivial
  | pr _ _ => cases h
  | gone => cases h
theorem bytes_run {x : List Int} {m : Md} {g : G} (h : Mem w I F (.sl (.int .u8)) m x g) (hm : m.row) : (Conv.bytesToString (toV (.sl (.int .u8)) x g)).run P w = .ok (.string (toStr x)) w := by
  obtain ⟨hl, hc⟩ := h.row_cells hm
  have hv : toV (.sl (.int .u8)) x g = .slice g.addr g.len g.cap := rfl
  rw [hv]
  cases hg : g.addr with
  | none =>
    have hx : x = [] := by
      cases x with
      | nil => rfl
      | cons y ys =>
        obtain ⟨d, hd, _⟩ := hc 0 (by simp) 0 _ rfl
        rw [hg] at hd; cases hd
    subst hx
    simp [Conv.bytesToString, toStr]
    rfl
  | some ad =>
    have hcell : ∀ j v, (x.map (Value.int .u8))[j]? = some v → w.cell? (ad.add j) = some v := by
      intro j v hj
      rw [List.getElem?_map] at hj
      obtain ⟨n, hn, rfl⟩ := Option.map_eq_some_iff.1 hj
      have hlt := (List.getElem?_eq_some_iff.1 hn).1
      obtain ⟨d, hd, hv⟩ := hc j hlt 0 _ rfl
      rw [hg] at hd
      cases hd
      have e1 : List.getD x j 0 = n := by rw [List.getD_eq_getElem?_getD, hn]; rfl
      have e2 : j * (Ty.int IntKind.u8).size + 0 = j := by simp [Ty.size]
      rw [e2] at hv
      rw [hv]
      exact congrArg (fun z => some (Value.int .u8 z)) e1
    have hload := run_loadCells_list (P := P) w ad _ hcell
    rw [List.length_map] at hload
    rw [hl, run_bytesToString (P := P) w ad _ g.cap x hload, toStr_eq]
theorem convM_ok (S : St w a e γ I F H Ω) (hH : ∀ n, ¬ H n) {T1 T2 : TypeId} {i1 i2 : TInfo} (hT1 : TyOk P T1 i1) (hT2 : TyOk P T2 i2) {d : Option Nat} {x : Operand} {k : Unit → Env → Option R} (h : (convM (Γ := Γ) d i1.ty i2.ty x).run O e k = some r) :
    ∃ v, (convert T1 T2 (ev a x)).run P w = .ok v w ∧ Done k r w (outP d a v) I F H := by
  unfold convM at h
  rw [run_bind] at h
  obtain ⟨o, D, h⟩ := rd_ok S hH x h
  have u1 := hT1.under
  have u2 := hT2.under
  unfold UnderOk at u1 u2
  obtain ⟨t1, f1, b1⟩ := i1
  obtain ⟨t2, f2, b2⟩ := i2
  simp only at h u1 u2
  split at h
  · rw [run_bind] at h
    obtain ⟨n, hn, h⟩ := asInt_ok D h
    exact ⟨_, by rw [hn]; simp [convert, run_underlying u1, run_underlying u2, Conv.intToInt]; rfl, Done.scal S hH rfl rfl h⟩
  · rw [run_bind] at h
    obtain ⟨m, y, src, g, Dd, h⟩ := asData_ok D h
    split at h
    · rename_i hf
      obtain ⟨E, di, hu, hE, _, _, _, _, hel⟩ := u1
      refine ⟨.string (toStr y), ?_, Done.scal S hH rfl rfl h⟩
      have hv := Dd.v
      have hv' : ev a x = .slice g.addr g.len g.cap := hv
      rw [hv', run_convert_bytes_string w T1 T2 E _ _ _ hu hel u2]
      exact bytes_run Dd.mem (fits_row hf)
    · cases h
  · rw [run_bind] at h
    obtain ⟨m, y, src, g, Dd, h⟩ := asData_ok D h
    refine ⟨.string y, ?_, Done.scal S hH rfl rfl h⟩
    have hv := Dd.v
    have hv' : ev a x = .string y := hv
    rw [hv']
    simp [convert, run_underlying u1, run_underlying u2]
  · cases h
theorem indexM_ok (S : St w a e γ I F H Ω) (hH : ∀ n, ¬ H n) {T : TypeId} {i : TInfo} (hT : TyOk P T i) {d : Option Nat} {x ix : Operand} {k : Unit → Env → Option R} (h : (indexM (Γ := Γ) d i.ty x ix).run O e k = some r) :
    ∃ v, (Instr.index T (ev a x) (ev a ix)).run P w = .ok v w ∧ Done k r w (outP d a v) I F H := by
  unfold indexM at h
  have u1 := hT.under
  unfold UnderOk at u1
  obtain ⟨t1, f1, b1⟩ := i
  simp only at h u1
  split at h
  · simp only [run_bind] at h
    obtain ⟨o, D, h⟩ := rd_ok S hH x h
    obtain ⟨m, y, src, g, Dd, h⟩ := asData_ok D h
    obtain ⟨o2, D2, h⟩ := rd_ok S hH ix h
    obtain ⟨n, hn, h⟩ := asInt_ok D2 h
    rcases run_ite h with ⟨hin, h⟩ | ⟨_, h⟩
    · simp only [inside, Bool.and_eq_true, decide_eq_true_eq] at hin
      refine ⟨.int .u8 (bAt y n.toNat), ?_, Done.scal S hH rfl rfl h⟩
      have hv : ev a x = .string y := Dd.v
      rw [hv, hn]
      have hlt : n.toNat < y.size := by omega
      have hg : y[n.toNat]? = some y[n.toNat] := getElem?_pos y n.toNat hlt
      have hb : bAt y n.toNat = (y[n.toNat].toNat : Int) := by
        have hd : y.data.toList[n.toNat]? = some (y.data.toList[n.toNat]'(by simpa using hlt)) := List.getElem?_eq_getElem _
        unfold bAt
        rw [List.getD_eq_getElem?_getD, hd]
        simp only [Option.getD_some, Array.getElem_toList]
        rfl
      simp [Instr.index, asIntOf, run_underlying u1, hin.1, hg, hb]
    · cases h
  · cases h
end
end Go.Den
/-
  Operations that make blocks and write into them.
-/
namespace Go.Den
open Go
set_option linter.unusedVariables false
set_option linter.unusedSimpArgs false

theorem dflt_ok {w : World} {I F : Nat → Prop} : ∀ (t : Ty), Mem w I F t t.mine t.dflt .lf ∧ Sep t t.mine .lf ∧ ∀ b, ¬ Own t t.mine .lf b
  | .int _ => ⟨trivial, trivial, fun b => id⟩
  | .bool => ⟨trivial, trivial, fun b => id⟩
  | .str => ⟨trivial, trivial, fun b => id⟩
  | .unit => ⟨trivial, trivial, fun b => id⟩
  | .one a => dflt_ok a
  | .cons a b => by
    obtain ⟨h1, h2, h3⟩ := dflt_ok (w := w) (I := I) (F := F) a
    obtain ⟨k1, k2, k3⟩ := dflt_ok (w := w) (I := I) (F := F) b
    exact ⟨⟨h1, k1⟩, ⟨h2, k2, fun q hq => absurd hq (h3 q)⟩, fun q hq => hq.elim (h3 q) (k3 q)⟩
  | .sl e => ⟨⟨rfl, .inl ⟨rfl, rfl, rfl⟩, fun i hi => absurd hi (Nat.not_lt_zero _)⟩,
      ⟨fun i hi => absurd hi (Nat.not_lt_zero _), fun i j b hi => absurd hi (Nat.not_lt_zero _), fun a i ha => by cases ha⟩, by
        rintro b (⟨a, ha, _⟩ | ⟨i, hi, _⟩)
        · cases ha
        · exact absurd hi (Nat.not_lt_zero _)⟩
theorem sub_wr : ∀ {T : Ty} {N : Md} {X : T.den} {p : List Step} {z : Sub}, wr T N p = true → sub T T.mine X p = some z → ∃ m, sub T N X p = some ⟨z.t, m, z.x⟩
  | T, N, X, [], z, hw, hs => by
    have : z = ⟨T, T.mine, X⟩ := by cases T <;> (simp only [sub, Option.some.injEq] at hs; exact hs.symm)
    subst this
    exact ⟨N, by cases T <;> rfl⟩
  | .one a, N, X, .l :: p, z, hw, hs => sub_wr (T := a) hw hs
  | .cons a b, N, X, .l :: p, z, hw, hs => sub_wr (T := a) hw hs
  | .cons a b, N, X, .r :: p, z, hw, hs => sub_wr (T := b) hw hs
  | .sl e, N, X, .at i :: p, z, hw, hs => by
    cases N with
    | own me => exact sub_wr (T := e) (N := me) hw hs
    | _ => cases hw
  | .int _, _, _, _ :: _, _, _, hs => by simp [sub] at hs
  | .bool, _, _, _ :: _, _, _, hs => by simp [sub] at hs
  | .str, _, _, _ :: _, _, _, hs => by simp [sub] at hs
  | .unit, _, _, _ :: _, _, _, hs => by simp [sub] at hs
  | .one _, _, _, .r :: _, _, _, hs => by cases hs
  | .one _, _, _, .at _ :: _, _, _, hs => by cases hs
  | .cons _ _, _, _, .at _ :: _, _, _, hs => by cases hs
  | .sl _, _, _, .l :: _, _, _, hs => by cases hs
  | .sl _, _, _, .r :: _, _, _, hs => by cases hs

section
variable {P : Program} {Γ : Ctx} {O : Fun Γ} {R : Type} {w w' : World} {a : Nat → Value} {e : Env} {γ : Nat → Gs} {I F H Ω : Nat → Prop} {r : R}

theorem St.fresh (S : St w a e γ I F H Ω) (o : Obj) : St (w.alloc o) a e γ I F H (fun b => Ω b ∨ b = w.heap.size) := by
  have S' := S.frame (w' := w.alloc o) (by simp) fun b hb _ => heap_alloc_old w o b hb
  refine ⟨S'.slot, S'.ref, S'.sep, fun n b hn h k => k.elim (S'.flt n b hn h) fun k => ?_, S'.lv, fun b h => h.elim (S'.lvΩ b) fun h => ⟨S.new b (by omega), fun k => ?_, by simp; omega⟩, S'.imm, S'.new, S'.fn⟩
  · have := (S.lv n b hn h).2.2; omega
  · have := S.imm b k; omega
theorem Wk.alloc (I F : Nat → Prop) (w : World) (o : Obj) : Wk I F w (w.alloc o) := ⟨rfl, rfl, rfl, by simp, Nat.le_refl _, fun b hb _ => heap_alloc_old w o b hb⟩
theorem Wk.row (I F : Nat → Prop) (w : World) (b : Nat) (C : Array Value) (h : F b) (hI : ¬ I b) : Wk I F w (w.setRow b C) :=
  ⟨rfl, rfl, rfl, by simp, Nat.le_refl _, fun k _ hk => setRow_other w b k C fun c => hk.elim (fun k => hI (c ▸ k)) fun k => k (c ▸ h)⟩

theorem newVar_run {T : TypeId} {i : TInfo} {x : i.ty.den} {g : G} : (newVar T (toV i.ty x g)).run P w = .ok ⟨w.heap.size, 0, none⟩ (w.alloc (.cells (toV i.ty x g).cells T)) := by
  simp [newVar, newRow]
theorem At.new {w : World} {T : TypeId} {t : Ty} {x : t.den} {g : G} : At (w.alloc (.cells (toV t x g).cells T)) (some ⟨w.heap.size, 0, none⟩) 0 (cells t x g) := by
  rw [At.blk (heap_alloc_new w _)]
  intro j v hj
  rw [Nat.zero_add, ← hj, ← toV_cells, Array.getElem?_toList]
/-- a box with data in flight -/
theorem SlotOk.box {ad : Addr} {C : Array Value} {te : TypeId} {t : Ty} {m : Md} {x : t.den} {g : G} {z : Slot} (hz : z.sv = .val .box t m x) (hs : ad.spot = none) (hC : w.heap[ad.block]? = some (.cells C te (0, 0))) (hat : At w (some ad) 0 (cells t x g))
    (hn : ¬ Own t m g ad.block) (M : Mem w I F t m x g) (Sp : Sep t m g) : SlotOk w I F z (.pointer (some ad)) ⟨some ad, g⟩ := by
  unfold SlotOk
  rw [hz]
  exact ⟨rfl, M, Sp, ad, C, te, rfl, hs, hC, hat, hn⟩
theorem OwnS.box {z : Slot} {t : Ty} {m : Md} {x : t.den} {γ : Gs} {b : Nat} (hz : z.sv = .val .box t m x) (h : OwnS z γ b) : (∃ a, γ.b = some a ∧ a.block = b) ∨ Own t m γ.g b := by
  unfold OwnS at h
  rw [hz] at h
  exact h
theorem allocM_ok (S : St w a e γ I F H Ω) (hH : ∀ n, ¬ H n) {T : TypeId} {i : TInfo} (hT : TyOk P T i) {d : Option Nat} {k : Unit → Env → Option R} (h : (allocM (Γ := Γ) d i.ty).run O e k = some r) :
    ∃ v w', (Instr.alloc T true (.tuple #[])).run P w = .ok v w' ∧ Wk I F w w' ∧ Done k r w' (outP d a v) I F H := by
  obtain ⟨h1, h2, h3⟩ := dflt_ok (w := w.alloc (.cells (toV i.ty i.ty.dflt .lf).cells T)) (I := I) (F := F) i.ty
  refine ⟨.pointer (some ⟨w.heap.size, 0, none⟩), w.alloc (.cells (toV i.ty i.ty.dflt .lf).cells T), ?_, Wk.alloc _ _ _ _, Done.of (out_ok (S.fresh _) hH (γ' := ⟨some ⟨w.heap.size, 0, none⟩, .lf⟩) (fun z hz => SlotOk.box hz rfl (heap_alloc_new _ _) At.new (h3 _) h1 h2) (fun z hz b hb => ?_) (fun _ _ _ _ _ _ _ c => by cases c) h)⟩
  · simp [Instr.alloc, zeroValue_run hT, newVar_run (P := P) (w := w) (T := T) (i := i)]
  · rcases hb.box hz with ⟨a, ha, rfl⟩ | hb
    · cases ha; exact .inr rfl
    · exact absurd hb (h3 b)
theorem boxM_ok (S : St w a e γ I F H Ω) (hH : ∀ n, ¬ H n) {T : TypeId} {i : TInfo} (hT : TyOk P T i) {gv : Bool} {d : Option Nat} {x : Operand} {k : Unit → Env → Option R} (h : (boxM (Γ := Γ) gv d i.ty x).run O e k = some r) :
    ∃ v w', (Instr.box T (ev a x)).run P w = .ok v w' ∧ Wk I F w w' ∧ Done k r w' (outP d a v) I F H := by
  unfold boxM at h
  simp only [run_bind] at h
  obtain ⟨o, D, h⟩ := rd_ok S hH x h
  obtain ⟨m, y, src, g, Dd, h⟩ := asData_ok D h
  cases d with
  | none => cases h
  | some d =>
    simp only at h
    rw [run_bind] at h
    obtain ⟨m', e', I', Ω', h, HD⟩ := handOver_ok S hH Dd.mem Dd.sep Dd.src h
    rw [run_bind] at h
    have S1 := HD.st.fresh (.cells (toV i.ty y g).cells T)
    have hsz : ∀ b, Own i.ty m' g b → b < w.heap.size := fun b hb => (HD.st.lvΩ b (HD.own b hb).1).2.2
    have M1 : Mem (w.alloc (.cells (toV i.ty y g).cells T)) I' F i.ty m' y g := HD.mem.frame fun b hb => heap_alloc_old _ _ _ (hb.elim (hsz b) (HD.st.imm b))
    obtain ⟨ve, h, S2⟩ := newSv_ok S1 hH (d := d) (γ' := ⟨some ⟨w.heap.size, 0, none⟩, g⟩) (v := .pointer (some ⟨w.heap.size, 0, none⟩))
      (fun z hz => SlotOk.box hz rfl (heap_alloc_new _ _) At.new (fun c => by have := hsz _ c; simp only at this; omega) M1 HD.sep)
      (fun z hz b hb => by
        rcases hb.box hz with ⟨a, ha, rfl⟩ | hb
        · cases ha; exact .inr rfl
        · exact .inl (HD.own b hb).1) (fun _ _ _ _ _ _ _ c => by cases c) h
    refine ⟨.pointer (some ⟨w.heap.size, 0, none⟩), w.alloc (.cells (toV i.ty y g).cells T), ?_, Wk.alloc _ _ _ _, ?_⟩
    · rw [Dd.v]; simp [Instr.box, newVar_run (P := P) (w := w) (T := T) (i := i)]
    have hI' : ∀ b, I' b → I b ∨ F b := fun b hb => (HD.new b hb).imp id (·.1)
    split at h
    · exact Done.of' ⟨_, _, h, S2.drop fun _ k => k.elim⟩ HD.imm hI'
    · refine Done.of' (aliasTo_ok S2 hH (kk := .box) (m' := m') (x := y) (by rw [get_set_self]) rfl ?_ h) HD.imm hI'
      intro j hj hs ⟨t', m'', x', hq'⟩
      rw [upd_self, upd_ne _ _ hj]
      rw [get_set_ne _ _ hj] at hq'
      have hsrc := Dd.src
      rw [hs] at hsrc
      obtain ⟨kk, T', N, X, e1, W⟩ := hsrc
      have hkk : kk = .reg := by
        rcases HD.md j with c | ⟨_, _, _, _, _, _, _, _, c1, c2⟩
        · rw [c, e1] at hq'; cases hq'; rfl
        · rw [c1] at e1; cases e1; rw [c2] at hq'; cases hq'; rfl
      subst hkk
      obtain ⟨h1, _, _⟩ := (S.slot j (hH j)).valMem e1
      obtain ⟨e0, e0'⟩ := W.nil_eq
      cases e0
      subst e0'
      exact h1
/-- a place that may be written lies in a block of one's own -/
theorem Way.blk {T : Ty} {N : Md} {X : T.den} {g : G} {p : List Step} {t : Ty} {m : Md} {x : t.den} {h : G} (W : Way T N X g p t m x h) (hw : wr T N p = true) (M : Mem w I F T N X g) :
    ∀ {c : Option Addr}, (∀ d, c = some d → d.spot = none ∧ ∃ C te, w.heap[d.block]? = some (.cells C te (0, 0))) → ∀ ad, place T g c p = some ad → ad.spot = none ∧ ∃ C te, w.heap[ad.block]? = some (.cells C te (0, 0)) := by
  induction W with
  | @nil T N X g => intro c hc ad ha; refine hc ad ?_; cases T <;> exact ha
  | one _ ih => exact fun hc => ih hw M hc
  | l _ ih => exact fun hc => ih hw M.1 hc
  | r _ ih =>
    intro c hc
    refine ih hw M.2 fun d hd => ?_
    cases c with
    | none => cases hd
    | some c =>
      simp only [Option.map_some, Option.some.injEq] at hd
      subst hd
      obtain ⟨h1, h2⟩ := hc c rfl
      refine ⟨?_, by rw [Addr.add_block]; exact h2⟩
      unfold Addr.add; split <;> simp [h1]
  | @own el me X g i p t m x h hi _ ih =>
    intro c hc
    refine ih hw (M.2.2 i hi).2 fun d hd => ?_
    rcases M.2.1 with ⟨h1, h2, _⟩ | ⟨b, o, C, te, ha, hC, _⟩
    · rw [h1] at hd; cases hd
    · rw [ha] at hd
      simp only [Option.map_some, Option.some.injEq] at hd
      subst hd
      rw [Addr.add_mk]
      exact ⟨rfl, C, te, hC⟩
  | sh _ _ _ => cases hw
/-- cells are written where cells lie -/
theorem store_run {ad : Addr} (hs : ad.spot = none) {C : Array Value} {te : TypeId} (hC : w.heap[ad.block]? = some (.cells C te (0, 0))) {old cs : List Value} (hat : At w (some ad) 0 old) (hl : cs.length = old.length) (h0 : 0 < cs.length) (h1 : ∀ v ∈ cs, v.oneCell' = true) :
    ∃ C', (storeCells ad cs).run P w = .ok () (w.setRow ad.block C') ∧ Rep w (w.setRow ad.block C') ad cs := by
  obtain ⟨b, o, sp⟩ := ad
  simp only at hs hC
  subst hs
  rw [At.blk hC] at hat
  have hfit : o + cs.length ≤ C.size := by
    have := hat (cs.length - 1) (old[cs.length - 1]'(by omega)) (List.getElem?_eq_getElem _)
    have := (Array.getElem?_eq_some_iff.1 this).1
    omega
  have hr := run_storeCells_at P b o te cs 0 C w hC (by simpa using hfit) h1
  simp only [Nat.add_zero] at hr
  refine ⟨_, hr, rfl, C, _, te, (0, 0), hC, setRow_heap w b C _ te _ hC, ?_, fun j v hj => ?_, fun k hk => ?_⟩
  · simp only [List.size_toArray, List.length_append, List.length_take, List.length_drop, Array.length_toList]
    omega
  · have hj' := (List.getElem?_eq_some_iff.1 hj).1
    simp only [List.getElem?_toArray]
    rw [List.append_assoc, List.getElem?_append_right (by simp; omega), List.getElem?_append_left (by simp; omega)]
    simp only [List.length_take, Array.length_toList]
    rw [← hj]
    congr 1
    omega
  · simp only [List.getElem?_toArray]
    simp only at hk
    rcases hk with hk | hk
    · rw [List.append_assoc, List.getElem?_append_left (by simp; omega), List.getElem?_take]
      simp [hk]
    · rw [List.getElem?_append_right (by simp; omega), List.getElem?_drop]
      simp only [List.length_append, List.length_take, Array.length_toList, Array.getElem?_toList]
      congr 1
      omega
end
end Go.Den
/-
  The store.
-/
namespace Go.Den
open Go
set_option linter.unusedVariables false
set_option linter.unusedSimpArgs false
section
variable {P : Program} {Γ : Ctx} {O : Fun Γ} {R : Type} {w w' : World} {a : Nat → Value} {e : Env} {γ : Nat → Gs} {I F H Ω : Nat → Prop} {r : R}

/-- data in flight are written at a place of a slot -/
theorem store_at (S : St w a e γ I F H Ω) (hH : ∀ n, ¬ H n) {n : Nat} {ve s dv : Nat} {kk : VK} (hl : kk.lent = false) {T : Ty} {N : Md} {X : T.den} (hq : e.get n = ⟨ve, s, dv, .val kk T N X⟩)
    {p : List Step} {t : Ty} {m : Md} {x : t.den} {h : G} (W : Way T N X (γ n).g p t m x h) {ad : Addr} (hpl : place T (γ n).g (γ n).b p = some ad) (h0 : 0 < t.size)
    {x' : t.den} {m' : Md} {h' : G} (M' : Mem w I F t m' x' h') (S' : Sep t m' h') (hO : ∀ b, Own t m' h' b → Ω b) {X' : T.den} (hX : put T X p t x' = some X') {N' : Md} (hN : MdR T N p m' N')
    (hfl : t.flat = true ∨ True) :
    ∃ w', (storeCells ad (cells t x' h')).run P w = .ok () w' ∧ Wk I F w w' ∧
      (t.flat = true → N' = N → St w' a (e.set n ⟨ve, s, if hasAt p then dv else dv + 1, .val kk T N' X'⟩) (upd γ n ⟨(γ n).b, gput T (γ n).g p h'⟩) I F H (fun _ => False)) ∧
      St w' a (e.set n ⟨ve, s + 1, 0, .val kk T N' X'⟩) (upd γ n ⟨(γ n).b, gput T (γ n).g p h'⟩) I F H (fun _ => False) := by
  have slot := S.slot n (hH n)
  rw [hq] at slot
  obtain ⟨v1, v2, v3, v4⟩ := slot
  have own : ∀ b, Own T N (γ n).g b → OwnS (e.get n) (γ n) b := fun b hb => by rw [hq, OwnS.val]; exact .inr hb
  have hw := hN.wr'
  -- the box, if there is one
  have hbox : ∀ d, (γ n).b = some d → kk = .box ∧ d.spot = none ∧ (∃ C te, w.heap[d.block]? = some (.cells C te (0, 0))) ∧ At w (some d) 0 (cells T X (γ n).g) ∧ ¬ Own T N (γ n).g d.block := fun d hd => by
    cases kk with
    | box =>
      obtain ⟨a', C, te, ha, hs, hC, hat, hno⟩ := v4
      rw [hd] at ha; cases ha
      rw [hd] at hat
      exact ⟨rfl, hs, ⟨C, te, hC⟩, hat, hno⟩
    | reg => rw [hd] at v4; cases v4
    | tup => rw [hd] at v4; cases v4
    | map => cases hl
    | pin f => cases hl
  have hcont : hasAt p = true ∨ At w (γ n).b 0 (cells T X (γ n).g) := by
    cases hp : hasAt p with
    | true => exact .inl rfl
    | false =>
      rw [(W.ofs hp).2.1] at hpl
      cases hb : (γ n).b with
      | none => rw [hb] at hpl; cases hpl
      | some d => exact .inr (hbox d hb).2.2.2.1
  have hat := W.at v2 hcont
  rw [hpl] at hat
  obtain ⟨hsp, C, te, hC⟩ := W.blk hw v2 (fun d hd => ⟨(hbox d hd).2.1, (hbox d hd).2.2.1⟩) ad hpl
  obtain ⟨C', hrun, hrep⟩ := store_run (P := P) hsp hC hat (by rw [cells_len, cells_len]) (by rw [cells_len]; exact h0) (cells_one t x' h')
  -- the block that is written is the slot's own
  have hadS : OwnS (e.get n) (γ n) ad.block := by
    rcases W.target hw _ ad hpl with ⟨_, h1⟩ | ⟨_, d, h1, h2⟩
    · exact own _ ((W.own_iff _).2 (.inl h1))
    · subst h2
      rw [hq, OwnS.val]
      exact .inl (.inl ⟨(hbox d h1).1, d, h1, by rw [Addr.add_block]⟩)
  obtain ⟨hF, hnI, hlt⟩ := S.lv n _ (hH n) hadS
  have hnΩ : ¬ Ω ad.block := S.flt n _ (hH n) hadS
  have hheap : ∀ b, b ≠ ad.block → (w.setRow ad.block C').heap[b]? = w.heap[b]? := fun b hb => setRow_other w _ _ _ hb
  have M'' : Mem (w.setRow ad.block C') I F t m' x' h' := M'.frame fun b hb => hheap b fun c => by
    subst c
    exact hb.elim (fun hb => hnΩ (hO _ hb)) hnI
  obtain ⟨R1, R2, R3, R4, R5⟩ := W.repl M'' S' (fun b hb => hheap b fun c => hnI (c ▸ hb)) (c := (γ n).b) v2 v3 hX hN
    (fun b hb k => S.flt n b (hH n) (own b ((W.own_iff b).2 (.inl k))) (hO b hb))
    (fun b hb k => hheap b fun c => k ad hpl c.symm) (fun d hd => by rw [hpl] at hd; cases hd; exact hrep) (fun d hd => (hbox d hd).2.2.2.2)
  -- what the slot holds now
  have hslot : ∀ z : Slot, z.sv = .val kk T N' X' → SlotOk (w.setRow ad.block C') I F z (a n) ⟨(γ n).b, gput T (γ n).g p h'⟩ := fun z hz => by
    unfold SlotOk
    rw [hz]
    refine ⟨?_, R1, R2, ?_⟩
    · rw [v1]
      cases kk with
      | map => cases hl
      | pin f => cases hl
      | box => rfl
      | reg =>
        have hp : hasAt p = true := by
          cases hp : hasAt p with
          | true => rfl
          | false => rw [(W.ofs hp).2.1, show (γ n).b = none from v4] at hpl; cases hpl
        exact toV_congr (R4 hp).symm
      | tup =>
        have hp : hasAt p = true := by
          cases hp : hasAt p with
          | true => rfl
          | false => rw [(W.ofs hp).2.1, show (γ n).b = none from v4] at hpl; cases hpl
        simp only [kV]
        rw [tupV_congr (R4 hp).symm]
    · cases kk with
      | map => cases hl
      | pin f => cases hl
      | reg => exact v4
      | tup => exact v4
      | box =>
        obtain ⟨d, Cd, ted, hd, hsd, hCd, hatd, hnod⟩ := v4
        have hno' : ¬ Own T N' (gput T (γ n).g p h') d.block := fun k => by
          rcases R3 _ k with k | k
          · exact hnod ((W.own_iff _).2 (.inl k))
          · refine S.flt n d.block (hH n) ?_ (hO _ k)
            rw [hq, OwnS.val]; exact .inl (.inl ⟨rfl, d, hd, rfl⟩)
        cases hp : hasAt p with
        | true =>
          have hne : d.block ≠ ad.block := fun c => by
            rcases W.target hw _ ad hpl with ⟨_, h1⟩ | ⟨h1, _⟩
            · exact hnod (c ▸ (W.own_iff _).2 (.inl h1))
            · rw [hp] at h1; cases h1
          refine ⟨d, Cd, ted, hd, hsd, by rw [hheap _ hne]; exact hCd, ?_, hno'⟩
          rw [R4 hp]
          exact hatd.frame fun d' hd' => by rw [hd] at hd'; cases hd'; exact hheap _ hne
        | false =>
          have hpl' := hpl
          rw [(W.ofs hp).2.1, hd] at hpl'
          simp only [Option.map_some, Option.some.injEq] at hpl'
          obtain ⟨db, do_, ds⟩ := d
          simp only at hsd
          subst hsd
          rw [Addr.add_mk] at hpl'
          subst hpl'
          obtain ⟨_, C1, C2, te2, fz, hC1, hC2, hsz, hin, hout⟩ := hrep
          simp only at hC1 hC2 hin hout
          rw [hCd] at hC1
          cases hC1
          refine ⟨_, C2, ted, hd, rfl, hC2, ?_, hno'⟩
          simp only [hd]
          rw [hd, At.blk hCd] at hatd
          rw [At.blk hC2]
          intro j v hj
          by_cases hr : ofs T p ≤ j ∧ j < ofs T p + t.size
          · rw [(R5 hp j).1 hr.1 hr.2] at hj
            have := hin _ _ hj
            rw [← this]
            congr 1; omega
          · rw [(R5 hp j).2 (by omega)] at hj
            rw [hout _ (by rw [cells_len]; omega)]
            exact hatd j v hj
  have hown : ∀ z : Slot, z.sv = .val kk T N' X' → ∀ b, OwnS z ⟨(γ n).b, gput T (γ n).g p h'⟩ b → Ω b ∨ OwnS (e.get n) (γ n) b := fun z hz b hb => by
    obtain ⟨z1, z2, z3, z4⟩ := z
    simp only at hz
    subst hz
    rw [OwnS.val] at hb
    rcases hb with hb | hb
    · obtain ⟨hk, d, hd, rfl⟩ := hb.box hl
      right; rw [hq, OwnS.val]; exact .inl (.inl ⟨hk, d, hd, rfl⟩)
    · rcases R3 b hb with k | k
      · exact .inr (own b ((W.own_iff b).2 (.inl k)))
      · exact .inl (hO b k)
  have So := S.opened n (hH n)
  have Sf := So.frame (w' := w.setRow ad.block C') (by simp) fun b hb hk => hheap b fun c => by
    subst c
    rcases hk with ⟨j, hj, hk⟩ | hk
    · exact S.sep j n _ (hH j) (hH n) (fun c => hj (.inr c)) hk hadS
    · exact hnI hk
  have fin : ∀ z : Slot, z.sv = .val kk T N' X' → (∀ k v s d p t y, RefSt (e.get n) (γ n) k v s d p t y → RefSt z ⟨(γ n).b, gput T (γ n).g p h'⟩ k v s d p t y) → True := fun _ _ _ => trivial
  refine ⟨_, hrun, Wk.row I F w _ _ hF hnI, fun hf hNN => ?_, ?_⟩
  · have hc := Sf.closed (r := n) (.inr rfl) (hslot ⟨ve, s, if hasAt p then dv else dv + 1, .val kk T N' X'⟩ rfl) rfl (hown ⟨ve, s, if hasAt p then dv else dv + 1, .val kk T N' X'⟩ rfl) (fun k v s' d p' t' y hr => by
      rw [hq] at hr
      refine hr.shallow rfl (W.simPut (Sim.flat hf)) ?_ hl
      cases hp : hasAt p with
      | true => exact .inr ⟨rfl, R4 hp⟩
      | false => exact .inl rfl) (fun _ _ _ _ _ _ _ c => by cases c)
    exact (hc.holes fun j hj => hj.1.elim id fun k => absurd k hj.2).drop fun _ k => k.elim
  · have hc := Sf.closed (r := n) (.inr rfl) (hslot ⟨ve, s + 1, 0, .val kk T N' X'⟩ rfl) rfl (hown ⟨ve, s + 1, 0, .val kk T N' X'⟩ rfl) (fun k v s' d p' t' y hr => by
      rw [hq] at hr
      exact hr.deep rfl) (fun _ _ _ _ _ _ _ c => by cases c)
    exact (hc.holes fun j hj => hj.1.elim id fun k => absurd k hj.2).drop fun _ k => k.elim

theorem storeM_ok (S : St w a e γ I F H Ω) (hH : ∀ n, ¬ H n) {T : TypeId} {i : TInfo} (hT : TyOk P T i) {gv : Bool} {x y : Operand} {k : Unit → Env → Option R} (h : (storeM (Γ := Γ) gv i.ty x y).run O e k = some r) :
    ∃ w', (Instr.storeAt T (ev a x) (ev a y)).run P w = .ok () w' ∧ Wk I F w w' ∧ Done k r w' a I F H := by
  unfold storeM at h
  rw [run_bind] at h
  obtain ⟨o, D, h⟩ := rd_ok S hH x h
  cases o with
  | ptr n p t =>
    simp only at h
    split at h
    · rename_i hc
      simp only [Bool.and_eq_true, decide_eq_true_eq] at hc
      obtain ⟨ht, h0⟩ := hc
      subst ht
      simp only [run_bind] at h
      obtain ⟨o2, D2, h⟩ := rd_ok S hH y h
      obtain ⟨m, z, src, g, Dd, h⟩ := asData_ok D2 h
      obtain ⟨m', e', I', Ω', h, HD⟩ := handOver_ok S hH Dd.mem Dd.sep Dd.src h
      obtain ⟨kk, T', N, X, e1, o1, ⟨m0, x0, o2'⟩, ad, o3, o4⟩ := D.md HD.md
      simp only [M.run] at h
      generalize hq : e'.get n = q at h e1
      obtain ⟨ve, s, dv, q⟩ := q
      simp only at e1
      subst e1
      simp only at h
      split at h
      · rename_i hw
        simp only [Bool.and_eq_true, Bool.not_eq_true'] at hw
        obtain ⟨hw, hlent⟩ := hw
        rw [run_bind] at h
        obtain ⟨X', hX, h⟩ := run_ofOpt h
        obtain ⟨m1, hs1⟩ := sub_wr hw o2'
        have W := way hs1 o1
        have hI' : ∀ b, I' b → I b ∨ F b := fun b hb => (HD.new b hb).imp id (·.1)
        have hrun : ∀ w', (storeCells ad (cells i.ty z g)).run P w = .ok () w' → (Instr.storeAt T (ev a x) (ev a y)).run P w = .ok () w' := fun w' hr => by
          rw [o4, Dd.v]
          have hsz : (toV i.ty z g).cells.size = i.ty.size := by rw [← Array.length_toList, toV_cells, cells_len]
          simp [Instr.storeAt, Instr.sureAddr, storeVar, sizeOf_run hT, hsz, toV_cells, hr]
        split at h
        · rename_i hf
          obtain ⟨w', r1, r2, r3, _⟩ := store_at (P := P) HD.st hH hlent hq W o3 h0 (m' := m1) (Mem.flat hf) (Sep.flat hf) (fun b hb => absurd hb (Own.flat hf)) (h' := g) hX (W.mdR hw) (.inr trivial)
          exact ⟨w', hrun w' r1, r2.mono HD.imm, Done.of' ⟨_, _, h, r3 hf rfl⟩ HD.imm hI'⟩
        · rw [run_bind] at h
          obtain ⟨N', hN', h⟩ := run_ofOpt h
          obtain ⟨w', r1, r2, _, r3⟩ := store_at (P := P) HD.st hH hlent hq W o3 h0 HD.mem HD.sep (fun b hb => (HD.own b hb).1) hX (mdPut_R hN') (.inr trivial)
          exact ⟨w', hrun w' r1, r2.mono HD.imm, Done.of' ⟨_, _, h, r3⟩ HD.imm hI'⟩
      · cases h
    · cases h
  | data k' _ _ _ _ => cases k' <;> cases h
  | clo _ _ _ _ => cases h
  | cl _ _ => cases h
  | fn _ _ => cases h
  | nil => cases h
  | cst _ => cases h
end
end Go.Den
/-
  Rows: made, grown, cut.
-/
namespace Go.Den
open Go
set_option linter.unusedVariables false
set_option linter.unusedSimpArgs false

/-- a row's cells, one behind the other -/
def rowC (e : Ty) (x : List e.den) (K : Nat → G) (n : Nat) : List Value := (List.range n).flatMap fun i => cells e (List.getD x i e.dflt) (K i)
theorem rowC_succ (e : Ty) (x : List e.den) (K : Nat → G) (n : Nat) : rowC e x K (n + 1) = rowC e x K n ++ cells e (List.getD x n e.dflt) (K n) := by simp [rowC, List.range_succ]
theorem rowC_len (e : Ty) (x : List e.den) (K : Nat → G) : ∀ n, (rowC e x K n).length = n * e.size
  | 0 => by simp [rowC]
  | n + 1 => by rw [rowC_succ, List.length_append, rowC_len e x K n, cells_len, Nat.add_mul, Nat.one_mul]
theorem rowC_get {e : Ty} {x : List e.den} {K : Nat → G} : ∀ {n i j : Nat}, i < n → j < e.size → (rowC e x K n)[i * e.size + j]? = (cells e (List.getD x i e.dflt) (K i))[j]?
  | 0, i, j, h, _ => by omega
  | n + 1, i, j, h, hj => by
    rw [rowC_succ]
    by_cases hi : i < n
    · have h1 : (i + 1) * e.size ≤ n * e.size := Nat.mul_le_mul_right _ hi
      rw [Nat.add_mul] at h1
      rw [List.getElem?_append_left (by rw [rowC_len]; omega)]
      exact rowC_get hi hj
    · have : i = n := by omega
      subst this
      rw [List.getElem?_append_right (by rw [rowC_len]; omega), rowC_len]
      congr 1; omega
theorem rowC_one {e : Ty} {x : List e.den} {K : Nat → G} {n : Nat} : ∀ v ∈ rowC e x K n, v.oneCell' = true := by
  intro v hv
  simp only [rowC, List.mem_flatMap] at hv
  obtain ⟨i, _, hv⟩ := hv
  exact cells_one e _ _ v hv
theorem At_row {w : World} {a : Option Addr} {o : Nat} {e : Ty} {x : List e.den} {K : Nat → G} {n : Nat} : (∀ i, i < n → At w a (o + i * e.size) (cells e (List.getD x i e.dflt) (K i))) ↔ At w a o (rowC e x K n) := by
  constructor
  · induction n with
    | zero => intro h j v hj; simp [rowC] at hj
    | succ n ih =>
      intro h
      rw [rowC_succ, At.append, rowC_len]
      exact ⟨ih fun i hi => h i (by omega), h n (by omega)⟩
  · intro h i hi
    induction n with
    | zero => omega
    | succ n ih =>
      rw [rowC_succ, At.append, rowC_len] at h
      by_cases hin : i < n
      · exact ih h.1 hin
      · have : i = n := by omega
        subst this; exact h.2
theorem fm_congr {α β : Type} {f g : α → List β} : ∀ (l : List α), (∀ i ∈ l, f i = g i) → l.flatMap f = l.flatMap g
  | [], _ => rfl
  | a :: l, h => by simp only [List.flatMap_cons]; rw [h a (by simp), fm_congr l fun i hi => h i (by simp [hi])]
theorem rowC_append {e : Ty} {x y : List e.den} {K L : Nat → G} {m : Nat} : rowC e (x ++ y) (fun i => if i < List.length x then K i else L (i - List.length x)) (List.length x + m) = rowC e x K (List.length x) ++ rowC e y L m := by
  unfold rowC
  rw [List.range_add, List.flatMap_append, List.flatMap_map]
  congr 1
  · apply fm_congr
    intro i hi
    have hi' := List.mem_range.1 hi
    simp [hi', List.getD_eq_getElem?_getD, List.getElem?_append_left hi']
  · apply fm_congr
    intro i _
    have h1 : ¬ (List.length x + i < List.length x) := by omega
    have h2 : List.getD (x ++ y) (List.length x + i) e.dflt = List.getD y i e.dflt := by
      rw [List.getD_eq_getElem?_getD, List.getElem?_append_right (by omega), List.getD_eq_getElem?_getD]
      congr 2; omega
    show cells e (List.getD (x ++ y) (List.length x + i) e.dflt) (if List.length x + i < List.length x then K (List.length x + i) else L (List.length x + i - List.length x)) = cells e (List.getD y i e.dflt) (L i)
    rw [if_neg h1, h2, Nat.add_sub_cancel_left]

section
variable {P : Program} {Γ : Ctx} {O : Fun Γ} {R : Type} {w w' : World} {a : Nat → Value} {e : Env} {γ : Nat → Gs} {I F H Ω : Nat → Prop} {r : R}

theorem zero_size {el : Ty} : (toV el el.dflt .lf).cells.size = el.size := by rw [← Array.length_toList, toV_cells, cells_len]
theorem zero_get {el : Ty} {j : Nat} (hj : j < el.size) : (toV el el.dflt .lf).cells[j]! = ((cells el el.dflt .lf)[j]?).getD default := by
  rw [← toV_cells, Array.getElem?_toList, Array.getElem!_eq_getD, Array.getD_eq_getD_getElem?]
theorem makeSliceM_ok (S : St w a e γ I F H Ω) (hH : ∀ n, ¬ H n) {T : TypeId} {i : TInfo} (hT : TyOk P T i) {d : Option Nat} {x y : Operand} {k : Unit → Env → Option R} (h : (makeSliceM (Γ := Γ) d i.ty x y).run O e k = some r) :
    ∃ v w', (Instr.makeSlice T (ev a x) (ev a y)).run P w = .ok v w' ∧ Wk I F w w' ∧ Done k r w' (outP d a v) I F H := by
  unfold makeSliceM at h
  cases hi : i.ty with
  | sl el =>
    rw [hi] at h
    simp only at h
    split at h
    · rename_i hso
      simp only [run_bind] at h
      obtain ⟨o, D, h⟩ := rd_ok S hH x h
      obtain ⟨n, hn, h⟩ := asInt_ok D h
      rcases run_ite h with ⟨hin, h⟩ | ⟨_, h⟩
      · simp only [Bool.and_eq_true, decide_eq_true_eq] at hin
        obtain ⟨E, di, hu, hE, hsz, hz, h0, hby, _⟩ := slInfo hT hi
        obtain ⟨kc, hy⟩ : ∃ kc, ev a y = .int kc n := by
          cases x with
          | tmp p =>
            cases y with
            | tmp q =>
              simp only [sameOperand, decide_eq_true_eq] at hso
              subst hso
              exact ⟨_, hn⟩
            | _ => cases hso
          | const v =>
            cases v <;> try (simp [sameOperand] at hso; done)
            cases y with
            | const v' =>
              cases v' <;> try (simp [sameOperand] at hso; done)
              simp only [sameOperand, decide_eq_true_eq] at hso
              simp only [ev, Value.int.injEq] at hn ⊢
              exact ⟨_, rfl, by rw [← hso]; exact hn.2⟩
            | _ => simp [sameOperand] at hso
          | _ => simp [sameOperand] at hso
        have hroom : room = 1099511627776 := rfl
        have hb : (di.bytes : Int) * n ≤ 281474976710656 := by
          have h1 : (di.bytes : Int) * n ≤ 128 * n := Int.mul_le_mul_of_nonneg_right (by omega) hin.1
          rw [hroom] at hin
          omega
        have hrun := run_make (P := P) w T E di _ hu hE hz .i64 kc n n hin.1 (Int.le_refl _) hb (by rw [hroom] at hin; omega)
        have hC : (madeCells (toV el el.dflt .lf).cells (n.toNat * di.size)).size = n.toNat * el.size := by rw [size_madeCells, hsz]
        have hrow : At (w.alloc (.cells (madeCells (toV el el.dflt .lf).cells (n.toNat * di.size)) E)) (some ⟨w.heap.size, 0, none⟩) 0 (rowC el (List.replicate n.toNat el.dflt) (fun _ => .lf) n.toNat) := by
          refine At_row.1 fun q hq => ?_
          rw [At.blk (heap_alloc_new _ _)]
          intro j v hj
          have hjl : j < el.size := by
            have := (List.getElem?_eq_some_iff.1 hj).1
            rwa [cells_len] at this
          have h1 : (q + 1) * el.size ≤ n.toNat * el.size := Nat.mul_le_mul_right _ hq
          rw [Nat.add_mul] at h1
          have h2 : 0 + (0 + q * el.size) + j < n.toNat * di.size := by rw [hsz]; omega
          rw [Array.getElem?_eq_getElem (by rw [size_madeCells]; exact h2)]
          simp only [madeCells, Array.getElem_map, Array.getElem_range]
          have h3 : (0 + (0 + q * el.size) + j) % (toV el el.dflt .lf).cells.size = j := by
            rw [zero_size]
            have : 0 + (0 + q * el.size) + j = j + el.size * q := by rw [Nat.mul_comm]; omega
            rw [this, Nat.add_mul_mod_self_left, Nat.mod_eq_of_lt hjl]
          rw [h3, zero_get hjl]
          have h4 : List.getD (List.replicate n.toNat el.dflt) q el.dflt = el.dflt := by
            rw [List.getD_eq_getElem?_getD, List.getElem?_replicate]
            simp [hq]
          rw [h4] at hj
          rw [hj]; rfl
        obtain ⟨z1, z2, z3⟩ := dflt_ok (w := w.alloc (.cells (madeCells (toV el el.dflt .lf).cells (n.toNat * di.size)) E)) (I := I) (F := F) el
        have hM : Mem (w.alloc (.cells (madeCells (toV el el.dflt .lf).cells (n.toNat * di.size)) E)) I F (.sl el) (.own el.mine) (List.replicate n.toNat el.dflt) (.hd (some ⟨w.heap.size, 0, none⟩) n.toNat n.toNat fun _ => .lf) := by
          refine ⟨by simp [G.len], .inr ⟨w.heap.size, 0, _, E, rfl, heap_alloc_new _ _, by rw [hC]; simp [G.cap], Nat.le_refl _, by simp only [G.cap, maxLen]; rw [hroom] at hin; omega⟩, fun q hq => ?_⟩
          have := At_row.2 hrow q hq
          rw [Nat.zero_add] at this
          refine ⟨this, ?_⟩
          have h4 : List.getD (List.replicate n.toNat el.dflt) q el.dflt = el.dflt := by
            rw [List.getD_eq_getElem?_getD, List.getElem?_replicate]
            have : q < n.toNat := hq
            simp [this]
          rw [h4]; exact z1
        refine ⟨_, _, by rw [hn, hy]; exact hrun, Wk.alloc _ _ _ _, Done.of (outVal_ok (S.fresh _) hH hM ⟨fun _ _ => z2, fun _ _ b _ _ _ k => absurd k (z3 b), fun a _ _ _ k => z3 _ k⟩ (fun b hb => ?_) h)⟩
        rcases hb with ⟨ad, ha, rfl⟩ | ⟨_, _, hb⟩
        · cases ha; exact .inr rfl
        · exact absurd hb (z3 b)
      · cases h
    · cases h
  | _ => rw [hi] at h; cases h

theorem append_twin {t u ty : TypeId} {E E' : TypeId} {di : TypeInfo} (ht : P.underlying t = some (.slice E)) (hu : P.underlying u = some (.slice E')) (hE : P.info? E = some di) (base : Option Addr) (l c : Nat) (y : Value) :
    (Builtin.append_ #[t, u] ty #[.slice base l c, y]).run P w = (Builtin.append_ #[t, t] ty #[.slice base l c, y]).run P w := by
  simp [Builtin.append_, run_underlying ht, run_underlying hu, sizeOf, typeInfo, hE]
theorem At.nil {c : Option Addr} {o : Nat} : At w c o [] := fun j v h => by simp at h
theorem append_run {t u ty E E' : TypeId} {di : TypeInfo} {z : Value} {sz : Nat} (ht : P.underlying t = some (.slice E)) (hu : P.underlying u = some (.slice E')) (hE : P.info? E = some di) (hz : di.zero = some z) (hzs : z.cells.size = sz) (hsz : di.size = sz) (h0 : 0 < sz) (hby : di.bytes ≤ 128)
    {g : G} (hrow : Row w sz g) {olds : List Value} (hol : olds.length = g.len * sz) (hat : At w g.addr 0 olds) {ba : Option Addr} {m c : Nat} {news : List Value} (hnl : news.length = m * sz) (hnew : At w ba 0 news) (h1 : ∀ v ∈ news, v.oneCell' = true) (hroom : g.len + m ≤ room) :
    ∃ ad' c' w', (Builtin.append_ #[t, u] ty #[.slice g.addr g.len g.cap, .slice ba m c]).run P w = .ok (.slice ad' (g.len + m) c') w' ∧ (∀ K, Row w' sz (.hd ad' (g.len + m) c' K)) ∧ At w' ad' 0 (olds ++ news) ∧
      w'.os = w.os ∧ w'.tape = w.tape ∧ w'.output = w.output ∧ (w.heap.size ≤ w'.heap.size ∧ w.drawn ≤ w'.drawn) ∧ (∀ b, b < w.heap.size → (∀ a, g.addr = some a → a.block ≠ b) → w'.heap[b]? = w.heap[b]?) ∧
      (∀ a', ad' = some a' → (w.heap.size ≤ a'.block ∧ a'.block < w'.heap.size) ∨ ∃ a, g.addr = some a ∧ a.block = a'.block) := by
  rw [append_twin ht hu hE]
  have hroom' : room = 1099511627776 := rfl
  have hle : g.len ≤ g.cap := by
    rcases hrow with ⟨_, h1, h2⟩ | ⟨_, _, _, _, _, _, _, h, _⟩
    · omega
    · exact h
  -- nothing turns
  have stay : news = [] → m = 0 → (Builtin.append_ #[t, t] ty #[.slice g.addr g.len g.cap, .slice ba m c]).run P w = .ok (.slice g.addr (g.len + m) g.cap) w → ∃ ad' c' w', (Builtin.append_ #[t, t] ty #[.slice g.addr g.len g.cap, .slice ba m c]).run P w = .ok (.slice ad' (g.len + m) c') w' ∧ (∀ K, Row w' sz (.hd ad' (g.len + m) c' K)) ∧ At w' ad' 0 (olds ++ news) ∧
      w'.os = w.os ∧ w'.tape = w.tape ∧ w'.output = w.output ∧ (w.heap.size ≤ w'.heap.size ∧ w.drawn ≤ w'.drawn) ∧ (∀ b, b < w.heap.size → (∀ a, g.addr = some a → a.block ≠ b) → w'.heap[b]? = w.heap[b]?) ∧
      (∀ a', ad' = some a' → (w.heap.size ≤ a'.block ∧ a'.block < w'.heap.size) ∨ ∃ a, g.addr = some a ∧ a.block = a'.block) := by
    intro hn hm hr
    refine ⟨g.addr, g.cap, w, hr, fun K => ?_, by rw [hn, List.append_nil]; exact hat, rfl, rfl, rfl, ⟨Nat.le_refl _, Nat.le_refl _⟩, fun _ _ _ => rfl, fun a' ha => .inr ⟨a', ha, rfl⟩⟩
    subst hm
    exact hrow
  have grown : ∀ (olds' : Array Value), olds' = olds.toArray → ∀ (old : Nat) (ad' : Option Addr) (c' : Nat) (w' : World), (Builtin.append_ #[t, t] ty #[.slice g.addr g.len g.cap, .slice ba m c]).run P w = .ok (.slice ad' (g.len + m) c') w' →
      ad' = some ⟨w.heap.size, 0, none⟩ → c' = grownCap w (g.len + m) old E → w' = w.drew.alloc (.cells (olds' ++ news.toArray ++ Builtin.zeroCells z.cells (grownCap w (g.len + m) old E - (g.len + m))) E) →
      ∃ ad' c' w', (Builtin.append_ #[t, t] ty #[.slice g.addr g.len g.cap, .slice ba m c]).run P w = .ok (.slice ad' (g.len + m) c') w' ∧ (∀ K, Row w' sz (.hd ad' (g.len + m) c' K)) ∧ At w' ad' 0 (olds ++ news) ∧
      w'.os = w.os ∧ w'.tape = w.tape ∧ w'.output = w.output ∧ (w.heap.size ≤ w'.heap.size ∧ w.drawn ≤ w'.drawn) ∧ (∀ b, b < w.heap.size → (∀ a, g.addr = some a → a.block ≠ b) → w'.heap[b]? = w.heap[b]?) ∧
      (∀ a', ad' = some a' → (w.heap.size ≤ a'.block ∧ a'.block < w'.heap.size) ∨ ∃ a, g.addr = some a ∧ a.block = a'.block) := by
    intro olds' ho old ad' c' w' hr ha hc hw
    subst ho ha hc hw
    have hge := grownCap_ge w (g.len + m) old E
    have hmax := grownCap_le_maxLen w (g.len + m) old E (by simp only [maxLen]; omega)
    have hnb : (w.drew.alloc (.cells (olds.toArray ++ news.toArray ++ Builtin.zeroCells z.cells (grownCap w (g.len + m) old E - (g.len + m))) E)).heap[w.heap.size]? = some (.cells (olds.toArray ++ news.toArray ++ Builtin.zeroCells z.cells (grownCap w (g.len + m) old E - (g.len + m))) E) := heap_alloc_new w.drew _
    refine ⟨_, _, _, hr, fun K => .inr ⟨w.heap.size, 0, _, E, rfl, hnb, ?_, hge, hmax⟩, ?_, rfl, rfl, rfl, ⟨by simp, Nat.le_succ _⟩, fun b hb _ => heap_alloc_old w.drew _ b hb, fun a' ha => ?_⟩
    · simp only [Array.size_append, List.size_toArray, size_zeroCells, hzs, hol, hnl, G.cap_hd, Nat.zero_add, ← Nat.add_mul]
      exact Nat.le_of_eq (congrArg (· * sz) (by omega))
    · rw [At.blk hnb]
      intro j v hj
      rw [Nat.zero_add, ← Array.getElem?_toList]
      simp only [Array.toList_append]
      rw [List.getElem?_append_left (by simpa using (List.getElem?_eq_some_iff.1 hj).1)]
      simpa using hj
    · cases ha; exact .inl ⟨Nat.le_refl _, by simp⟩
  have hbytes : (g.len + m) * di.bytes ≤ 140737488355328 := by
    have : (g.len + m) * di.bytes ≤ (g.len + m) * 128 := Nat.mul_le_mul_left _ hby
    omega
  cases ba with
  | none =>
    have hn : news = [] := by
      cases news with
      | nil => rfl
      | cons v vs => obtain ⟨d, hd, _⟩ := hnew 0 v rfl; cases hd
    have hm : m = 0 := by
      rw [hn] at hnl
      simp only [List.length_nil] at hnl
      rcases Nat.mul_eq_zero.1 hnl.symm with h | h <;> omega
    refine stay hn hm ?_
    subst hm
    cases ha : g.addr with
    | none => simp [Builtin.append_, run_underlying ht, sizeOf, typeInfo, hE, Builtin.lenOf, hle, Builtin.firstCells]
    | some a => simp [Builtin.append_, run_underlying ht, sizeOf, typeInfo, hE, Builtin.lenOf, hle, Builtin.firstCells, storeCells]
  | some a =>
    have hnew' : ∀ j v, news[j]? = some v → w.cell? (a.add j) = some v := fun j v hj => by
      obtain ⟨d, hd, hv⟩ := hnew j v hj
      cases hd; rwa [Nat.zero_add] at hv
    have hf := run_firstCells_some (P := P) w di.size m a m c news (by rw [hsz]; exact hnl) hnew'
    rw [hsz] at hf
    by_cases hc : g.len + m ≤ g.cap
    · cases ha : g.addr with
      | none =>
        have h2 : g.cap = 0 := by
          rcases hrow with ⟨_, _, h⟩ | ⟨_, _, _, _, h, _⟩
          · exact h
          · rw [ha] at h; cases h
        have hm : m = 0 := by omega
        have hn : news = [] := by
          apply List.eq_nil_of_length_eq_zero
          rw [hnl, hm, Nat.zero_mul]
        rw [← ha]
        refine stay hn hm ?_
        rw [ha]
        simp [Builtin.append_, run_underlying ht, sizeOf, typeInfo, hE, Builtin.lenOf, hc, hf, hsz]
      | some ga =>
        rcases hrow with ⟨h, _⟩ | ⟨b, o, C, te, h, hC, hcap, _, hmax⟩
        · rw [ha] at h; cases h
        · rw [ha] at h; cases h
          have hfit : o + g.len * sz + news.length ≤ C.size := by
            have : (g.len + m) * sz ≤ g.cap * sz := Nat.mul_le_mul_right _ hc
            rw [Nat.add_mul] at this
            omega
          have hst := run_storeCells_at P b (o + g.len * sz) te news 0 C w hC (by simpa using hfit) h1
          simp only [Nat.add_zero] at hst
          refine ⟨some ⟨b, o, none⟩, g.cap, w.setRow b (C.toList.take (o + g.len * sz) ++ news ++ C.toList.drop (o + g.len * sz + news.length)).toArray, ?_, fun K => .inr ⟨b, o, _, te, rfl, setRow_heap w b C _ te _ hC, ?_, hc, hmax⟩, ?_, rfl, rfl, rfl, ⟨by simp, Nat.le_refl _⟩, fun q hq hne => setRow_other w b q _ (fun c => hne _ rfl (by rw [c])), fun a' ha' => ?_⟩
          · simp [Builtin.append_, run_underlying ht, sizeOf, typeInfo, hE, Builtin.lenOf, hc, hf, hsz, Addr.add_mk, hst]
          · simp only [List.size_toArray, List.length_append, List.length_take, List.length_drop, Array.length_toList, G.cap_hd]
            omega
          · rw [At.blk (setRow_heap w b C _ te _ hC)]
            rw [ha, At.blk hC] at hat
            intro j v hj
            simp only [Nat.add_zero, List.getElem?_toArray]
            by_cases hjl : j < olds.length
            · rw [List.getElem?_append_left hjl] at hj
              have := hat j v hj
              simp only [Nat.add_zero] at this
              rw [List.append_assoc, List.getElem?_append_left (by simp; omega), List.getElem?_take, if_pos (by omega), Array.getElem?_toList]
              exact this
            · rw [List.getElem?_append_right (by omega)] at hj
              have hj2 := (List.getElem?_eq_some_iff.1 hj).1
              rw [List.append_assoc, List.getElem?_append_right (by simp; omega), List.getElem?_append_left (by simp; omega), ← hj]
              simp only [List.length_take, Array.length_toList]
              congr 1
              omega
          · cases ha'; exact .inr ⟨_, rfl, rfl⟩
    · cases ha : g.addr with
      | none =>
        have h2 : g.len = 0 ∧ g.cap = 0 := by
          rcases hrow with ⟨_, h⟩ | ⟨_, _, _, _, h, _⟩
          · exact h
          · rw [ha] at h; cases h
        have hr := run_append_nil (P := P) w t ty E di z ht hE hz a m c news (by rw [hsz]; exact hnl) hnew' (by omega) (by omega) (by have := hbytes; rw [h2.1, Nat.zero_add] at this; omega)
        have ho : olds = [] := by
          apply List.eq_nil_of_length_eq_zero
          rw [hol, h2.1, Nat.zero_mul]
        have := grown #[] (by rw [ho]) 0 (some ⟨w.heap.size, 0, none⟩) (grownCap w (g.len + m) 0 E) _ (by rw [ha, h2.1, h2.2, Nat.zero_add]; exact hr) rfl rfl (by rw [h2.1, Nat.zero_add, Array.empty_append])
        rw [ha] at this
        exact this
      | some ga =>
        have hold : ∀ j v, olds[j]? = some v → w.cell? (ga.add j) = some v := fun j v hj => by
          obtain ⟨d, hd, hv⟩ := hat j v hj
          rw [ha] at hd; cases hd; rwa [Nat.zero_add] at hv
        have hr := run_append_grow (P := P) w t ty E di z ht hE hz ga g.len g.cap olds (by rw [hsz]; exact hol) hold a m c news (by rw [hsz]; exact hnl) hnew' (by omega) (by omega) (growslice_fits (by omega) hbytes)
        have := grown olds.toArray rfl g.cap (some ⟨w.heap.size, 0, none⟩) (grownCap w (g.len + m) g.cap E) _ (by rw [ha]; exact hr) rfl rfl rfl
        rw [ha] at this
        exact this

theorem St.grow (S : St w a e γ I F H Ω) (hs : w.heap.size ≤ w'.heap.size) (hb : ∀ b, b < w.heap.size → ((∃ n, ¬ H n ∧ OwnS (e.get n) (γ n) b) ∨ I b) → w'.heap[b]? = w.heap[b]?) :
    St w' a e γ I F H (fun b => Ω b ∨ (w.heap.size ≤ b ∧ b < w'.heap.size)) := by
  have S' := S.frame hs hb
  refine ⟨S'.slot, S'.ref, S'.sep, fun n b hn h k => k.elim (S'.flt n b hn h) fun k => ?_, S'.lv, fun b h => h.elim (S'.lvΩ b) fun h => ⟨S.new b h.1, fun k => ?_, h.2⟩, S'.imm, S'.new, S'.fn⟩
  · have := (S.lv n b hn h).2.2; omega
  · have := S.imm b k; omega
theorem free_fits : ∀ {t : Ty} {m : Md}, t.free m = true → t.fits m = true
  | .int _, _, _ => rfl
  | .bool, _, _ => rfl
  | .str, _, _ => rfl
  | .unit, _, _ => rfl
  | .one a, m, h => free_fits (t := a) h
  | .cons a b, m, h => by
    simp only [Ty.free, Bool.and_eq_true] at h
    simp only [Ty.fits, Bool.and_eq_true]
    exact ⟨free_fits h.1, free_fits h.2⟩
  | .sl e, m, h => by
    cases m with
    | sh o => rfl
    | _ => cases h
theorem join_ok {el : Ty} {m1 m2 mj : Md} (h : joinMd el m1 m2 = some mj) {x : el.den} {g : G} :
    (Mem w I F el m1 x g → Mem w I F el mj x g) ∧ (Mem w I F el m2 x g → Mem w I F el mj x g) ∧ (Sep el m1 g → Sep el mj g) ∧ (Sep el m2 g → Sep el mj g) ∧
    ∀ b, Own el mj g b → Own el m1 g b ∧ Own el m2 g b := by
  unfold joinMd at h
  split at h
  · rename_i hf
    exact ⟨fun _ => Mem.flat hf, fun _ => Mem.flat hf, fun _ => Sep.flat hf, fun _ => Sep.flat hf, fun b hb => absurd hb (Own.flat hf)⟩
  · split at h
    · rename_i he
      subst he; cases h
      exact ⟨id, id, id, id, fun b hb => ⟨hb, hb⟩⟩
    · split at h
      · rename_i hc
        simp only [Bool.and_eq_true] at hc
        cases h
        exact ⟨fun k => k.view (free_fits hc.1) (fun k => by rw [k]; rfl) (fun _ k => k) fun b hb => absurd hb (Own.free hc.1),
          fun k => k.view (free_fits hc.2) (fun k => by rw [k]; simp) (fun _ k => k) fun b hb => absurd hb (Own.free hc.2), fun _ => Sep.sh _ _ _, fun _ => Sep.sh _ _ _, fun b hb => absurd hb (Own.sh _ _ _ _)⟩
      · cases h
theorem Mem.kids {el : Ty} {m : Md} {x : List el.den} {g : G} (h : Mem w I F (.sl el) m x g) (hm : m.row) {j : Nat} (hj : j < g.len) : Mem w I F el m.elem (List.getD x j el.dflt) (g.kid j) := by
  cases m with
  | own me => exact (h.2.2 j hj).2
  | sh o => exact (h.2.2 j hj).2
  | pr _ _ => exact hm.elim
  | gone => exact hm.elim
theorem Sep.kids {el : Ty} {m : Md} {g : G} (h : Sep (.sl el) m g) {j : Nat} (hj : j < g.len) (hm : m.row) : Sep el m.elem (g.kid j) := by
  cases m with
  | own me => exact h.1 j hj
  | sh o => exact Sep.sh _ _ _
  | pr _ _ => exact hm.elim
  | gone => exact hm.elim
theorem Own.kids {el : Ty} {m : Md} {g : G} {j b : Nat} (hj : j < g.len) (hm : m.row) (h : Own el m.elem (g.kid j) b) : Own (.sl el) m g b := by
  cases m with
  | own me => exact .inr ⟨j, hj, h⟩
  | sh o => exact absurd h (Own.sh _ _ _ _)
  | pr _ _ => exact hm.elim
  | gone => exact hm.elim
theorem Sep.kid2 {el : Ty} {m : Md} {g : G} (h : Sep (.sl el) m g) {i j b : Nat} (hi : i < g.len) (hj : j < g.len) (hij : i ≠ j) (hm : m.row) (h1 : Own el m.elem (g.kid i) b) (h2 : Own el m.elem (g.kid j) b) : False := by
  cases m with
  | own me => exact h.2.1 i j b hi hj hij h1 h2
  | sh o => exact absurd h1 (Own.sh _ _ _ _)
  | pr _ _ => exact hm.elim
  | gone => exact hm.elim

theorem appendM_ok (S : St w a e γ I F H Ω) (hH : ∀ n, ¬ H n) {T U ty : TypeId} {i j : TInfo} (hT : TyOk P T i) (hU : TyOk P U j) (hij : i.ty = j.ty) {d : Option Nat} {x y : Operand} {k : Unit → Env → Option R} (h : (appendM (Γ := Γ) d i.ty x y).run O e k = some r) :
    ∃ v w', (Builtin.append_ #[T, U] ty #[ev a x, ev a y]).run P w = .ok v w' ∧ Wk I F w w' ∧ Done k r w' (outP d a v) I F H := by
  unfold appendM at h
  cases hi : i.ty with
  | sl el =>
    rw [hi] at h
    simp only [run_bind] at h
    obtain ⟨o, D, h⟩ := rd_ok S hH x h
    obtain ⟨o2, D2, h⟩ := rd_ok S hH y h
    obtain ⟨ma, xa, sa, ga, Da, h⟩ := asData_ok D h
    obtain ⟨mb, xb, sb, gb, Db, h⟩ := asData_ok D2 h
    cases ma with
    | own me =>
      simp only at h
      split at h
      · cases h
      · rename_i hfit
        simp only [Bool.not_eq_true', Bool.not_eq_false, Bool.and_eq_true] at hfit
        split at h
        · cases h
        · rename_i hroot
          rw [run_bind] at h
          obtain ⟨mj, hmj, h⟩ := run_ofOpt h
          rcases run_ite h with ⟨hlen, h⟩ | ⟨_, h⟩
          · simp only [decide_eq_true_eq] at hlen
            rw [run_bind] at h
            obtain ⟨m1, e1, I1, Ω1, h, HA⟩ := handOver_ok S hH Da.mem Da.sep Da.src h
            obtain ⟨hI1, hm1⟩ := HA.take rfl
            subst hI1 hm1
            have hrb : mb.row := fits_row hfit.2
            obtain ⟨e2, Ω2, S2, ha2, hb2, h⟩ : ∃ e2 Ω2, St w a e2 γ I1 F H Ω2 ∧ (∀ b, Own (.sl el) (.own me) ga b → Ω2 b) ∧ (el.flat = true ∨ ∀ b, Own (.sl el) mb gb b → Ω2 b ∧ ¬ Own (.sl el) (.own me) ga b) ∧
                (out (Γ := Γ) d (.val .reg (.sl el) (.own mj) (xa ++ xb : List el.den))).run O e2 k = some r := by
              rw [run_bind] at h
              split at h
              · rename_i hf
                exact ⟨e1, Ω1, HA.st, fun b hb => (HA.own b hb).1, .inl hf, h⟩
              · have hsrc : SrcAt e1 γ sb (.sl el) mb xb gb := Db.src.same fun n p hn => HA.same n fun q hq => by
                  have hroot' : ¬ sameRoot sa sb = true := hroot
                  rw [hn, hq] at hroot'
                  simp [sameRoot] at hroot'
                obtain ⟨m2, e2, I2, Ω2, h', HB⟩ := handOver_ok HA.st hH Db.mem Db.sep hsrc h
                obtain ⟨hI2, hm2⟩ := HB.take rfl
                subst hI2
                rw [hm2] at HB
                exact ⟨e2, Ω2, HB.st, fun b hb => HB.flt b (HA.own b hb).1, .inr fun b hb => ⟨(HB.own b hb).1, fun k => (HB.own b hb).2 (HA.own b k).1⟩, h'⟩
            obtain ⟨E, di, hu, hE, hsz, hz, h0, hby, _⟩ := slInfo hT hi
            obtain ⟨E', _, hu', _⟩ := slInfo hU (hij ▸ hi)
            have hla := Da.mem.1
            have hlb := Db.mem.1
            have hroom : ga.len + gb.len ≤ room := by rw [hla, hlb]; exact hlen
            obtain ⟨ad', c', w', hrun, hRow, hAt, q1, q2, q3, q4, q5, q6⟩ := append_run (P := P) (ty := ty) (m := gb.len) (c := gb.cap) hu hu' hE hz zero_size hsz h0 hby Da.mem.2.1
              (olds := rowC el xa ga.kid ga.len) (rowC_len _ _ _ _) (At_row.1 fun q hq => by rw [Nat.zero_add]; exact (Da.mem.2.2 q hq).1)
              (ba := gb.addr) (news := rowC el xb gb.kid gb.len) (rowC_len _ _ _ _) (At_row.1 fun q hq => by rw [Nat.zero_add]; exact (Db.mem.row_cells hrb).2 q (by rw [← hlb]; exact hq)) rowC_one hroom
            have hva : ev a x = .slice ga.addr ga.len ga.cap := Da.v
            have hvb : ev a y = .slice gb.addr gb.len gb.cap := Db.v
            have lvA : ∀ b, Own (.sl el) (.own me) ga b → F b ∧ ¬ I1 b ∧ b < w.heap.size := fun b hb => S2.lvΩ b (ha2 b hb)
            have haddr : ∀ d, ga.addr = some d → Own (.sl el) (.own me) ga d.block := fun d hd => .inl ⟨d, hd, rfl⟩
            have same : ∀ b, b < w.heap.size → (∀ d, ga.addr = some d → d.block ≠ b) → w'.heap[b]? = w.heap[b]? := q5
            have hI : ∀ b, I1 b → w'.heap[b]? = w.heap[b]? := fun b hb => same b (S2.imm b hb) fun d hd c => (lvA _ (haddr d hd)).2.1 (c ▸ hb)
            have S3 := S2.grow (w' := w') q4.1 fun b hb hk => same b hb fun d hd c => by
              rcases hk with ⟨n, hn, hk⟩ | hk
              · exact S2.flt n b hn hk (c ▸ ha2 _ (haddr d hd))
              · exact (lvA _ (haddr d hd)).2.1 (c ▸ hk)
            refine ⟨_, w', by rw [hva, hvb]; exact hrun, ⟨q1, q2, q3, q4.1, q4.2, fun b hb hF => same b hb fun d hd c => hF.elim (fun k => (lvA _ (haddr d hd)).2.1 (c ▸ k)) fun k => k (c ▸ (lvA _ (haddr d hd)).1)⟩, ?_⟩
            have kA : ∀ q b, q < ga.len → Own el me (ga.kid q) b → Own (.sl el) (.own me) ga b := fun q b hq hb => .inr ⟨q, hq, hb⟩
            have kB : ∀ q b, q < gb.len → Own el mb.elem (gb.kid q) b → el.flat = false → Ω2 b ∧ ¬ Own (.sl el) (.own me) ga b := fun q b hq hb hf => by
              rcases hb2 with k | k
              · rw [k] at hf; cases hf
              · exact k b (Own.kids hq hrb hb)
            -- what the new row's elements own
            have kO : ∀ q b, q < ga.len + gb.len → Own el mj (if q < List.length xa then ga.kid q else gb.kid (q - List.length xa)) b → el.flat = false ∧ ((q < ga.len ∧ Own el me (ga.kid q) b) ∨ (¬ q < ga.len ∧ q - ga.len < gb.len ∧ Own el mb.elem (gb.kid (q - ga.len)) b)) := fun q b hq hb => by
              refine ⟨?_, ?_⟩
              · cases hf : el.flat with
                | false => rfl
                | true => exact absurd hb (Own.flat hf)
              · rw [← hla] at hb
                by_cases c : q < ga.len
                · rw [if_pos c] at hb
                  exact .inl ⟨c, ((join_ok (w := w) (I := I1) (F := F) (x := el.dflt) hmj).2.2.2.2 b hb).1⟩
                · rw [if_neg c] at hb
                  exact .inr ⟨c, by omega, ((join_ok (w := w) (I := I1) (F := F) (x := el.dflt) hmj).2.2.2.2 b hb).2⟩
            have kfin : ∀ q b, q < ga.len + gb.len → Own el mj (if q < List.length xa then ga.kid q else gb.kid (q - List.length xa)) b → Ω2 b ∧ b < w.heap.size ∧ ∀ d, ga.addr = some d → d.block ≠ b := fun q b hq hb => by
              obtain ⟨hf, hb⟩ := kO q b hq hb
              rcases hb with ⟨c, hb⟩ | ⟨_, c, hb⟩
              · exact ⟨ha2 b (kA q b c hb), (lvA b (kA q b c hb)).2.2, fun d hd c' => Da.sep.2.2 d q hd c (c' ▸ hb)⟩
              · obtain ⟨k1, k2⟩ := kB _ b c hb hf
                exact ⟨k1, (S2.lvΩ b k1).2.2, fun d hd c' => k2 (c' ▸ haddr d hd)⟩
            have hcells : At w' ad' 0 (rowC el (xa ++ xb : List el.den) (fun q => if q < List.length xa then ga.kid q else gb.kid (q - List.length xa)) (ga.len + gb.len)) := by
              have := rowC_append (e := el) (x := xa) (y := xb) (K := ga.kid) (L := gb.kid) (m := gb.len)
              rw [← hla] at this ⊢
              rw [this]; exact hAt
            have hM : Mem w' I1 F (.sl el) (.own mj) (xa ++ xb : List el.den) (.hd ad' (ga.len + gb.len) c' fun q => if q < List.length xa then ga.kid q else gb.kid (q - List.length xa)) := by
              refine ⟨by simp only [G.len_hd, List.length_append]; rw [hla, hlb], hRow _, fun q hq => ?_⟩
              have hq' : q < ga.len + gb.len := hq
              have := At_row.2 hcells q hq'
              rw [Nat.zero_add] at this
              refine ⟨this, ?_⟩
              simp only [G.kid_hd]
              rw [← hla]
              by_cases c : q < ga.len
              · rw [if_pos c]
                have e0 : List.getD (xa ++ xb : List el.den) q el.dflt = List.getD xa q el.dflt := by
                  rw [List.getD_eq_getElem?_getD, List.getElem?_append_left (by rw [← hla]; exact c), List.getD_eq_getElem?_getD]
                rw [e0]
                refine (join_ok hmj).1 (((Da.mem.2.2 q c).2).frame fun b hb => ?_)
                rcases hb with hb | hb
                · exact same b (lvA b (kA q b c hb)).2.2 fun d hd c' => Da.sep.2.2 d q hd c (c' ▸ hb)
                · exact hI b hb
              · rw [if_neg c]
                have e0 : List.getD (xa ++ xb : List el.den) q el.dflt = List.getD xb (q - ga.len) el.dflt := by
                  rw [List.getD_eq_getElem?_getD, List.getElem?_append_right (by rw [← hla]; omega), List.getD_eq_getElem?_getD, ← hla]
                rw [e0]
                refine (join_ok hmj).2.1 ((Db.mem.kids hrb (j := q - ga.len) (by omega)).frame fun b hb => ?_)
                rcases hb with hb | hb
                · cases hf : el.flat with
                  | true => exact absurd hb (Own.flat hf)
                  | false =>
                    obtain ⟨k1, k2⟩ := kB _ b (by omega) hb hf
                    exact same b (S2.lvΩ b k1).2.2 fun d hd c' => k2 (c' ▸ haddr d hd)
                · exact hI b hb
            have hS : Sep (.sl el) (.own mj) (.hd ad' (ga.len + gb.len) c' fun q => if q < List.length xa then ga.kid q else gb.kid (q - List.length xa)) := by
              refine ⟨fun q hq => ?_, fun q q' b hq hq' hne h1 h2 => ?_, fun d q hd hq h1 => ?_⟩
              · simp only [G.kid_hd, G.len_hd] at hq ⊢
                rw [← hla]
                by_cases c : q < ga.len
                · rw [if_pos c]; exact (join_ok (w := w) (I := I1) (F := F) (x := el.dflt) hmj).2.2.1 (Da.sep.1 q c)
                · rw [if_neg c]; exact (join_ok (w := w) (I := I1) (F := F) (x := el.dflt) hmj).2.2.2.1 (Db.sep.kids (by omega) hrb)
              · obtain ⟨hf, h1⟩ := kO q b hq h1
                obtain ⟨_, h2⟩ := kO q' b hq' h2
                rcases h1 with ⟨c1, h1⟩ | ⟨d1, c1, h1⟩
                · rcases h2 with ⟨c2, h2⟩ | ⟨d2, c2, h2⟩
                  · exact Da.sep.2.1 q q' b c1 c2 hne h1 h2
                  · exact (kB _ b c2 h2 hf).2 (kA q b c1 h1)
                · rcases h2 with ⟨c2, h2⟩ | ⟨d2, c2, h2⟩
                  · exact (kB _ b c1 h1 hf).2 (kA q' b c2 h2)
                  · exact Db.sep.kid2 c1 c2 (by omega) hrb h1 h2
              · obtain ⟨k1, k2, k3⟩ := kfin q _ hq h1
                rcases q6 d hd with k | ⟨d', hd', k⟩
                · omega
                · exact k3 d' hd' k
            refine Done.of (outVal_ok S3 hH hM hS (fun b hb => ?_) h)
            rcases hb with ⟨d', hd', rfl⟩ | ⟨q, hq, hb⟩
            · rcases q6 d' hd' with k | ⟨d'', hd'', k⟩
              · exact .inr k
              · exact .inl (k ▸ ha2 _ (haddr d'' hd''))
            · exact .inl (kfin q b hq hb).1
          · cases h
    | _ => cases h
  | _ => rw [hi] at h; cases h
end
end Go.Den
/-
  Cuts and literals.
-/
namespace Go.Den
open Go
set_option linter.unusedVariables false
set_option linter.unusedSimpArgs false
section
variable {P : Program} {Γ : Ctx} {O : Fun Γ} {R : Type} {w w' : World} {a : Nat → Value} {e : Env} {γ : Nat → Gs} {I F H Ω : Nat → Prop} {r : R}

/-- a part of a row -/
theorem cut_ok {el : Ty} {m : Md} {x : List el.den} {g : G} (M : Mem w I F (.sl el) m x g) (Sp : Sep (.sl el) m g) (hm : m.row) {l h : Nat} (hl : l ≤ h) (hh : h ≤ List.length x) :
    let g' : G := .hd (if g.cap = l then g.addr else g.addr.map (·.add (l * el.size))) (h - l) (g.cap - l) fun i => g.kid (i + l)
    Mem w I F (.sl el) m ((List.take h x).drop l) g' ∧ Sep (.sl el) m g' ∧ ∀ b, Own (.sl el) m g' b → Own (.sl el) m g b := by
  intro g'
  have hlen := M.1
  have hle : g.len ≤ g.cap := by
    cases m with
    | own me => exact M.2.1.le
    | sh o => exact M.2.1.1
    | pr _ _ => exact hm.elim
    | gone => exact hm.elim
  have hblk : ∀ d, g'.addr = some d → ∃ d0, g.addr = some d0 ∧ d.block = d0.block := fun d hd => by
    simp only [g', G.addr_hd] at hd
    split at hd
    · exact ⟨d, hd, rfl⟩
    · obtain ⟨d0, h0, rfl⟩ := Option.map_eq_some_iff.1 hd
      exact ⟨d0, h0, Addr.add_block _ _⟩
  have hx : ∀ i, i < h - l → List.getD ((List.take h x).drop l) i el.dflt = List.getD x (i + l) el.dflt := fun i hi => by
    rw [List.getD_eq_getElem?_getD, List.getElem?_drop, List.getElem?_take, List.getD_eq_getElem?_getD, if_pos (by omega)]
    congr 2; omega
  have hat : ∀ i, i < h - l → At w g'.addr (i * el.size) (cells el (List.getD ((List.take h x).drop l) i el.dflt) (g'.kid i)) := fun i hi => by
    have h1 := (M.row_cells hm).2 (i + l) (by omega)
    rw [hx i hi]
    simp only [g', G.addr_hd, G.kid_hd]
    have hne : ¬ g.cap = l := by omega
    rw [if_neg hne]
    refine At.add.2 ?_
    rw [← Nat.add_mul, Nat.add_comm l i]
    exact h1
  have hl' : g'.len = List.length ((List.take h x).drop l) := by
    simp only [g', G.len_hd, List.length_drop, List.length_take]; omega
  have hk : ∀ i, i < h - l → i + l < g.len := fun i hi => by omega
  have hrow : Row w el.size g → Row w el.size g' := fun hR => by
    rcases hR with ⟨h1, h2, h3⟩ | ⟨b, o, C, te, h1, h2, h3, h4, h5⟩
    · left
      simp only [g', G.addr_hd, G.len_hd, G.cap_hd, h1]
      refine ⟨by split <;> rfl, by omega, by omega⟩
    · right
      simp only [g', G.addr_hd, G.len_hd, G.cap_hd, h1]
      by_cases hc : g.cap = l
      · rw [if_pos hc]
        exact ⟨b, o, C, te, rfl, h2, by rw [hc, Nat.sub_self, Nat.zero_mul]; omega, by omega, by omega⟩
      · rw [if_neg hc]
        refine ⟨b, o + l * el.size, C, te, by simp [Addr.add_mk], h2, ?_, by omega, by omega⟩
        have : (g.cap - l) * el.size + l * el.size = g.cap * el.size := by rw [← Nat.add_mul]; congr 1; omega
        omega
  refine ⟨⟨hl', ?_⟩, ?_, ?_⟩
  · cases m with
    | own me =>
      refine ⟨hrow M.2.1, fun i hi => ⟨hat i hi, ?_⟩⟩
      rw [hx i hi]; exact (M.2.2 (i + l) (hk i hi)).2
    | sh o =>
      refine ⟨⟨by simp only [g', G.len_hd, G.cap_hd]; omega, fun d hd hl2 => ?_, fun ho => ⟨hrow (M.2.1.2.2 ho).1, fun d hd => ?_⟩⟩, fun i hi => ⟨hat i hi, ?_⟩⟩
      · obtain ⟨d0, h0, h1⟩ := hblk d hd
        rw [h1]; exact M.2.1.2.1 d0 h0 (by simp only [g', G.len_hd] at hl2; omega)
      · obtain ⟨d0, h0, h1⟩ := hblk d hd
        rw [h1]; exact (M.2.1.2.2 ho).2 d0 h0
      · rw [hx i hi]; exact (M.2.2 (i + l) (hk i hi)).2
    | pr _ _ => exact hm.elim
    | gone => exact hm.elim
  · cases m with
    | own me =>
      refine ⟨fun i hi => Sp.1 _ (hk i hi), fun i j b hi hj hij h1 h2 => Sp.2.1 _ _ b (hk i hi) (hk j hj) (by omega) h1 h2, fun d i hd hi h1 => ?_⟩
      obtain ⟨d0, h0, h2⟩ := hblk d hd
      exact Sp.2.2 d0 _ h0 (hk i hi) (h2 ▸ h1)
    | sh o => trivial
    | pr _ _ => exact hm.elim
    | gone => exact hm.elim
  · intro b hb
    cases m with
    | own me =>
      rcases hb with ⟨d, hd, rfl⟩ | ⟨i, hi, hb⟩
      · obtain ⟨d0, h0, h1⟩ := hblk d hd
        exact .inl ⟨d0, h0, h1.symm⟩
      · exact .inr ⟨i + l, hk i hi, hb⟩
    | sh o => exact hb.elim
    | pr _ _ => exact hm.elim
    | gone => exact hm.elim

theorem optInt_ok (S : St w a e γ I F H Ω) (hH : ∀ n, ¬ H n) {x : Option Operand} {n : Int} {k : Int → Env → Option R} (h : (optInt (Γ := Γ) n x).run O e k = some r) :
    ∃ l, ((x = none ∧ l = n) ∨ ∃ o v, x = some o ∧ ev a o = .int .i64 v ∧ v = l) ∧ k l e = some r := by
  cases x with
  | none => exact ⟨n, .inl ⟨rfl, rfl⟩, h⟩
  | some o =>
    unfold optInt at h
    rw [run_bind] at h
    obtain ⟨ov, D, h⟩ := rd_ok S hH o h
    obtain ⟨v, hv, h⟩ := asInt_ok D h
    exact ⟨v, .inr ⟨o, v, rfl, hv, rfl⟩, h⟩
/-- the bounds of a cut -/
theorem bounds_run {isS : Bool} {len cap : Nat} {lo hi : Option Value} {l h : Int} (h1 : (lo = none ∧ l = 0) ∨ lo = some (.int .i64 l)) (h2 : (hi = none ∧ h = len) ∨ hi = some (.int .i64 h)) (h3 : 0 ≤ l) (h4 : l ≤ h) (h5 : h ≤ cap) :
    (Instr.sliceBounds isS len cap lo hi none).run P w = .ok (l.toNat, h.toNat, cap) w := by
  have hh : (∃ c, (Instr.sliceBound (.int .i64 h) cap c).run P w = .ok h.toNat w) ∧ ∀ c, (Instr.sliceBound (.int .i64 h) cap c).run P w = .ok h.toNat w := by
    have : ∀ c, (Instr.sliceBound (.int .i64 h) cap c).run P w = .ok h.toNat w := fun c => by
      have hc : 0 ≤ h ∧ h ≤ (cap : Int) := ⟨by omega, h5⟩
      simp [Instr.sliceBound, asIntOf, hc]
    exact ⟨⟨.index, this _⟩, this⟩
  have hl : ∀ c, (Instr.sliceBound (.int .i64 l) h.toNat c).run P w = .ok l.toNat w := fun c => by
    have hc : 0 ≤ l ∧ l ≤ (h.toNat : Int) := ⟨h3, by omega⟩
    have hc2 : l ≤ max h 0 := by omega
    simp [Instr.sliceBound, asIntOf, h3, hc2]
  rcases h2 with ⟨rfl, rfl⟩ | rfl <;> rcases h1 with ⟨rfl, rfl⟩ | rfl
  · simp [Instr.sliceBounds]
  · have := hl
    simp only [Int.toNat_natCast] at this
    simp [Instr.sliceBounds, this]
  · simp [Instr.sliceBounds, hh.2]
  · simp [Instr.sliceBounds, hh.2, hl]
theorem cutM_ok (S : St w a e γ I F H Ω) (hH : ∀ n, ¬ H n) {T : TypeId} {i : TInfo} (hT : TyOk P T i) {own : Bool} {d : Option Nat} {x : Operand} {lo hi : Option Operand} {k : Unit → Env → Option R} (h : (cutM (Γ := Γ) own d i.ty x lo hi).run O e k = some r) :
    ∃ v, (Instr.sliceAt T (ev a x) (lo.map (ev a)) (hi.map (ev a)) none).run P w = .ok v w ∧ Done k r w (outP d a v) I F H := by
  unfold cutM at h
  rw [run_bind] at h
  obtain ⟨o, D, h⟩ := rd_ok S hH x h
  have hu := hT.under
  unfold UnderOk at hu
  obtain ⟨ty, fields, eqb⟩ := i
  have lo_ok : ∀ {l : Int}, ((lo = none ∧ l = 0) ∨ ∃ o v, lo = some o ∧ ev a o = .int .i64 v ∧ v = l) → (lo.map (ev a) = none ∧ l = 0) ∨ lo.map (ev a) = some (.int .i64 l) := fun {l} k => by
    rcases k with ⟨k1, k2⟩ | ⟨o, v, k1, k2, k3⟩
    · exact .inl ⟨by rw [k1]; rfl, k2⟩
    · exact .inr (by rw [k1, ← k3, ← k2]; rfl)
  have hi_ok : ∀ {l : Int} {n : Int}, ((hi = none ∧ l = n) ∨ ∃ o v, hi = some o ∧ ev a o = .int .i64 v ∧ v = l) → (hi.map (ev a) = none ∧ l = n) ∨ hi.map (ev a) = some (.int .i64 l) := fun {l n} k => by
    rcases k with ⟨k1, k2⟩ | ⟨o, v, k1, k2, k3⟩
    · exact .inl ⟨by rw [k1]; rfl, k2⟩
    · exact .inr (by rw [k1, ← k3, ← k2]; rfl)
  cases ty with
  | str =>
    simp only [run_bind] at h hu
    obtain ⟨m, y, src, g, Dd, h⟩ := asData_ok D h
    obtain ⟨l, hl, h⟩ := optInt_ok S hH h
    obtain ⟨u, hu2, h⟩ := optInt_ok S hH h
    rcases run_ite h with ⟨hc, h⟩ | ⟨_, h⟩
    · simp only [Bool.and_eq_true, decide_eq_true_eq] at hc
      have hb := bounds_run (P := P) (w := w) (isS := false) (cap := ByteArray.size y) (lo_ok hl) (hi_ok hu2) hc.1.1 hc.1.2 hc.2
      have hv : ev a x = .string y := Dd.v
      refine ⟨.string (ByteArray.extract y l.toNat u.toNat), ?_, Done.scal S hH rfl rfl h⟩
      rw [hv]
      simp [Instr.sliceAt, Instr.slice, run_underlying hu, hb]
    · cases h
  | sl el =>
    simp only [run_bind] at h
    obtain ⟨m, y, src, g, Dd, h⟩ := asData_ok D h
    obtain ⟨l, hl, h⟩ := optInt_ok S hH h
    obtain ⟨u, hu2, h⟩ := optInt_ok S hH h
    rcases run_ite h with ⟨hc, h⟩ | ⟨_, h⟩
    · simp only [Bool.and_eq_true, decide_eq_true_eq] at hc
      rw [run_bind] at h
      obtain ⟨m', e', I', Ω', h, HD⟩ := handOver_ok S hH Dd.mem Dd.sep Dd.src h
      split at h
      · rename_i hf
        have hrow := fits_row hf
        obtain ⟨c1, c2, c3⟩ := cut_ok HD.mem HD.sep hrow (l := l.toNat) (h := u.toNat) (by omega) (by omega)
        obtain ⟨E, di, hu', hE, hsz, _⟩ := hu
        have hlen := HD.mem.1
        have hle : g.len ≤ g.cap := by
          cases m' with
          | own me => exact HD.mem.2.1.le
          | sh o => exact HD.mem.2.1.1
          | pr _ _ => exact hrow.elim
          | gone => exact hrow.elim
        have hb := bounds_run (P := P) (w := w) (isS := true) (len := g.len) (cap := g.cap) (lo_ok hl) (hi_ok (n := g.len) (by rw [hlen]; exact hu2)) hc.1.1 hc.1.2 (by omega)
        have hv : ev a x = .slice g.addr g.len g.cap := Dd.v
        have hs : (sizeOf E).run P w = .ok el.size w := by simp [sizeOf, typeInfo, hE, hsz]
        have hI' : ∀ b, I' b → I b ∨ F b := fun b hb => (HD.new b hb).imp id (·.1)
        have := outVal_ok HD.st hH c1 c2 (fun b hb => (HD.own b (c3 b hb)).1) h
        refine ⟨_, ?_, Done.of' this HD.imm hI'⟩
        rw [hv]
        simp [Instr.sliceAt, Instr.slice, run_underlying hu', hb, hs, toV, cells, Ty.agg, G.addr_hd, G.len_hd, G.cap_hd]
      · cases h
    · cases h
  | _ => cases h
end
end Go.Den
/-
  Literals.
-/
namespace Go.Den
open Go
set_option linter.unusedVariables false
set_option linter.unusedSimpArgs false
theorem sub_noat : ∀ {T : Ty} {N : Md} {X : T.den} {p : List Step} {z : Sub}, hasAt p = false → sub T N X p = some z → ∀ (N' : Md) (X' : T.den), ∃ m x, sub T N' X' p = some ⟨z.t, m, x⟩
  | T, N, X, [], z, _, hs, N', X' => by
    have : z = ⟨T, N, X⟩ := by cases T <;> (simp only [sub, Option.some.injEq] at hs; exact hs.symm)
    subst this
    exact ⟨N', X', by cases T <;> rfl⟩
  | .one a, N, X, .l :: p, z, hp, hs, N', X' => sub_noat (T := a) (p := p) hp hs N' X'
  | .cons a b, N, X, .l :: p, z, hp, hs, N', X' => sub_noat (T := a) (p := p) hp hs N'.fst X'.1
  | .cons a b, N, X, .r :: p, z, hp, hs, N', X' => sub_noat (T := b) (p := p) hp hs N'.snd X'.2
  | .sl e, N, X, .at i :: p, z, hp, _, _, _ => by cases hp
  | .int _, _, _, _ :: _, _, _, hs, _, _ => by simp [sub] at hs
  | .bool, _, _, _ :: _, _, _, hs, _, _ => by simp [sub] at hs
  | .str, _, _, _ :: _, _, _, hs, _, _ => by simp [sub] at hs
  | .unit, _, _, _ :: _, _, _, hs, _, _ => by simp [sub] at hs
  | .one _, _, _, .r :: _, _, _, hs, _, _ => by cases hs
  | .one _, _, _, .at _ :: _, _, hp, _, _, _ => by cases hp
  | .cons _ _, _, _, .at _ :: _, _, hp, _, _, _ => by cases hp
  | .sl _, _, _, .l :: _, _, _, hs, _, _ => by cases hs
  | .sl _, _, _, .r :: _, _, _, hs, _, _ => by cases hs
section
variable {P : Program} {Γ : Ctx} {O : Fun Γ} {R : Type} {w w' : World} {a : Nat → Value} {e : Env} {γ : Nat → Gs} {I F H Ω : Nat → Prop} {r : R}

/-- a value taken for a part of a literal: in flight, or with nothing of its own -/
theorem take_ok (S : St w a e γ I F H Ω) (hH : ∀ n, ¬ H n) {t : Ty} {m : Md} {x : t.den} {src : Option (Nat × List Step)} {g : G} {v : Value} (D : DtOk w I F e γ t m x src g v) {β : Type} {k : β → Env → Option R} {f0 : M Γ β} {f1 : Nat → List Step → M Γ β}
    (h : (match (if t.free m then none else src) with | none => f0 | some (r, p) => f1 r p).run O e k = some r) :
    (f0.run O e k = some r ∧ ∀ b, ¬ Own t m g b) ∨ ∃ n p, src = some (n, p) ∧ (f1 n p).run O e k = some r := by
  split at h
  · rename_i h0
    refine .inl ⟨h, fun b => ?_⟩
    split at h0
    · rename_i hf; exact Own.free hf
    · have := D.src; rw [h0] at this; exact this b
  · rename_i n p h0
    split at h0
    · cases h0
    · exact .inr ⟨n, p, h0, h⟩

theorem fillM_ok {i : TInfo} {places : List (Nat × Nat)} (hpl : ∀ (k : Nat) (f : List Step × Ty), i.fields[k]? = some f → places[k]? = some (ofs i.ty f.1, f.2.size) ∧ hasAt f.1 = false ∧ ∃ m x, sub i.ty i.ty.mine i.ty.dflt f.1 = some ⟨f.2, m, x⟩) {gv : Bool} (hH : ∀ n, ¬ H n) :
    ∀ (ps : List (Nat × Operand)) {m : Md} {x : i.ty.den} {g : G} {rs : List Nat} {e : Env} {I Ω : Nat → Prop} {Cm : Array Value} {k : Md × i.ty.den → Env → Option R}, St w a e γ I F H Ω → Mem w I F i.ty m x g → Sep i.ty m g → (∀ b, Own i.ty m g b → Ω b) → Cm.toList = cells i.ty x g →
    (fillM (Γ := Γ) i gv ps m x rs).run O e k = some r →
    ∃ m' x' g' e' I' Ω' Cm', k (m', x') e' = some r ∧ St w a e' γ I' F H Ω' ∧ Mem w I' F i.ty m' x' g' ∧ Sep i.ty m' g' ∧ (∀ b, Own i.ty m' g' b → Ω' b) ∧ (∀ b, I b → I' b) ∧ (∀ b, I' b → I b ∨ F b) ∧
      Instr.fill (places.toArray[·]?) Cm (ps.map fun q => (q.1, ev a q.2)) = some Cm' ∧ Cm'.toList = cells i.ty x' g'
  | [], m, x, g, rs, e, I, Ω, Cm, k, S, hM, hS, hO, hC, h => ⟨m, x, g, e, I, Ω, Cm, h, S, hM, hS, hO, fun _ h => h, fun _ h => .inl h, rfl, hC⟩
  | (j, o) :: ps, m, x, g, rs, e, I, Ω, Cm, k, S, hM, hS, hO, hC, h => by
    unfold fillM at h
    cases hf : i.fields[j]? with
    | none => rw [hf] at h; cases h
    | some f =>
      rw [hf] at h
      simp only [run_bind] at h
      obtain ⟨ov, D, h⟩ := rd_ok S hH o h
      obtain ⟨my, y, src, gy, Dd, h⟩ := asData_ok D h
      obtain ⟨p1, p2, m0, x0, p3⟩ := hpl j f hf
      obtain ⟨m1, x1, p4⟩ := sub_noat p2 p3 m x
      have W : Way i.ty m x g f.1 f.2 m1 x1 (gsub i.ty g f.1) := way p4 (okP_sub (g := g) p4 p2)
      -- the value is laid in
      have step : ∀ {e1 : Env} {I1 Ω1 : Nat → Prop} {mh : Md} (S1 : St w a e1 γ I1 F H Ω1) (hM1 : Mem w I1 F f.2 mh y gy) (hS1 : Sep f.2 mh gy) (hO1 : ∀ b, Own f.2 mh gy b → Ω1 b ∧ ¬ Ω b) (hΩ : ∀ b, Ω b → Ω1 b) (hI : ∀ b, I b → I1 b) (hI' : ∀ b, I1 b → I b ∨ F b) {rs' : List Nat} {x' : i.ty.den} {m' : Md}
          (hx : put i.ty x f.1 f.2 y = some x') (hm : mdPut i.ty m f.1 mh = some m') (h : (fillM (Γ := Γ) i gv ps m' x' rs').run O e1 k = some r),
          ∃ m' x' g' e' I' Ω' Cm', k (m', x') e' = some r ∧ St w a e' γ I' F H Ω' ∧ Mem w I' F i.ty m' x' g' ∧ Sep i.ty m' g' ∧ (∀ b, Own i.ty m' g' b → Ω' b) ∧ (∀ b, I b → I' b) ∧ (∀ b, I' b → I b ∨ F b) ∧
            Instr.fill (places.toArray[·]?) Cm (((j, o) :: ps).map fun q => (q.1, ev a q.2)) = some Cm' ∧ Cm'.toList = cells i.ty x' g' := by
        intro e1 I1 Ω1 mh S1 hM1 hS1 hO1 hΩ hI hI' rs' x' m' hx hm h
        have hnone : place i.ty g none f.1 = none := by rw [(W.ofs p2).2.1]; rfl
        obtain ⟨R1, R2, R3, _, R5⟩ := W.repl (w' := w) hM1 hS1 (fun _ _ => rfl) (c := none) (hM.mono hI fun _ _ k => k) hS hx (mdPut_R hm)
          (fun b hb k => (hO1 b hb).2 (hO b ((W.own_iff b).2 (.inl k)))) (fun _ _ _ => rfl) (fun ad had => by rw [hnone] at had; cases had) (fun ad had => by cases had)
        have hsz := (W.ofs p2).1
        have hv : ev a o = toV f.2 y gy := Dd.v
        have hvs : (toV f.2 y gy).cells.size = f.2.size := by rw [← Array.length_toList, toV_cells, cells_len]
        have hcs : Cm.size = i.ty.size := by rw [← Array.length_toList, hC, cells_len]
        obtain ⟨q1, q2⟩ := Great.foldl_set (ofs i.ty f.1) (toV f.2 y gy).cells.toList 0 Cm
        have hC' : (((toV f.2 y gy).cells.toList.zipIdx 0).foldl (fun cs (x : Value × Nat) => cs.setIfInBounds (ofs i.ty f.1 + x.2) x.1) Cm).toList = cells i.ty x' (gput i.ty g f.1 gy) := by
          apply List.ext_getElem?
          intro q
          rw [Array.getElem?_toList, q2 q, toV_cells, cells_len]
          by_cases hq : ofs i.ty f.1 ≤ q ∧ q < ofs i.ty f.1 + f.2.size
          · rw [if_pos (by omega), (R5 p2 q).1 hq.1 hq.2, Nat.add_zero]
          · rw [if_neg (by omega), (R5 p2 q).2 (by omega), ← hC, Array.getElem?_toList]
        obtain ⟨m2, x2, g2, e2, I2, Ω2, Cm2, t1, t2, t3, t4, t5, t6, t7, t8, t9⟩ := fillM_ok hpl hH ps (Cm := ((toV f.2 y gy).cells.toList.zipIdx 0).foldl (fun cs (x : Value × Nat) => cs.setIfInBounds (ofs i.ty f.1 + x.2) x.1) Cm) S1 R1 R2 (fun b hb => (R3 b hb).elim (fun k => hΩ b (hO b ((W.own_iff b).2 (.inl k)))) fun k => (hO1 b k).1) hC' h
        refine ⟨m2, x2, g2, e2, I2, Ω2, Cm2, t1, t2, t3, t4, t5, fun b hb => t6 b (hI b hb), fun b hb => (t7 b hb).elim (hI' b) .inr, ?_, t9⟩
        have hplj : places.toArray[j]? = some (ofs i.ty f.1, f.2.size) := by rw [List.getElem?_toArray]; exact p1
        simp only [List.map_cons, Instr.fill, hplj, hv, hvs]
        have hno : (decide (f.2.size ≠ f.2.size) || decide (ofs i.ty f.1 + f.2.size > Cm.size)) = false := by
          simp; omega
        rw [if_neg (by simpa using hno)]
        rw [← t8]
        congr 1
        rw [← Array.foldl_toList, Array.toList_zipIdx]
      rcases take_ok S hH Dd h with ⟨h, hno⟩ | ⟨n, p, hsrc, h⟩
      · simp only [run_bind] at h
        obtain ⟨x', hx, h⟩ := run_ofOpt h
        obtain ⟨m', hm, h⟩ := run_ofOpt h
        exact step S Dd.mem.keep Dd.sep.keep (fun b hb => absurd hb.keep (hno b)) (fun _ h => h) (fun _ h => h) (fun _ h => .inl h) hx hm h
      · split at h
        · cases h
        · rw [run_bind] at h
          have A : SrcAt e γ (some (n, p)) f.2 my y gy := hsrc ▸ Dd.src
          obtain ⟨mh, e1, I1, Ω1, h, HD⟩ := handOver_ok S hH Dd.mem Dd.sep A h
          simp only [run_bind] at h
          obtain ⟨x', hx, h⟩ := run_ofOpt h
          obtain ⟨m', hm, h⟩ := run_ofOpt h
          exact step HD.st HD.mem HD.sep HD.own HD.flt HD.imm (fun b hb => (HD.new b hb).imp id (·.1)) hx hm h

theorem buildM_ok (S : St w a e γ I F H Ω) (hH : ∀ n, ¬ H n) {T : TypeId} {i : TInfo} (hT : TyOk P T i) (hg : i.ty.agg = true) (hne : i.fields ≠ []) {d : Option Nat} {gv : Bool} {ps : Array (Nat × Operand)} {k : Unit → Env → Option R} (h : (buildM (Γ := Γ) d i gv ps.toList).run O e k = some r) :
    ∃ v, (Instr.build T (ps.map fun q => (q.1, ev a q.2))).run P w = .ok v w ∧ Done k r w (outP d a v) I F H := by
  unfold buildM at h
  rw [run_bind] at h
  obtain ⟨fs, places, hu, hmap, hpl⟩ := hT.bld hg hne
  obtain ⟨di, hi, hsz, hz⟩ := hT.info
  obtain ⟨d1, d2, d3⟩ := dflt_ok (w := w) (I := I) (F := F) i.ty
  obtain ⟨m', x', g', e', I', Ω', Cm', t1, t2, t3, t4, t5, t6, t7, t8, t9⟩ := fillM_ok hpl hH ps.toList (Cm := (toV i.ty i.ty.dflt .lf).cells) S d1 d2 (fun b hb => absurd hb (d3 b)) toV_cells h
  have hb : P.built T (ps.map fun q => (q.1, ev a q.2)).toList = some Cm' := by
    unfold Program.built
    simp only [hi, hu, hz, hmap]
    rw [Array.toList_map]
    exact t8
  have hv : toV i.ty x' g' = .agg Cm' := by
    unfold toV
    rw [hg, if_pos rfl, ← t9, Array.toArray_toList]
  exact ⟨toV i.ty x' g', by rw [hv]; exact run_build w T _ _ hb, Done.of' (outVal_ok t2 hH t3 t4 t5 t1) t6 t7⟩

/-- rows of a literal, laid so far -/
theorem rowM_ok {el : Ty} {gv : Bool} (hH : ∀ n, ¬ H n) :
    ∀ (ps : List (Nat × Operand)) {n : Nat} {xs : List el.den} {m : Option Md} {rs : List Nat} {e : Env} {I Ω : Nat → Prop} {K : Nat → G} {vs : List Value} {k : Option Md × List el.den → Env → Option R}, St w a e γ I F H Ω →
    List.length xs = n → (∀ mm, m = some mm → (∀ i, i < n → Mem w I F el mm (List.getD xs.reverse i el.dflt) (K i) ∧ Sep el mm (K i) ∧ ∀ b, Own el mm (K i) b → Ω b) ∧ ∀ i j b, i < n → j < n → i ≠ j → Own el mm (K i) b → ¬ Own el mm (K j) b) → (m = none → n = 0) →
    vs.length = n → (∀ i, i < n → vs[i]? = some (toV el (List.getD xs.reverse i el.dflt) (K i))) →
    (rowM (Γ := Γ) el gv ps n xs m rs).run O e k = some r →
    ∃ (m' : Option Md) (X : List el.den) (e' : Env) (I' Ω' : Nat → Prop) (K' : Nat → G) (vs' : List Value), k (m', X) e' = some r ∧ St w a e' γ I' F H Ω' ∧ (∀ b, I b → I' b) ∧ (∀ b, I' b → I b ∨ F b) ∧ vs'.length = List.length X ∧ (∀ i, i < List.length X → vs'[i]? = some (toV el (List.getD X i el.dflt) (K' i))) ∧
      (∀ mm, m' = some mm → (∀ i, i < List.length X → Mem w I' F el mm (List.getD X i el.dflt) (K' i) ∧ Sep el mm (K' i) ∧ ∀ b, Own el mm (K' i) b → Ω' b) ∧ ∀ i j b, i < List.length X → j < List.length X → i ≠ j → Own el mm (K' i) b → ¬ Own el mm (K' j) b) ∧
      (m' = none → List.length X = 0) ∧ (ps.map fun q => (q.1, ev a q.2)) = ((vs'.drop n).zipIdx n).map (fun x => (x.2, x.1)) ∧ vs'.take n = vs
  | [], n, xs, m, rs, e, I, Ω, K, vs, k, S, hn, hM, hm0, hvl, hvs, h => by
    subst hn
    refine ⟨m, xs.reverse, e, I, Ω, K, vs, h, S, fun _ h => h, fun _ h => .inl h, by simp [hvl], by simpa using hvs, by simpa using hM, by simpa using hm0, ?_, ?_⟩
    · rw [List.drop_of_length_le (by omega)]; rfl
    · rw [← hvl]; exact List.take_length
  | (j, o) :: ps, n, xs, m, rs, e, I, Ω, K, vs, k, S, hn, hM, hm0, hvl, hvs, h => by
    unfold rowM at h
    split at h
    · rename_i hj
      subst hj
      simp only [run_bind] at h
      obtain ⟨ov, D, h⟩ := rd_ok S hH o h
      obtain ⟨my, y, src, gy, Dd, h⟩ := asData_ok D h
      have step : ∀ {e1 : Env} {I1 Ω1 : Nat → Prop} {mh m1 : Md} (S1 : St w a e1 γ I1 F H Ω1) (hM1 : Mem w I1 F el mh y gy) (hS1 : Sep el mh gy) (hO1 : ∀ b, Own el mh gy b → Ω1 b ∧ ¬ Ω b) (hΩ : ∀ b, Ω b → Ω1 b) (hI : ∀ b, I b → I1 b) (hI' : ∀ b, I1 b → I b ∨ F b) {rs' : List Nat}
          (hm : joinO el m mh = some m1) (h : (rowM (Γ := Γ) el gv ps (j + 1) (y :: xs) (some m1) rs').run O e1 k = some r),
          ∃ (m' : Option Md) (X : List el.den) (e' : Env) (I' Ω' : Nat → Prop) (K' : Nat → G) (vs' : List Value), k (m', X) e' = some r ∧ St w a e' γ I' F H Ω' ∧ (∀ b, I b → I' b) ∧ (∀ b, I' b → I b ∨ F b) ∧ vs'.length = List.length X ∧ (∀ i, i < List.length X → vs'[i]? = some (toV el (List.getD X i el.dflt) (K' i))) ∧
            (∀ mm, m' = some mm → (∀ i, i < List.length X → Mem w I' F el mm (List.getD X i el.dflt) (K' i) ∧ Sep el mm (K' i) ∧ ∀ b, Own el mm (K' i) b → Ω' b) ∧ ∀ i j b, i < List.length X → j < List.length X → i ≠ j → Own el mm (K' i) b → ¬ Own el mm (K' j) b) ∧
            (m' = none → List.length X = 0) ∧ (((j, o) :: ps).map fun q => (q.1, ev a q.2)) = ((vs'.drop j).zipIdx j).map (fun x => (x.2, x.1)) ∧ vs'.take j = vs := by
        intro e1 I1 Ω1 mh m1 S1 hM1 hS1 hO1 hΩ hI hI' rs' hm h
        have hxl : List.length xs.reverse = j := by rw [List.length_reverse]; exact hn
        have hgl : ∀ i, i < j → List.getD (y :: xs).reverse i el.dflt = List.getD xs.reverse i el.dflt := fun i hi => by
          rw [List.reverse_cons, List.getD_eq_getElem?_getD, List.getElem?_append_left (by omega), List.getD_eq_getElem?_getD]
        have hgn : List.getD (y :: xs).reverse j el.dflt = y := by
          rw [List.reverse_cons, List.getD_eq_getElem?_getD, List.getElem?_append_right (by omega), hxl, Nat.sub_self]; rfl
        -- the joined mode fits both
        have jn : (Mem w I1 F el mh y gy → Mem w I1 F el m1 y gy) ∧ (Sep el mh gy → Sep el m1 gy) ∧ (∀ b, Own el m1 gy b → Own el mh gy b) := by
          cases m with
          | none => simp only [joinO, Option.some.injEq] at hm; subst hm; exact ⟨id, id, fun _ => id⟩
          | some m0 => have := join_ok (w := w) (I := I1) (F := F) hm (x := y) (g := gy); exact ⟨this.2.1, this.2.2.2.1, fun b hb => (this.2.2.2.2 b hb).2⟩
        have jo : ∀ i, i < j → Mem w I1 F el m1 (List.getD xs.reverse i el.dflt) (K i) ∧ Sep el m1 (K i) ∧ (∀ b, Own el m1 (K i) b → Ω b) := fun i hi => by
          cases m with
          | none => have := hm0 rfl; omega
          | some m0 =>
            obtain ⟨h1, h2, h3⟩ := (hM m0 rfl).1 i hi
            have := join_ok (w := w) (I := I1) (F := F) hm (x := List.getD xs.reverse i el.dflt) (g := K i)
            exact ⟨this.1 (h1.mono hI fun _ _ k => k), this.2.2.1 h2, fun b hb => h3 b (this.2.2.2.2 b hb).1⟩
        have jp : ∀ i i' b, i < j → i' < j → i ≠ i' → Own el m1 (K i) b → ¬ Own el m1 (K i') b := fun i i' b hi hi' hne h1 h2 => by
          cases m with
          | none => have := hm0 rfl; omega
          | some m0 =>
            have a1 := join_ok (w := w) (I := I1) (F := F) hm (x := el.dflt) (g := K i)
            have a2 := join_ok (w := w) (I := I1) (F := F) hm (x := el.dflt) (g := K i')
            exact (hM m0 rfl).2 i i' b hi hi' hne (a1.2.2.2.2 b h1).1 (a2.2.2.2.2 b h2).1
        have IH := rowM_ok hH ps (n := j + 1) (xs := y :: xs) (m := some m1) (rs := rs') (K := upd K j gy) (vs := vs ++ [toV el y gy]) (k := k) S1 (by simp [hn]) (fun mm hmm => by
          simp only [Option.some.injEq] at hmm
          subst hmm
          refine ⟨fun i hi => ?_, fun i i' b hi hi' hne h1 h2 => ?_⟩
          · by_cases c : i = j
            · subst c; rw [hgn, upd_self]; exact ⟨jn.1 hM1, jn.2.1 hS1, fun b hb => (hO1 b (jn.2.2 b hb)).1⟩
            · rw [hgl i (by omega), upd_ne _ _ c]; obtain ⟨u1, u2, u3⟩ := jo i (by omega); exact ⟨u1, u2, fun b hb => hΩ b (u3 b hb)⟩
          · by_cases c : i = j
            · subst c
              have c' : i' ≠ i := fun c => hne c.symm
              rw [upd_self] at h1; rw [upd_ne _ _ c'] at h2
              exact (hO1 b (jn.2.2 b h1)).2 ((jo i' (by omega)).2.2 b h2)
            · rw [upd_ne _ _ c] at h1
              by_cases c' : i' = j
              · subst c'; rw [upd_self] at h2
                exact (hO1 b (jn.2.2 b h2)).2 ((jo i (by omega)).2.2 b h1)
              · rw [upd_ne _ _ c'] at h2; exact jp i i' b (by omega) (by omega) hne h1 h2) (fun c => by cases c) (by simp [hvl]) (fun i hi => by
          by_cases c : i = j
          · subst c; rw [hgn, upd_self, List.getElem?_append_right (by omega), hvl, Nat.sub_self]; rfl
          · rw [hgl i (by omega), upd_ne _ _ c, List.getElem?_append_left (by omega)]; exact hvs i (by omega)) h
        obtain ⟨m2, X2, e2, I2, Ω2, K2, vs2, t1, t2, t3, t4, t5, t6, t7, t8, t9, t10⟩ := IH
        have hlen2 : j < vs2.length := by
          have := congrArg List.length t10
          simp only [List.length_take, List.length_append, List.length_singleton, hvl] at this
          omega
        have h10 : vs2.take j = vs := by
          have := congrArg (List.take j) t10
          rw [List.take_take, Nat.min_eq_left (by omega), List.take_append_of_le_length (by omega), ← hvl, List.take_length] at this
          rw [← hvl]; exact this
        have hj2 : vs2[j]'hlen2 = toV el y gy := by
          have h1 : (vs2.take (j + 1))[j]? = some (toV el y gy) := by rw [t10, List.getElem?_append_right (by omega), hvl, Nat.sub_self]; rfl
          rw [List.getElem?_take, if_pos (by omega), List.getElem?_eq_getElem hlen2] at h1
          exact Option.some.inj h1
        refine ⟨m2, X2, e2, I2, Ω2, K2, vs2, t1, t2, fun b hb => t3 b (hI b hb), fun b hb => (t4 b hb).elim (hI' b) .inr, t5, t6, t7, t8, ?_, h10⟩
        rw [List.drop_eq_getElem_cons hlen2, hj2]
        simp only [List.map_cons, List.zipIdx_cons]
        rw [t9]
        have : ev a o = toV el y gy := Dd.v
        rw [this]
      rcases take_ok S hH Dd h with ⟨h, hno⟩ | ⟨n', p, hsrc, h⟩
      · simp only [run_bind] at h
        obtain ⟨m1, hm, h⟩ := run_ofOpt h
        exact step S Dd.mem.keep Dd.sep.keep (fun b hb => absurd hb.keep (hno b)) (fun _ h => h) (fun _ h => h) (fun _ h => .inl h) hm h
      · split at h
        · cases h
        · rw [run_bind] at h
          have A : SrcAt e γ (some (n', p)) el my y gy := hsrc ▸ Dd.src
          obtain ⟨mh, e1, I1, Ω1, h, HD⟩ := handOver_ok S hH Dd.mem Dd.sep A h
          simp only [run_bind] at h
          obtain ⟨m1, hm, h⟩ := run_ofOpt h
          exact step HD.st HD.mem HD.sep HD.own HD.flt HD.imm (fun b hb => (HD.new b hb).imp id (·.1)) hm h
    · cases h

theorem rowSrc_ok (S : St w a e γ I F H Ω) (hH : ∀ n, ¬ H n) {al : Bool} {el : Ty} {ps : List (Nat × Operand)} {k : Option Nat → Env → Option R} (h : (rowSrc (Γ := Γ) al el ps).run O e k = some r) :
    ∃ s, k s e = some r ∧ ∀ n, s = some n → ∃ j o, ps = [(j, o)] ∧ ev a o = a n := by
  have triv : k none e = some r → ∃ s, k s e = some r ∧ ∀ n, s = some n → ∃ j o, ps = [(j, o)] ∧ ev a o = a n := fun h => ⟨none, h, fun n c => by cases c⟩
  unfold rowSrc at h
  split at h
  · split at h
    · rename_i j o
      rw [run_bind] at h
      obtain ⟨ov, D, h⟩ := rd_ok S hH o h
      rw [run_bind] at h
      obtain ⟨my, y, src, gy, Dd, h⟩ := asData_ok D h
      simp only [M.run] at h
      cases src with
      | none => exact triv h
      | some sr =>
        obtain ⟨n', p⟩ := sr
        cases p with
        | cons s p => exact triv h
        | nil =>
          simp only [M.run] at h
          split at h
          · rename_i t m x hx
            refine ⟨_, h, fun n c => ⟨j, o, rfl, ?_⟩⟩
            cases c
            obtain ⟨kk, T, N, X, e1, W⟩ := Dd.src
            obtain ⟨e0, e0'⟩ := W.nil_eq
            cases e0
            rw [hx] at e1
            cases e1
            obtain ⟨h1, _, _⟩ := (S.slot n' (hH n')).valMem hx
            rw [Dd.v, h1, ← e0']; rfl
          · exact triv h
    · exact triv h
  · exact triv h
theorem rowAliasM_ok (S : St w a e γ I F H Ω) (hH : ∀ n, ¬ H n) {s d : Option Nat} {el : Ty} {m : Md} {X : List el.den}
    (hd : ∀ n d', s = some n → d = some d' → n ≠ d' → (∃ t m x, (e.get n).sv = .val .reg t m x) → (e.get d').sv = .val .reg (.sl el) (.own m) X ∧ 0 < (γ d').g.len ∧ a n = toV el (X.getD 0 el.dflt) ((γ d').g.kid 0)) {k : Unit → Env → Option R} (h : (rowAliasM (Γ := Γ) s d el).run O e k = some r) :
    ∃ e' γ', k () e' = some r ∧ St w a e' γ' I F H (fun _ => False) := by
  have triv : k () e = some r → ∃ e' γ', k () e' = some r ∧ St w a e' γ' I F H (fun _ => False) := fun h => ⟨e, γ, h, S.drop fun _ k => k.elim⟩
  unfold rowAliasM at h
  split at h
  · rename_i n d'
    split at h
    · exact triv h
    · rename_i hne
      simp only [M.run] at h
      split at h
      · rename_i t' m' x' hq
        simp only [M.run] at h
        obtain ⟨q1, q2, q3⟩ := hd n d' rfl rfl hne ⟨_, _, _, hq⟩
        have hr : RefSt (e.get d') (γ d') .ali (e.get d').ver (e.get d').sver (e.get d').dver [.at 0] el (a n) := by
          refine RefSt.self (z := e.get d') (γ := γ d') q1 ⟨⟨q2, by cases el <;> trivial⟩, el.mine, X.getD 0 el.dflt, ?_, ?_⟩
          · cases el <;> rfl
          · show a n = if _ then _ else _
            rw [if_neg (fun c => by cases c.2), q3]
            have : gsub (.sl el) (γ d').g [.at 0] = (γ d').g.kid 0 := by cases el <;> rfl
            rw [this]
        have W := S.write n (hH n) (sv := .ref .ali d' (e.get d').ver (e.get d').sver (e.get d').dver [.at 0] el) (γ' := ⟨none, .lf⟩) (v := a n) trivial (fun b hb => hb.elim) (fun _ _ _ _ _ _ _ c => by cases c; exact hr)
        rw [upd_eq_self] at W
        exact ⟨_, _, h, W.drop fun _ k => k.elim⟩
      · exact triv h
  · exact triv h

theorem buildSliceM_ok (S : St w a e γ I F H Ω) (hH : ∀ n, ¬ H n) {T : TypeId} {i : TInfo} (hT : TyOk P T i) {d : Option Nat} {gv al : Bool} {len : Nat} {ps : Array (Nat × Operand)} {k : Unit → Env → Option R} (h : (buildSliceM (Γ := Γ) d i.ty len gv al ps.toList).run O e k = some r) :
    ∃ v w', (Instr.buildSlice T len (ps.map fun q => (q.1, ev a q.2))).run P w = .ok v w' ∧ Wk I F w w' ∧ Done k r w' (outP d a v) I F H := by
  unfold buildSliceM at h
  cases hi : i.ty with
  | sl el =>
    rw [hi] at h
    simp only [run_bind] at h
    obtain ⟨E, di, hu, hE, hsz, hz, h0, hby, _⟩ := slInfo hT hi
    obtain ⟨src, h, hsrc⟩ := rowSrc_ok S hH h
    obtain ⟨m', X, e', I', Ω', K', vs, t1, t2, t3, t4, t5, t6, t7, t8, t9, t10⟩ := rowM_ok hH ps.toList (n := 0) (xs := []) (m := none) (K := fun _ => .lf) (vs := []) S rfl (fun mm c => by cases c) (fun _ => rfl) rfl (fun i hi => absurd hi (Nat.not_lt_zero _)) h
    simp only at t1
    split at t1
    · rename_i hl
      simp only [Bool.and_eq_true, decide_eq_true_eq] at hl
      obtain ⟨hl, hsm⟩ := hl
      have hparts : (ps.map fun q => (q.1, ev a q.2)).toList = (vs.zipIdx 0).map fun x => (x.2, x.1) := by
        rw [Array.toList_map, t9]; rfl
      have hvs : ∀ v ∈ vs, v.cells.size = di.size := fun v hv => by
        obtain ⟨q, hq, rfl⟩ := List.mem_iff_getElem.1 hv
        have := t6 q (by omega)
        rw [List.getElem?_eq_getElem hq] at this
        rw [Option.some.inj this, ← Array.length_toList, toV_cells, cells_len, hsz]
      have hfl : vs.flatMap (fun v => v.cells.toList) = rowC el X K' len := by
        have e1 : vs = (List.range len).map fun q => toV el (List.getD X q el.dflt) (K' q) := by
          apply List.ext_getElem?
          intro q
          by_cases hq : q < len
          · rw [t6 q (by omega), List.getElem?_map, List.getElem?_range hq]; rfl
          · rw [List.getElem?_eq_none (by omega), List.getElem?_eq_none (by simp; omega)]
        rw [e1, List.flatMap_map]
        exact fm_congr _ fun q _ => toV_cells
      have hfill : Instr.fill (fun i => some (i * di.size, di.size)) ((Array.range (len * di.size)).map ((toV el el.dflt .lf).cells[· % (toV el el.dflt .lf).cells.size]!)) (ps.map fun q => (q.1, ev a q.2)).toList = some (rowC el X K' len).toArray := by
        rw [hparts, ← hfl]
        exact Great.fill_whole (by omega) vs _ hvs (by simp; rw [t5, hl])
      have hrun : (Instr.buildSlice T len (ps.map fun q => (q.1, ev a q.2))).run P w = .ok (.slice (some ⟨w.heap.size, 0, none⟩) len len) (w.alloc (.cells (rowC el X K' len).toArray E)) := by
        by_cases h00 : len * di.size = 0
        · have hl0 : len = 0 := by
            rcases Nat.mul_eq_zero.1 h00 with c | c
            · exact c
            · omega
          have hv0 : vs = [] := List.eq_nil_of_length_eq_zero (by omega)
          rw [hv0] at hparts
          have hp0 : (ps.map fun q => (q.1, ev a q.2)).toList = [] := hparts
          have hp1 : ps = #[] := by
            have : ps.toList = [] := by simpa using hp0
            exact Array.toList_eq_nil_iff.1 this
          subst hl0 hp1
          simp [Instr.buildSlice, run_underlying hu, sizeOf, typeInfo, hE, Instr.fill, newRow, rowC, Array.range_zero']
        · exact run_buildSlice w T E len _ _ di _ hu hE hz (by rw [hsz]; omega) h00 hfill
      have S1 := t2.fresh (.cells (rowC el X K' len).toArray E)
      have hcells : At (w.alloc (.cells (rowC el X K' len).toArray E)) (some ⟨w.heap.size, 0, none⟩) 0 (rowC el X K' len) := by
        rw [At.blk (heap_alloc_new w _)]
        intro q v hq
        rw [Nat.zero_add, List.getElem?_toArray]; simpa using hq
      have hfr : ∀ (b : Nat), b < w.heap.size → (w.alloc (.cells (rowC el X K' len).toArray E)).heap[b]? = w.heap[b]? := fun b hb => heap_alloc_old _ _ _ hb
      -- the elements' mode
      obtain ⟨mm, hmm, hel⟩ : ∃ mm, m'.getD el.mine = mm ∧ ((∀ i, i < List.length X → Mem w I' F el mm (List.getD X i el.dflt) (K' i) ∧ Sep el mm (K' i) ∧ ∀ b, Own el mm (K' i) b → Ω' b) ∧ ∀ i j b, i < List.length X → j < List.length X → i ≠ j → Own el mm (K' i) b → ¬ Own el mm (K' j) b) := by
        cases m' with
        | some mm => exact ⟨mm, rfl, t7 mm rfl⟩
        | none =>
          have := t8 rfl
          exact ⟨_, rfl, fun i hi => by omega, fun i j b hi => by omega⟩
      rw [hmm] at t1
      have hM : Mem (w.alloc (.cells (rowC el X K' len).toArray E)) I' F (.sl el) (.own mm) X (.hd (some ⟨w.heap.size, 0, none⟩) len len K') := by
        refine ⟨hl.symm, .inr ⟨w.heap.size, 0, _, E, rfl, heap_alloc_new _ _, by simp [rowC_len, G.cap], Nat.le_refl _, ?_⟩, fun q hq => ?_⟩
        · simp only [G.cap_hd, maxLen]
          have : len ≤ len * el.size := Nat.le_mul_of_pos_right _ h0
          omega
        · have := At_row.2 hcells q hq
          rw [Nat.zero_add] at this
          refine ⟨this, ((hel.1 q (by rw [hl]; exact hq)).1).frame fun b hb => hfr b ?_⟩
          exact hb.elim (fun hb => (t2.lvΩ b ((hel.1 q (by rw [hl]; exact hq)).2.2 b hb)).2.2) (t2.imm b)
      have hS : Sep (.sl el) (.own mm) (.hd (some ⟨w.heap.size, 0, none⟩) len len K') := by
        refine ⟨fun q hq => (hel.1 q (by rw [hl]; exact hq)).2.1, fun q q' b hq hq' => hel.2 q q' b (by rw [hl]; exact hq) (by rw [hl]; exact hq'), fun ad q had hq h1 => ?_⟩
        cases had
        have := (t2.lvΩ _ ((hel.1 q (by rw [hl]; exact hq)).2.2 _ h1)).2.2
        simp only at this
        omega
      refine ⟨_, _, hrun, Wk.alloc _ _ _ _, ?_⟩
      have hown : ∀ b, Own (.sl el) (.own mm) (.hd (some ⟨w.heap.size, 0, none⟩) len len K') b → Ω' b ∨ b = w.heap.size := fun b hb => by
        rcases hb with ⟨ad, had, rfl⟩ | ⟨q, hq, hb⟩
        · cases had; exact .inr rfl
        · exact .inl ((hel.1 q (by rw [hl]; exact hq)).2.2 b hb)
      rw [run_bind] at t1
      cases d with
      | none =>
        obtain ⟨e2, γ2, t1, S2⟩ := outVal_ok (d := none) S1 hH hM hS hown t1
        refine Done.of' (rowAliasM_ok S2 hH (m := mm) (X := X) (fun n d' _ c => by cases c) t1) t3 t4
      | some d =>
        obtain ⟨ve', t1, S2⟩ := newSv_ok S1 hH (d := d) (γ' := ⟨none, .hd (some ⟨w.heap.size, 0, none⟩) len len K'⟩) (v := toV (.sl el) X (.hd (some ⟨w.heap.size, 0, none⟩) len len K')) (fun z hz => by unfold SlotOk; rw [hz]; exact ⟨rfl, hM, hS, rfl⟩)
          (fun z hz b hb => by unfold OwnS at hb; rw [hz] at hb; exact hown b hb) (fun _ _ _ _ _ _ _ c => by cases c) t1
        refine Done.of' (rowAliasM_ok S2 hH (m := mm) (X := X) (fun n d' hs c hne hex => ?_) t1) t3 t4
        cases c
        obtain ⟨j, o, hps, hval⟩ := hsrc n hs
        have hl1 : vs.length = 1 := by
          have := congrArg List.length t9
          rw [hps] at this
          simpa using this.symm
        have hX1 : List.length X = 1 := by omega
        have hv0 : vs[0]? = some (ev a o) := by
          rw [hps] at t9
          obtain ⟨v0, rfl⟩ : ∃ v0, vs = [v0] := List.length_eq_one_iff.1 hl1
          simp at t9
          rw [t9.2]; rfl
        have hv1 := t6 0 (by omega)
        rw [hv0] at hv1
        refine ⟨by rw [get_set_self], by rw [upd_self]; show 0 < len; omega, ?_⟩
        rw [upd_ne _ _ hne, upd_self, ← hval]
        exact Option.some.inj hv1
    · cases t1
  | _ => rw [hi] at h; cases h
end
end Go.Den
/-
  Operations of two operands.
-/
namespace Go.Den
open Go
set_option linter.unusedVariables false
set_option linter.unusedSimpArgs false
section
variable {P : Program} {Γ : Ctx} {O : Fun Γ} {R : Type} {w w' : World} {a : Nat → Value} {e : Env} {γ : Nat → Gs} {I F H Ω : Nat → Prop} {r : R}

theorem scal_part {T : TypeId} {t : Ty} (h : ScalOk P T t) {xs : Array Value} {o : Nat} {x : t.den} {g : G} (hx : ∀ j, j < t.size → xs[o + j]? = (cells t x g)[j]?) : (part T xs o).run P w = .ok (toV t x g) w := by
  have h0 : xs[o]? = some (toV t x g) := by
    cases t <;> first | (exact h.elim) | (have := hx 0 (by simp [Ty.size]); rw [Nat.add_zero] at this; rw [this]; rfl)
  have hagg : (isAgg T).run P w = .ok false w := by
    cases t <;> first | (exact h.elim) | (unfold ScalOk at h; simp [isAgg, run_underlying h])
  simp [part, hagg, h0]
theorem scal_eq {T : TypeId} {t : Ty} (h : ScalOk P T t) {x y : t.den} {g g' : G} {b : Bool} (hb : eqD t x y = some b) (d : Nat) : (Op.equalIn (d + 1) T (toV t x g) (toV t y g')).run P w = .ok b w := by
  cases t with
  | int k => simp only [eqD, Option.some.injEq] at hb; subst hb; exact run_equalIn_int w d T k k x y h
  | bool => simp only [eqD, Option.some.injEq] at hb; subst hb; exact run_equalIn_bool' w d T x y h
  | str =>
    simp only [eqD, Option.some.injEq] at hb; subst hb
    have := run_equalIn_string (P := P) w d T x y h
    rw [← beq_toListBytes] at this
    exact this
  | _ => exact h.elim
theorem eqF_run {xs ys : Array Value} (d : Nat) : ∀ {fs : List Field} {t : Ty} {o : Nat} {x y : t.den} {g g' : G} {b : Bool}, EqF P fs t o → eqD t x y = some b → (∀ j, j < t.size → xs[o + j]? = (cells t x g)[j]?) → (∀ j, j < t.size → ys[o + j]? = (cells t y g')[j]?) →
    (Op.eqFields (d + 1) xs ys fs).run P w = .ok b w
  | f :: r, .cons t u, o, x, y, g, g', b, hf, hb, hx, hy => by
    obtain ⟨h1, h2, h3, h4⟩ := hf
    simp only [eqD] at hb
    obtain ⟨p, hp, hb⟩ := Option.bind_eq_some_iff.1 hb
    obtain ⟨q, hq, hb⟩ := Option.bind_eq_some_iff.1 hb
    cases hb
    subst h2
    have hx1 : ∀ j, j < t.size → xs[f.offset + j]? = (cells t x.1 g.fst)[j]? := fun j hj => by
      have := hx j (by simp only [Ty.size]; omega)
      rw [this]; simp only [cells]; rw [List.getElem?_append_left (by rw [cells_len]; exact hj)]
    have hy1 : ∀ j, j < t.size → ys[f.offset + j]? = (cells t y.1 g'.fst)[j]? := fun j hj => by
      have := hy j (by simp only [Ty.size]; omega)
      rw [this]; simp only [cells]; rw [List.getElem?_append_left (by rw [cells_len]; exact hj)]
    have hx2 : ∀ j, j < u.size → xs[f.offset + t.size + j]? = (cells u x.2 g.snd)[j]? := fun j hj => by
      have := hx (t.size + j) (by simp only [Ty.size]; omega)
      rw [Nat.add_assoc, this]; simp only [cells]; rw [List.getElem?_append_right (by rw [cells_len]; omega), cells_len]; congr 1; omega
    have hy2 : ∀ j, j < u.size → ys[f.offset + t.size + j]? = (cells u y.2 g'.snd)[j]? := fun j hj => by
      have := hy (t.size + j) (by simp only [Ty.size]; omega)
      rw [Nat.add_assoc, this]; simp only [cells]; rw [List.getElem?_append_right (by rw [cells_len]; omega), cells_len]; congr 1; omega
    simp only [Op.eqFields]
    rw [if_pos h1]
    simp only [Sem.run_bind, scal_part (w := w) h3 hx1, scal_part (w := w) h3 hy1, Result.andThen_ok, scal_eq (w := w) h3 hp]
    cases p with
    | false => simp
    | true => simp [eqF_run d h4 hq hx2 hy2]
  | [f], .int k, o, x, y, g, g', b, hf, hb, hx, hy => by
    obtain ⟨h1, h2, h3⟩ := hf
    subst h2
    simp only [Op.eqFields]
    rw [if_pos h1]
    simp only [Sem.run_bind, scal_part (w := w) h3 hx, scal_part (w := w) h3 hy, Result.andThen_ok, scal_eq (w := w) h3 hb]
    cases b <;> simp
  | [f], .bool, o, x, y, g, g', b, hf, hb, hx, hy => by
    obtain ⟨h1, h2, h3⟩ := hf
    subst h2
    simp only [Op.eqFields]
    rw [if_pos h1]
    simp only [Sem.run_bind, scal_part (w := w) h3 hx, scal_part (w := w) h3 hy, Result.andThen_ok, scal_eq (w := w) h3 hb]
    cases b <;> simp
  | [f], .str, o, x, y, g, g', b, hf, hb, hx, hy => by
    obtain ⟨h1, h2, h3⟩ := hf
    subst h2
    simp only [Op.eqFields]
    rw [if_pos h1]
    simp only [Sem.run_bind, scal_part (w := w) h3 hx, scal_part (w := w) h3 hy, Result.andThen_ok, scal_eq (w := w) h3 hb]
    cases b <;> simp
  | [f], .unit, o, x, y, g, g', b, hf, hb, hx, hy => hf.2.2.elim
  | [f], .one _, o, x, y, g, g', b, hf, hb, hx, hy => hf.2.2.elim
  | [f], .sl _, o, x, y, g, g', b, hf, hb, hx, hy => hf.2.2.elim
  | [], t, o, x, y, g, g', b, hf, hb, hx, hy => by cases t <;> exact hf.elim
  | f :: f' :: r, .int _, o, x, y, g, g', b, hf, hb, hx, hy => hf.elim
  | f :: f' :: r, .bool, o, x, y, g, g', b, hf, hb, hx, hy => hf.elim
  | f :: f' :: r, .str, o, x, y, g, g', b, hf, hb, hx, hy => hf.elim
  | f :: f' :: r, .unit, o, x, y, g, g', b, hf, hb, hx, hy => hf.elim
  | f :: f' :: r, .one _, o, x, y, g, g', b, hf, hb, hx, hy => hf.elim
  | f :: f' :: r, .sl _, o, x, y, g, g', b, hf, hb, hx, hy => hf.elim
theorem guard_int {op : BinOp} {T : TypeId} {x y : Operand} {v u : Value} (h : (∃ k n, v = .int k n) ∨ (∃ b, v = .bool b) ∨ ∃ s, v = .string s) : (eqGuard op T x y v u).run P w = .ok () w := by
  rcases h with ⟨k, n, rfl⟩ | ⟨b, rfl⟩ | ⟨s, rfl⟩ <;> cases op <;> simp [eqGuard]
theorem binM_ok (S : St w a e γ I F H Ω) (hH : ∀ n, ¬ H n) {T : TypeId} {i : TInfo} (hT : TyOk P T i) {t2 : Ty} {d : Option Nat} {op : BinOp} {x y : Operand} {k : Unit → Env → Option R} (h : (binM (Γ := Γ) d op i.ty i.eq x y t2).run O e k = some r) :
    ∃ v, ((do eqGuard op T x y (ev a x) (ev a y); binOp op T (ev a x) (ev a y)) : Sem Value).run P w = .ok v w ∧ Done k r w (outP d a v) I F H := by
  unfold binM at h
  simp only [run_bind] at h
  obtain ⟨o, D, h⟩ := rd_ok S hH x h
  obtain ⟨o2, D2, h⟩ := rd_ok S hH y h
  have hu := hT.under
  have he := hT.eqs
  unfold UnderOk at hu
  obtain ⟨ty, fields, eqb⟩ := i
  simp only at h hu he
  have fin : ∀ {v : Value}, (eqGuard op T x y (ev a x) (ev a y)).run P w = .ok () w → (binOp op T (ev a x) (ev a y)).run P w = .ok v w → ((do eqGuard op T x y (ev a x) (ev a y); binOp op T (ev a x) (ev a y)) : Sem Value).run P w = .ok v w := fun h1 h2 => by
    simp only [Sem.run_bind, h1, Result.andThen_ok, h2]
  split at h
  · split at h
    · simp only [run_bind] at h
      obtain ⟨n, hn, h⟩ := asInt_ok D h
      obtain ⟨n2, hn2, h⟩ := asInt_ok D2 h
      obtain ⟨v, h1, h2⟩ := intBin_ok (P := P) S hH (T := T) (.inl rfl) h
      exact ⟨v, fin (guard_int (.inl ⟨_, _, hn⟩)) (by rw [hn, hn2]; exact h1), h2⟩
    · cases h
  · split at h
    · simp only [run_bind] at h
      obtain ⟨n, hn, h⟩ := asInt_ok D h
      obtain ⟨n2, hn2, h⟩ := asInt_ok D2 h
      obtain ⟨v, h1, h2⟩ := intBin_ok (P := P) S hH (T := T) (.inr (.inl rfl)) h
      exact ⟨v, fin (guard_int (.inl ⟨_, _, hn⟩)) (by rw [hn, hn2]; exact h1), h2⟩
    · cases h
  · simp only [run_bind] at h
    obtain ⟨n, hn, h⟩ := asInt_ok D h
    obtain ⟨n2, hn2, h⟩ := asInt_ok D2 h
    obtain ⟨v, h1, h2⟩ := intBin_ok (P := P) S hH (T := T) (.inr (.inr rfl)) h
    exact ⟨v, fin (guard_int (.inl ⟨_, _, hn⟩)) (by rw [hn, hn2]; exact h1), h2⟩
  · simp only [run_bind] at h
    obtain ⟨m1, y1, s1, g1, D1, h⟩ := asData_ok D h
    obtain ⟨m2, y2, s2, g2, D2, h⟩ := asData_ok D2 h
    have e1 : ev a x = .string y1 := D1.v
    have e2 : ev a y = .string y2 := D2.v
    obtain ⟨v, h1, h2⟩ := strBin_ok (P := P) S hH (T := T) h
    exact ⟨v, fin (guard_int (.inr (.inr ⟨_, e1⟩))) (by rw [e1, e2]; exact h1), h2⟩
  · simp only [run_bind] at h
    obtain ⟨n, hn, h⟩ := asBool_ok D h
    obtain ⟨n2, hn2, h⟩ := asBool_ok D2 h
    refine ⟨.bool (n == n2), fin (guard_int (.inr (.inl ⟨_, hn⟩))) ?_, Done.scal S hH rfl rfl h⟩
    rw [hn, hn2]
    have := run_equalIn_bool' (P := P) w 9999 T n n2 hu
    simp only [binOp]
    simp [Op.equal, Op.maxDepth, this]
  · simp only [run_bind] at h
    obtain ⟨n, hn, h⟩ := asBool_ok D h
    obtain ⟨n2, hn2, h⟩ := asBool_ok D2 h
    refine ⟨.bool (!(n == n2)), fin (guard_int (.inr (.inl ⟨_, hn⟩))) ?_, Done.scal S hH rfl rfl h⟩
    rw [hn, hn2]
    have := run_equalIn_bool' (P := P) w 9999 T n n2 hu
    simp only [binOp]
    simp [Op.equal, Op.maxDepth, this]
  · split at h
    · rename_i hq
      simp only [run_bind] at h
      obtain ⟨m1, y1, s1, g1, D1, h⟩ := asData_ok D h
      obtain ⟨m2, y2, s2, g2, D2, h⟩ := asData_ok D2 h
      obtain ⟨b, hb, h⟩ := run_ofOpt h
      obtain ⟨fs, f1, f2, f3, f4⟩ := he hq
      have e1 : ev a x = .agg (cells _ y1 g1).toArray := D1.v
      have e2 : ev a y = .agg (cells _ y2 g2).toArray := D2.v
      have hfo : P.fieldsOf T = fs := by simp [Program.fieldsOf, f1]
      have hr := run_equalIn_agg (P := P) w 9999 T (cells _ y1 g1).toArray (cells _ y2 g2).toArray (by rw [hfo]; exact f1) f2
      rw [hfo, eqF_run (w := w) 9998 (g := g1) (g' := g2) f4 hb (fun j _ => by simp) (fun j _ => by simp)] at hr
      refine ⟨.bool b, fin ?_ ?_, Done.scal S hH rfl rfl h⟩
      · rw [e1, e2]; exact run_eqGuard_agg w _ T x y _ _ f3
      · rw [e1, e2, run_eql_struct, hr]; rfl
    · cases h
  · split at h
    · rename_i hq
      simp only [run_bind] at h
      obtain ⟨m1, y1, s1, g1, D1, h⟩ := asData_ok D h
      obtain ⟨m2, y2, s2, g2, D2, h⟩ := asData_ok D2 h
      obtain ⟨b, hb, h⟩ := run_ofOpt h
      obtain ⟨fs, f1, f2, f3, f4⟩ := he hq
      have e1 : ev a x = .agg (cells _ y1 g1).toArray := D1.v
      have e2 : ev a y = .agg (cells _ y2 g2).toArray := D2.v
      have hfo : P.fieldsOf T = fs := by simp [Program.fieldsOf, f1]
      have hr := run_equalIn_agg (P := P) w 9999 T (cells _ y1 g1).toArray (cells _ y2 g2).toArray (by rw [hfo]; exact f1) f2
      rw [hfo, eqF_run (w := w) 9998 (g := g1) (g' := g2) f4 hb (fun j _ => by simp) (fun j _ => by simp)] at hr
      refine ⟨.bool (!b), fin ?_ ?_, Done.scal S hH rfl rfl h⟩
      · rw [e1, e2]; exact run_eqGuard_agg w _ T x y _ _ f3
      · rw [e1, e2, run_neq_struct, hr]; rfl
    · cases h
  · cases h
/-! ### maps from texts to numbers -/
def MapTyOk (P : Program) (T : TypeId) : Prop := ∃ kt et d, P.underlying T = some (.map kt et) ∧ P.underlying kt = some .string ∧ P.info? et = some d ∧ d.zero = some (.int .i64 0)
def kvs (l : List (ByteArray × Int)) : List (Value × Value) := l.map fun p => (Value.string p.1, Value.int .i64 p.2)
theorem find_now (k : ByteArray) (n : Int) : ∀ (es : List MapEntry) (l : List (ByteArray × Int)) (i : Nat), es.map (fun e => (e.key, e.val)) = kvs l →
    (Instr.findNow .string (.string k) es i = some none ∧ mget l k = 0 ∧ mput l k n = l ++ [(k, n)]) ∨
    ∃ j e, Instr.findNow .string (.string k) es i = some (some (i + j, .int .i64 (mget l k))) ∧ es[j]? = some e ∧ e.key = .string k ∧ j < l.length ∧ mput l k n = l.set j (k, n)
  | [], l, i, h => by
    cases l with
    | nil => exact .inl ⟨rfl, rfl, rfl⟩
    | cons _ _ => cases h
  | e :: es, l, i, h => by
    cases l with
    | nil => cases h
    | cons p l =>
      obtain ⟨a, v⟩ := p
      simp only [kvs, List.map_cons, List.cons.injEq, Prod.mk.injEq] at h
      obtain ⟨⟨h1, h2⟩, h3⟩ := h
      cases hk : (k == a) with
      | true =>
        have hka : k = a := (MapKept.bytes_beq k a).1 hk
        refine .inr ⟨0, e, ?_, rfl, by rw [h1, hka], by simp, ?_⟩
        · simp [Instr.findNow, Instr.sameNow, h1, h2, hk, mget]
        · simp [mput, hk]
      | false =>
        rcases find_now k n es l (i + 1) h3 with ⟨q1, q2, q3⟩ | ⟨j, e', q1, q2, q3, q4, q5⟩
        · refine .inl ⟨?_, ?_, ?_⟩
          · simp [Instr.findNow, Instr.sameNow, h1, hk, q1]
          · simp [mget, hk, q2]
          · simp [mput, hk, q3]
        · refine .inr ⟨j + 1, e', ?_, by simpa using q2, q3, by simp; omega, ?_⟩
          · simp only [Instr.findNow, Instr.sameNow, h1, hk, q1, mget, cond_false]
            rw [show i + 1 + j = i + (j + 1) by omega]
          · simp [mput, hk, q5]
theorem mapNewM_ok (S : St w a e γ I F H Ω) (hH : ∀ n, ¬ H n) {T : TypeId} {d : Option Nat} {k : Unit → Env → Option R} (h : (mapNewM (Γ := Γ) d).run O e k = some r) :
    ∃ v w', (Instr.makeMap T none).run P w = .ok v w' ∧ Wk I F w w' ∧ Done k r w' (outP d a v) I F H := by
  refine ⟨.map (some w.heap.size), w.alloc (.map #[] 0), by simp [Instr.makeMap], Wk.alloc _ _ _ _, Done.of (out_ok (S.fresh (.map #[] 0)) hH (γ' := ⟨none, .hd (some ⟨w.heap.size, 0, none⟩) 0 0 (fun _ => .lf)⟩) (fun z hz => ?_) (fun z hz b hb => ?_) (fun _ _ _ _ _ _ _ c => by cases c) h)⟩
  · unfold SlotOk
    rw [hz]
    exact ⟨rfl, ⟨rfl, trivial⟩, trivial, rfl, rfl, rfl, ⟨0, rfl⟩, _, _, _, [], rfl, heap_alloc_new _ _, rfl, rfl⟩
  · unfold OwnS at hb
    rw [hz] at hb
    rcases hb with ⟨a', ha, rfl⟩ | hb
    · cases ha; exact .inr rfl
    · exact hb.elim
theorem mapGetM_ok (S : St w a e γ I F H Ω) (hH : ∀ n, ¬ H n) {T : TypeId} (hT : MapTyOk P T) {d : Option Nat} {x y : Operand} {k : Unit → Env → Option R} (h : (mapGetM (Γ := Γ) d x y).run O e k = some r) :
    ∃ v, (Instr.lookup T (ev a x) (ev a y) false).run P w = .ok v w ∧ Done k r w (outP d a v) I F H := by
  unfold mapGetM at h
  rw [run_bind] at h
  obtain ⟨o, D, h⟩ := rd_ok S hH x h
  split at h
  · rename_i t m X src
    obtain ⟨n, rfl, e1, e2⟩ := D
    simp only [run_bind] at h
    obtain ⟨o2, D2, h⟩ := rd_ok S hH y h
    obtain ⟨m2, z, src2, g, Dd, h⟩ := asData_ok D2 h
    obtain ⟨l, hl, h⟩ := run_ofOpt h
    have slot := S.slot n (hH n)
    unfold SlotOk at slot
    rw [e1] at slot
    obtain ⟨s1, s2, s3, q1, q2, q3, q4, b, es, clock, l', ha, hC, hl', hes⟩ := slot
    subst q1
    have : l' = l := by
      have h1 : mapEs mapTy X = some X := rfl
      rw [h1] at hl'; cases hl'
      simp only [Ty.cast, dite_true] at hl
      exact Option.some.inj hl
    subst this
    have hv : ev a x = .map (some b) := by rw [e2, kV, ha]; rfl
    have hk : ev a y = .string z := Dd.v
    obtain ⟨kt, et, di, t1, t2, t3, t4⟩ := hT
    refine ⟨.int .i64 (mget l' z), ?_, Done.scal S hH rfl rfl h⟩
    rw [hv, hk]
    have hck : (Instr.checkKey es.isEmpty 10000 kt (.string z)).run P w = .ok () w := MapKept.run_checkKey t2 (by simp [MapKept.IsKey]) _ _
    rcases find_now z 0 es.toList l' 0 hes with ⟨f1, f2, _⟩ | ⟨j, e', f1, _, _, _, _⟩
    · have hf := MapKept.run_findKey (P := P) (w := w) t2 f1
      simp [Instr.lookup, run_underlying t1, MapKept.run_getObj_map hC, hck, hf, zeroValue, typeInfo, t3, t4, f2]
    · have hf := MapKept.run_findKey (P := P) (w := w) t2 f1
      simp [Instr.lookup, run_underlying t1, MapKept.run_getObj_map hC, hck, hf]
  · cases h
theorem St.obj (S : St w a e γ I F H Ω) (hH : ∀ n, ¬ H n) {n b : Nat} {o : Obj} (hb : OwnS (e.get n) (γ n) b) {w' : World} (hs : w'.heap.size = w.heap.size) (ho : ∀ c, c ≠ b → w'.heap[c]? = w.heap[c]?)
    {z : Slot} {γ' : Gs} (hz : SlotOk w' I F z (a n) γ') (hzo : ∀ c, OwnS z γ' c → OwnS (e.get n) (γ n) c) (hr : ∀ k v s d p t y, RefSt (e.get n) (γ n) k v s d p t y → RefSt z γ' k v s d p t y) (hzr : ∀ k r v s d p t, z.sv ≠ .ref k r v s d p t) (hzf : FnNew w' e a I z.sv (a n) := by exact fun _ _ h => (by cases h)) :
    St w' a (e.set n z) (upd γ n γ') I F H (fun _ => False) := by
  have hlv := S.lv n b (hH n) hb
  have So := S.opened n (hH n)
  have Sf := So.frame (w' := w') (Nat.le_of_eq hs.symm) fun c hc hk => ho c fun q => by
    subst q
    rcases hk with ⟨j, hj, hk⟩ | hk
    · exact S.sep j n _ (hH j) (hH n) (fun q => hj (.inr q)) hk hb
    · exact hlv.2.1 hk
  have hc := Sf.closed (r := n) (.inr rfl) hz rfl (fun c hc => .inr (hzo c hc)) hr hzr hzf
  exact (hc.holes fun j hj => hj.1.elim id fun k => absurd k hj.2).drop fun _ k => k.elim
theorem RefSt.mapPut {v s d : Nat} {X X' : mapTy.den} {γ γ' : Gs} {k' : RK} {v' s' d' : Nat} {p : List Step} {t : Ty} {y : Value} {ad : Option Addr} {n n' : Nat}
    (h : RefSt ⟨v, s, d, .val .map mapTy .gone X⟩ γ k' v' s' d' p t y) (hb : γ'.b = γ.b) (hg : γ.g = .hd ad n 0 fun _ => .lf) (hg' : γ'.g = .hd ad n' 0 fun _ => .lf) (hn : n ≤ n') :
    RefSt ⟨v, s, d, .val .map mapTy .gone X'⟩ γ' k' v' s' d' p t y := by
  refine ⟨h.1, fun c => ?_⟩
  obtain ⟨kk, T, M, X'', e1, o1, m, x, o2, o3⟩ := h.2 c
  cases e1
  obtain ⟨x', o2'⟩ := sub_any X' o2
  have ok' : okP mapTy γ'.g p := by
    rw [hg] at o1; rw [hg']
    match p, o1 with
    | [], _ => trivial
    | .at i :: p, o1 => exact ⟨Nat.lt_of_lt_of_le o1.1 hn, o1.2⟩
    | .l :: _, o1 => cases o1
    | .r :: _, o1 => cases o1
  have pl : place mapTy γ'.g γ'.b p = place mapTy γ.g γ.b p := by
    rw [hg, hg', hb]
    cases p with
    | nil => rfl
    | cons st p => cases st <;> rfl
  refine ⟨_, _, _, _, rfl, ok', m, x', o2', ?_⟩
  cases k' with
  | plc => obtain ⟨ad', q1, q2⟩ := o3; exact ⟨ad', pl.trans q1, q2⟩
  | clo g => obtain ⟨ad', q1, q2⟩ := o3; exact ⟨ad', pl.trans q1, q2⟩
  | ali =>
    have hp : p = [] := by
      match p, o2, c with
      | [], _, _ => rfl
      | .l :: _, o2, _ => cases o2
      | .r :: _, o2, _ => cases o2
      | .at i :: p, o2, c =>
        exfalso
        have hsl : t.isSl = true := by
          simp only [refOk, Bool.and_eq_true, Bool.or_eq_true, hasAt, Bool.not_true, Bool.and_false, Bool.false_eq_true, or_false] at c
          exact c.2.2
        have o2c : sub (.cons .str (.int .i64)) (Ty.cons .str (.int .i64)).mine (List.getD X i (Ty.cons .str (.int .i64)).dflt) p = some ⟨t, m, x⟩ := o2
        match p, o2c with
        | [], o2c => cases o2c; cases hsl
        | .l :: [], o2c => cases o2c; cases hsl
        | .r :: [], o2c => cases o2c; cases hsl
        | .l :: _ :: _, o2c => simp [sub] at o2c
        | .r :: _ :: _, o2c => simp [sub] at o2c
        | .at _ :: _, o2c => simp [sub] at o2c
    subst hp
    simp only [VK.whole, and_self, if_true] at o3 ⊢
    rw [o3, kV, kV, hg, hg']
    rfl
theorem mapPutM_ok (S : St w a e γ I F H Ω) (hH : ∀ n, ¬ H n) {T : TypeId} (hT : MapTyOk P T) {x y z : Operand} {k : Unit → Env → Option R} (h : (mapPutM (Γ := Γ) x y z).run O e k = some r) :
    ∃ w', (Instr.mapUpdate T (ev a x) (ev a y) (ev a z)).run P w = .ok () w' ∧ Wk I F w w' ∧ Done k r w' a I F H := by
  unfold mapPutM at h
  rw [run_bind] at h
  obtain ⟨o, D, h⟩ := rd_ok S hH x h
  split at h
  · rename_i t0 m0 X0 n
    obtain ⟨n', hn', e1, e2⟩ := D
    cases hn'
    simp only [run_bind] at h
    obtain ⟨o2, D2, h⟩ := rd_ok S hH y h
    obtain ⟨m2, ky, src2, g, Dd, h⟩ := asData_ok D2 h
    simp only [run_bind] at h
    obtain ⟨o3, D3, h⟩ := rd_ok S hH z h
    obtain ⟨nv, hnv, h⟩ := asInt_ok D3 h
    simp only [M.run] at h
    rw [e1] at h
    simp only [run_bind] at h
    obtain ⟨l, hl, h⟩ := run_ofOpt h
    have slot := S.slot n (hH n)
    have e1' : e.get n = ⟨(e.get n).ver, (e.get n).sver, (e.get n).dver, .val .map t0 m0 X0⟩ := by rw [← e1]
    unfold SlotOk at slot
    rw [e1] at slot
    obtain ⟨s1, s2, s3, q1, q2, q3, q4, b, es, clock, l', ha, hC, hl', hes⟩ := slot
    subst q1
    subst q2
    have hX : X0 = l := by
      simp only [Ty.cast, dite_true] at hl
      exact Option.some.inj hl
    have hl2 : l' = l := by
      have h1 : mapEs mapTy X0 = some X0 := rfl
      rw [h1] at hl'; cases hl'; exact hX
    subst hl2
    have hv : ev a x = .map (some b) := by rw [e2, kV, ha]; rfl
    have hk : ev a y = .string ky := Dd.v
    obtain ⟨kt, et, di, t1, t2, t3, t4⟩ := hT
    have hck : (Instr.checkKey false 10000 kt (.string ky)).run P w = .ok () w := MapKept.run_checkKey t2 (by simp [MapKept.IsKey]) _ _
    have hbl : b < w.heap.size := (Array.getElem?_eq_some_iff.1 hC).1
    have hown : OwnS (e.get n) (γ n) b := by rw [e1', OwnS.val]; exact .inl (.inr ⟨rfl, _, ha, rfl⟩)
    have hlv := S.lv n b (hH n) hown
    obtain ⟨gn, hgn⟩ := q4
    have hlen : gn = List.length X0 := by
      have := s2.1
      rw [hgn] at this; exact this
    -- the object after it
    have fin : ∀ (es' : Array MapEntry) (clock' : Nat), (Instr.mapUpdate T (ev a x) (ev a y) (ev a z)).run P w = .ok () { w with heap := w.heap.setIfInBounds b (.map es' clock') } →
        es'.toList.map (fun e => (e.key, e.val)) = kvs (mput l' ky nv) → l'.length ≤ (mput l' ky nv).length → ∃ w', (Instr.mapUpdate T (ev a x) (ev a y) (ev a z)).run P w = .ok () w' ∧ Wk I F w w' ∧ Done k r w' a I F H := by
      intro es' clock' hrun hes' hle
      obtain ⟨hb1, hb2⟩ := MapKept.heap_set (o' := .map es' clock') hC
      refine ⟨_, hrun, ⟨rfl, rfl, rfl, by simp, Nat.le_refl _, fun c hc hk => hb2 c fun q => ?_⟩, ?_⟩
      · subst q
        exact hk.elim hlv.2.1 fun hk => hk hlv.1
      · have S' := S.obj hH (o := .map es' clock') hown (w' := { w with heap := w.heap.setIfInBounds b (.map es' clock') }) (by simp) hb2
          (z := ⟨(e.get n).ver, (e.get n).sver, (e.get n).dver, .val .map mapTy .gone (mput l' ky nv)⟩) (γ' := ⟨none, .hd (γ n).g.addr (mput l' ky nv).length 0 fun _ => .lf⟩)
          ⟨by rw [s1]; rfl, ⟨rfl, trivial⟩, trivial, rfl, rfl, rfl, ⟨_, rfl⟩, b, es', clock', _, ha, hb1, rfl, hes'⟩
          (fun c hc => by
            rw [e1', OwnS.val]
            rcases (show (∃ a', (γ n).g.addr = some a' ∧ a'.block = c) ∨ False from hc) with ⟨a', ha', hc⟩ | hc
            · exact .inl (.inr ⟨rfl, a', ha', hc⟩)
            · exact hc.elim)
          (fun k v s d p t y hr => by
            rw [e1'] at hr
            exact hr.mapPut (ad := (γ n).g.addr) (n := gn) (n' := (mput l' ky nv).length) q3.symm hgn rfl (by rw [hlen, hX]; exact hle))
          (fun _ _ _ _ _ _ _ c => by cases c)
        exact ⟨_, _, I, h, S', fun _ k => k, fun _ k => .inl k⟩
    rcases find_now ky nv es.toList l' 0 hes with ⟨f1, f2, f3⟩ | ⟨j, e', f1, f4, f5, f6, f7⟩
    · have hf := MapKept.run_findKey (P := P) (w := w) t2 f1
      refine fin (es.push { key := .string ky, val := .int .i64 nv, born := clock }) (clock + 1) ?_ ?_ (by rw [f3]; simp)
      · rw [hv, hk, hnv]
        simp [Instr.mapUpdate, run_underlying t1, MapKept.run_getObj_map hC, hck, hf, MapKept.run_setObj_map _ hC]
      · rw [f3]
        have : es.toList.map (fun e => (e.key, e.val)) = kvs l' := hes
        simp [kvs] at this ⊢
        exact this
    · have hf := MapKept.run_findKey (P := P) (w := w) t2 f1
      have hej : es[0 + j]? = some e' := by rw [Nat.zero_add, ← Array.getElem?_toList]; exact f4
      have hsame : Instr.sameBits 10000 (.string ky) (.string ky) = true := by
        show (ky == ky) = true
        exact (MapKept.bytes_beq ky ky).2 rfl
      refine fin (es.modify (0 + j) fun e => { e with key := .string ky, val := .int .i64 nv }) clock ?_ ?_ (by rw [f7]; simp)
      · rw [hv, hk, hnv]
        simp only [Instr.mapUpdate, Sem.run_bind, run_underlying t1, Result.andThen_ok, MapKept.run_getObj_map hC, hck, hf, hej, Option.map_some, Option.getD_some, f5, Instr.keyThatStays, hsame, if_true, Sem.run_pure, MapKept.run_setObj_map _ hC]
      · rw [f7]
        have hh : es.toList.map (fun e => (e.key, e.val)) = kvs l' := hes
        have : kvs (l'.set j (ky, nv)) = (kvs l').set j (.string ky, .int .i64 nv) := by simp [kvs, List.map_set]
        rw [this, ← hh, Nat.zero_add]
        refine List.ext_getElem? fun q => ?_
        simp only [Array.toList_modify, List.getElem?_map, List.getElem?_set, List.getElem?_modify]
        by_cases c : j = q
        · subst c
          have hlt : j < es.toList.length := (List.getElem?_eq_some_iff.1 f4).1
          have hlt2 : j < es.size := by simpa using hlt
          simp [f4, hlt2]
        · simp [c]
  · cases h
theorem makeFuncM_ok (S : St w a e γ I F H Ω) (hH : ∀ n, ¬ H n) {d : Option Nat} {g : Nat} {x : Operand} {k : Unit → Env → Option R} (h : (makeFuncM (Γ := Γ) d g x).run O e k = some r) :
    ∃ u, Instr.makeFunc (.func g) #[] #[ev a x] = pure u ∧ Done k r w (outP d a u) I F H := by
  unfold makeFuncM at h
  rw [run_bind] at h
  obtain ⟨o, D, h⟩ := rd_ok S hH x h
  split at h
  · rename_i n t
    obtain ⟨kk, T, N, X, e1, o1, ⟨m, x', o2⟩, ad, o3, o4⟩ := D
    simp only [M.run] at h
    have hr : RefSt (e.get n) (γ n) (.clo g) (e.get n).ver (e.get n).sver 0 [] t (.func (.func g) #[] #[ev a x]) :=
      ⟨⟨Nat.le_refl _, fun _ => ⟨Nat.le_refl _, fun _ => Nat.zero_le _⟩⟩, fun _ => ⟨kk, T, N, X, e1, o1, m, x', o2, ad, o3, by rw [o4]⟩⟩
    exact ⟨_, rfl, Done.of (outRef_ok S hH hr h)⟩
  · cases h
theorem capsM_ok (S : St w a e γ I F H Ω) (hH : ∀ n, ¬ H n) : ∀ (cs : List Operand) {k : List (Nat × Nat) → Env → Option R}, (capsM (Γ := Γ) cs).run O e k = some r → ∃ l, k l e = some r ∧ Caps e a l (cs.map (ev a))
  | [], k, h => ⟨[], h, rfl, fun i c hc => by cases i <;> cases hc⟩
  | .tmp s :: cs, k, h => by
    have go : ((capsM (Γ := Γ) cs).bind fun l => .ret ((s, (e.get s).ver) :: l)).run O e k = some r → ∃ l, k l e = some r ∧ Caps e a l ((Operand.tmp s :: cs).map (ev a)) := fun h => by
      rw [run_bind] at h
      obtain ⟨l, h, hl⟩ := capsM_ok S hH cs h
      refine ⟨_, h, by simp [hl.1], fun i c hc => ?_⟩
      cases i with
      | zero =>
        simp only [List.getElem?_cons_zero, Option.some.injEq] at hc
        subst hc
        exact ⟨Nat.le_refl _, fun _ => rfl⟩
      | succ i =>
        simp only [List.getElem?_cons_succ] at hc
        have := hl.2 i c hc
        exact ⟨this.1, fun q => by simpa using this.2 q⟩
    simp only [capsM, M.run] at h
    split at h
    · exact go h
    · exact go h
    · cases h
  | .const _ :: cs, k, h => by cases h
  | .func _ :: cs, k, h => by cases h
  | .global _ :: cs, k, h => by cases h
theorem makeCloM_ok (S : St w a e γ I F H Ω) (hH : ∀ n, ¬ H n) {d : Option Nat} {g : Nat} {cs : List Operand} {k : Unit → Env → Option R} (h : (makeCloM (Γ := Γ) d g cs).run O e k = some r) :
    Done k r w (outP d a (.func (.func g) #[] (cs.map (ev a)).toArray)) I F H := by
  unfold makeCloM at h
  rw [run_bind] at h
  obtain ⟨l, h, hl⟩ := capsM_ok S hH cs h
  exact Done.of (outClo_ok S hH ⟨_, rfl, hl⟩ h)
end
end Go.Den
/-
  Each operation but a call: the machine does what the evaluator tells.
-/
namespace Go.Den
open Go
set_option linter.unusedVariables false
set_option linter.unusedSimpArgs false

def av (A : Act) : Nat → Value := fun n => A.tmps.getD n undef
theorem eval_ev (A : Act) (x : Operand) : A.eval x = ev (av A) x := by cases x <;> rfl
theorem eval_ev' (A : Act) : A.eval = ev (av A) := funext (eval_ev A)
theorem av_put {A : Act} {d : Option Tmp} {v : Value} (h : ∀ n, d = some n → n < A.tmps.size) : av (A.put d v) = outP d (av A) v := by
  cases d with
  | none => rfl
  | some d =>
    funext n
    have hd := h d rfl
    simp only [av, Act.put, outP, upd]
    rw [Array.getD_eq_getD_getElem?, Array.getD_eq_getD_getElem?, Array.getElem?_setIfInBounds]
    by_cases c : d = n
    · subst c; simp [hd]
    · have : ¬ n = d := fun k => c k.symm
      simp [c, this]

section
variable {P : Program} {Γ : Ctx} {O : Fun Γ} {R : Type} {w w' : World} {A : Act} {e : Env} {γ : Nat → Gs} {I F H Ω : Nat → Prop} {r : R} {o : Oper} {next : Act → World → Prop} {Q : Exit → Act → World → Prop}
theorem wp_val {v : Value} (h : (execOp (ev (av A)) o).run P w = .ok (.value v) w') (k : next (A.put o.dst v) w') : o.wp P A w next Q := by
  unfold Oper.wp
  rw [eval_ev', h]
  exact k
theorem wp_skp (h : (execOp (ev (av A)) o).run P w = .ok .skip w') (k : next (A.put o.dst undef) w') : o.wp P A w next Q := by
  unfold Oper.wp
  rw [eval_ev', h]
  exact k
def TysOk (P : Program) (Γ : Ctx) : Prop := (∀ T i, Γ.tys[T]? = some (some i) → TyOk P T i) ∧ (∀ T ∈ Γ.maps, MapTyOk P T) ∧ ArrOk P Γ

theorem opM_ok (hT : TysOk P Γ) (S : St w (av A) e γ I F H Ω) (hH : ∀ n, ¬ H n) {σ : Sig} {reg idx : Nat} {k : Unit → Env → Option R} (h : (opM Γ σ reg idx o).run O e k = some r)
    (hcall : ∀ f as ts, o.op = .call ⟨.value f, as, ts⟩ → (callAny (Γ := Γ) o.dst f as.toList).run O e k = some r → o.wp P A w next Q)
    (hnext : ∀ v w', Wk I F w w' → Done k r w' (outP o.dst (av A) v) I F H → next (A.put o.dst v) w') : o.wp P A w next Q := by
  unfold opM at h
  simp only at h
  have hMp := hT.2.1
  have hAr := hT.2.2
  replace hT := hT.1
  cases ho : o.op with
  | move x =>
    rw [ho] at h
    exact wp_val (v := ev (av A) x) (by simp only [execOp, ho]; rfl) (hnext _ _ (Wk.refl _ _ _) (Done.of (moveM_ok S hH h)))
  | assign x =>
    rw [ho] at h
    exact wp_val (v := ev (av A) x) (by simp only [execOp, ho]; rfl) (hnext _ _ (Wk.refl _ _ _) (assignM_ok S hH h))
  | pick c x y =>
    rw [ho] at h
    obtain ⟨t, ht, hD⟩ := pick_ok S hH h
    exact wp_val (by simp [execOp, ho, asBool, ht]; rfl) (hnext _ _ (Wk.refl _ _ _) hD)
  | alloc T =>
    rw [ho] at h
    simp only [run_bind] at h
    obtain ⟨i, hi, h⟩ := run_ty h
    obtain ⟨v, w', h1, h2, h3⟩ := allocM_ok S hH (hT T i hi) h
    exact wp_val (by simp [execOp, ho, h1]) (hnext _ _ h2 h3)
  | box T x =>
    rw [ho] at h
    simp only [run_bind] at h
    obtain ⟨i, hi, h⟩ := run_ty h
    obtain ⟨v, w', h1, h2, h3⟩ := boxM_ok S hH (hT T i hi) h
    exact wp_val (by simp [execOp, ho, h1]) (hnext _ _ h2 h3)
  | build T ps =>
    rw [ho] at h
    simp only [run_bind] at h
    obtain ⟨i, hi, h⟩ := run_ti h
    split at h
    · rename_i hg
      obtain ⟨v, h1, h3⟩ := buildM_ok S hH (hT T i hi) (by simp only [Bool.and_eq_true] at hg; exact hg.1) (fun c => by rw [c] at hg; simp at hg) h
      exact wp_val (by simp only [execOp, ho, Sem.run_bind]; rw [h1]; rfl) (hnext _ _ (Wk.refl _ _ _) h3)
    · cases h
  | buildSlice T n ps =>
    rw [ho] at h
    simp only [run_bind] at h
    obtain ⟨i, hi, h⟩ := run_ty h
    obtain ⟨v, w', h1, h2, h3⟩ := buildSliceM_ok S hH (hT T i hi) h
    exact wp_val (by simp only [execOp, ho, Sem.run_bind]; rw [h1]; rfl) (hnext _ _ h2 h3)
  | load T x =>
    rw [ho] at h
    simp only [run_bind] at h
    obtain ⟨i, hi, h⟩ := run_ty h
    obtain ⟨v, h1, h3⟩ := loadM_ok S hH (hT T i hi) h
    exact wp_val (by simp [execOp, ho, h1]) (hnext _ _ (Wk.refl _ _ _) h3)
  | store T x y =>
    rw [ho] at h
    simp only at h
    split at h
    · rename_i hd
      simp only [run_bind] at h
      obtain ⟨i, hi, h⟩ := run_ty h
      obtain ⟨w', h1, h2, h3⟩ := storeM_ok S hH (hT T i hi) h
      exact wp_skp (by simp [execOp, ho, h1]) (hnext _ _ h2 (by rw [hd]; exact h3))
    · cases h
  | nilCheck x =>
    rw [ho] at h
    obtain ⟨h1, h2⟩ := nilCheck_ok S hH h
    refine wp_val (v := ev (av A) x) ?_ (hnext _ _ (Wk.refl _ _ _) h2)
    rcases h1 with ⟨ad, h1⟩ | ⟨g, h1⟩ <;> simp [execOp, ho, h1]
  | binOp op T x y T2 =>
    rw [ho] at h
    simp only [run_bind] at h
    obtain ⟨i, hi, h⟩ := run_ti h
    obtain ⟨i2, hi2, h⟩ := run_ty h
    obtain ⟨v, h1, h3⟩ := binM_ok S hH (hT T i hi) h
    exact wp_val (by simp only [execOp, ho]; rw [Sem.run_bind, h1]; rfl) (hnext _ _ (Wk.refl _ _ _) h3)
  | unOp op T x =>
    rw [ho] at h
    simp only [run_bind] at h
    obtain ⟨i, hi, h⟩ := run_ty h
    obtain ⟨v, h1, h3⟩ := unM_ok (P := P) S hH h
    exact wp_val (by simp [execOp, ho, h1]) (hnext _ _ (Wk.refl _ _ _) h3)
  | convert T U x =>
    rw [ho] at h
    simp only [run_bind] at h
    obtain ⟨i, hi, h⟩ := run_ty h
    obtain ⟨i2, hi2, h⟩ := run_ty h
    obtain ⟨v, h1, h3⟩ := convM_ok S hH (hT T i hi) (hT U i2 hi2) h
    exact wp_val (by simp [execOp, ho, h1]) (hnext _ _ (Wk.refl _ _ _) h3)
  | makeMap T rs =>
    rw [ho] at h
    cases rs with
    | some _ => cases h
    | none =>
      simp only at h
      split at h
      · obtain ⟨v, w', h1, h2, h3⟩ := mapNewM_ok (P := P) (T := T) S hH h
        exact wp_val (by simp [execOp, ho, h1]) (hnext _ _ h2 h3)
      · cases h
  | lookup T x y ok =>
    rw [ho] at h
    cases ok with
    | true => cases h
    | false =>
      simp only at h
      split at h
      · rename_i hc
        obtain ⟨v, h1, h3⟩ := mapGetM_ok S hH (hMp T (by simpa using hc)) h
        exact wp_val (by simp [execOp, ho, h1]) (hnext _ _ (Wk.refl _ _ _) h3)
      · cases h
  | mapUpdate T m x y =>
    rw [ho] at h
    simp only at h
    split at h
    · rename_i hc
      simp only [Bool.and_eq_true, decide_eq_true_eq] at hc
      obtain ⟨w', h1, h2, h3⟩ := mapPutM_ok S hH (hMp T (by simpa using hc.2)) h
      exact wp_skp (by simp [execOp, ho, h1]) (hnext _ _ h2 (by rw [hc.1]; exact h3))
    · cases h
  | insert T m x y =>
    rw [ho] at h
    simp only at h
    split at h
    · rename_i hc
      simp only [Bool.and_eq_true, decide_eq_true_eq] at hc
      obtain ⟨w', h1, h2, h3⟩ := mapPutM_ok S hH (hMp T (by simpa using hc.2)) h
      exact wp_skp (by simp [execOp, ho, h1]) (hnext _ _ h2 (by rw [hc.1]; exact h3))
    · cases h
  | makeFunc f fs cs =>
    rw [ho] at h
    cases f with
    | func g =>
      simp only at h
      split at h
      · rename_i c h1 h2
        have hfs : fs = #[] := by rw [← Array.toArray_toList (xs := fs), h1]
        have hcs : cs = #[c] := by rw [← Array.toArray_toList (xs := cs), h2]
        split at h
        · have h4 := makeCloM_ok S hH h
          refine wp_val (v := _) ?_ (hnext _ _ (Wk.refl _ _ _) h4)
          have h5 : (Instr.makeFunc (.func g) #[] (List.map (ev (av A)) [c]).toArray).run P w = .ok (.func (.func g) #[] (List.map (ev (av A)) [c]).toArray) w := rfl
          simp only [List.map_cons, List.map_nil] at h5 ⊢
          simp [execOp, ho, hfs, hcs, h5]
        · obtain ⟨v, h3, h4⟩ := makeFuncM_ok S hH h
          refine wp_val (v := v) ?_ (hnext _ _ (Wk.refl _ _ _) h4)
          have h5 : (Instr.makeFunc (.func g) #[] #[ev (av A) c]).run P w = .ok v w := by rw [h3]; rfl
          simp [execOp, ho, hfs, hcs, h5]
      · rename_i h1 h2
        have hfs : fs = #[] := by rw [← Array.toArray_toList (xs := fs), h1]
        have h4 := makeCloM_ok S hH h
        refine wp_val (v := _) ?_ (hnext _ _ (Wk.refl _ _ _) h4)
        have h5 : (Instr.makeFunc (.func g) #[] (List.map (ev (av A)) cs.toList).toArray).run P w = .ok (.func (.func g) #[] (List.map (ev (av A)) cs.toList).toArray) w := rfl
        have h6 : cs.map (ev (av A)) = (List.map (ev (av A)) cs.toList).toArray := by apply Array.ext'; simp
        simp only [execOp, ho, hfs, h6, h5, Sem.run_bind, Result.andThen_ok, Sem.run_pure, Array.map_empty]
      · cases h
    | _ => cases h
  | makeSlice T l c =>
    rw [ho] at h
    simp only [run_bind] at h
    obtain ⟨i, hi, h⟩ := run_ty h
    obtain ⟨v, w', h1, h2, h3⟩ := makeSliceM_ok S hH (hT T i hi) h
    exact wp_val (by simp [execOp, ho, h1]) (hnext _ _ h2 h3)
  | slice T x lo hi mx =>
    rw [ho] at h
    cases mx with
    | some _ => cases h
    | none =>
      simp only [run_bind] at h
      obtain ⟨i, hi, h⟩ := run_ty h
      obtain ⟨v, h1, h3⟩ := cutM_ok S hH (hT T i hi) h
      exact wp_val (by simp [execOp, ho, h1]) (hnext _ _ (Wk.refl _ _ _) h3)
  | fieldAddr T x j =>
    rw [ho] at h
    simp only [run_bind] at h
    obtain ⟨i, hi, h⟩ := run_ti h
    obtain ⟨v, h1, h3⟩ := fieldAddrM_ok S hH (hT T i hi) h
    exact wp_val (by simp [execOp, ho, h1]) (hnext _ _ (Wk.refl _ _ _) h3)
  | indexAddr T x j =>
    rw [ho] at h
    simp only at h
    split at h
    · rename_i fs hfs
      simp only [run_bind] at h
      obtain ⟨i, hi, h⟩ := run_ty h
      obtain ⟨i', n, E, d, k1, k2, k3, k4⟩ := hAr T fs hfs
      rw [hi] at k1
      cases k1
      obtain ⟨v, h1, h3⟩ := arrAddrM_ok (P := P) (T := T) S hH k2 k3 k4 h
      exact wp_val (by simp [execOp, ho, h1]) (hnext _ _ (Wk.refl _ _ _) h3)
    · simp only [run_bind] at h
      obtain ⟨i, hi, h⟩ := run_ty h
      obtain ⟨v, h1, h3⟩ := indexAddrM_ok S hH (hT T i hi) h
      exact wp_val (by simp [execOp, ho, h1]) (hnext _ _ (Wk.refl _ _ _) h3)
  | index T x j =>
    rw [ho] at h
    simp only [run_bind] at h
    obtain ⟨i, hi, h⟩ := run_ty h
    obtain ⟨v, h1, h3⟩ := indexM_ok S hH (hT T i hi) h
    exact wp_val (by simp [execOp, ho, h1]) (hnext _ _ (Wk.refl _ _ _) h3)
  | extract x j =>
    rw [ho] at h
    obtain ⟨v, h1, h3⟩ := extractM_ok (P := P) S hH h
    exact wp_val (by simp [execOp, ho, h1]) (hnext _ _ (Wk.refl _ _ _) h3)
  | call c =>
    obtain ⟨cal, as, ts⟩ := c
    cases cal with
    | value f =>
      rw [ho] at h
      exact hcall f as ts ho h
    | invoke _ _ => rw [ho] at h; cases h
    | builtin b =>
      rw [ho] at h
      simp only at h
      have has : as = as.toList.toArray := (Array.toArray_toList).symm
      have hts : ts = ts.toList.toArray := (Array.toArray_toList).symm
      split at h
      · rename_i x T h1 h2
        rw [h1] at has
        rw [h2] at hts
        simp only [run_bind] at h
        obtain ⟨i, hi, h⟩ := run_ty h
        obtain ⟨v, h3, h4⟩ := lenM_ok (ty := o.type) S hH (hT T i hi) h
        exact wp_val (by simp [execOp, ho, has, hts, resolve, invoke, builtin, h3]) (hnext _ _ (Wk.refl _ _ _) h4)
      · rename_i x y T T2 h1 h2
        rw [h1] at has
        rw [h2] at hts
        simp only [run_bind] at h
        obtain ⟨i, hi, h⟩ := run_ty h
        obtain ⟨i2, hi2, h⟩ := run_ty h
        split at h
        · rename_i hij
          obtain ⟨v, w', h3, h4, h5⟩ := appendM_ok (ty := o.type) S hH (hT T i hi) (hT T2 i2 hi2) hij h
          exact wp_val (by simp [execOp, ho, has, hts, resolve, invoke, builtin, h3]) (hnext _ _ h4 h5)
        · cases h
      · rename_i x y T T2 h1 h2
        rw [h1] at has
        simp only [run_bind] at h
        obtain ⟨i, hi, h⟩ := run_ty h
        obtain ⟨v, h3, h4⟩ := maxM_ok (P := P) (ts := ts) (ty := o.type) S hH h
        exact wp_val (by simp [execOp, ho, has, resolve, invoke, builtin, h3]) (hnext _ _ (Wk.refl _ _ _) h4)
      · rename_i x y T T2 h1 h2
        rw [h1] at has
        simp only [run_bind] at h
        obtain ⟨i, hi, h⟩ := run_ty h
        obtain ⟨v, h3, h4⟩ := minM_ok (P := P) (ts := ts) (ty := o.type) S hH h
        exact wp_val (by simp [execOp, ho, has, resolve, invoke, builtin, h3]) (hnext _ _ (Wk.refl _ _ _) h4)
      · cases h
  | _ => rw [ho] at h; cases h
end
end Go.Den

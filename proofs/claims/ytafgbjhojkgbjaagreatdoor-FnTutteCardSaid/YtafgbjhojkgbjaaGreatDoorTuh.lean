/-
  TutteOf of the program: what the walk shows, joined to what the evaluator is told.
-/
import Derived.Test.YtafgbjhojkgbjaaGreatDoorTub
import Derived.Test.YtafgbjhojkgbjaaGreatDoorTuc
import Derived.Test.YtafgbjhojkgbjaaGreatDoorRd
namespace Go.Proofs.YtafgbjhojkgbjaaGreatDoor.D
open Go Go.Den Go.Proofs.YtafgbjhojkgbjaaGreatDoor
set_option linter.unusedVariables false
set_option linter.unusedSimpArgs false
set_option maxRecDepth 100000
theorem append_new {P : Program} {X : List (List Int)} {T E : TypeId} {eq : Bool} {D : Prop} {w : World} {I F : Nat → Prop} (hT : TyOk P T ⟨RRT, [], eq⟩) (himm : ∀ b, I b → b < w.heap.size) (hnew : ∀ b, w.heap.size ≤ b → F b) {x : List Int} {g gr : G}
    (o2 : Mem w noB noB RRT RRM X g) (o3 : Den.Sep RRT RRM g) (o4 : ∀ b, Own RRT RRM g b → F b ∧ ¬ I b ∧ b < w.heap.size) (r2 : Mem w noB noB RT RM x gr) (r4 : ∀ b, bl' gr b → F b ∧ ¬ I b ∧ b < w.heap.size ∧ ¬ Own RRT RRM g b) (hX : List.length X + 1 ≤ room) :
    ∃ v w', (Builtin.append_ #[T, T] T #[.slice g.addr g.len g.cap, .slice (some ⟨w.heap.size, 0, none⟩) 1 1]).run P (w.alloc (.cells #[.slice gr.addr gr.len gr.cap] E)) = .ok v w' ∧ Wx D I F w w' ∧ ∃ g', v = .slice g'.addr g'.len g'.cap ∧ Mem w' noB noB RRT RRM (X ++ [x]) g' ∧ Den.Sep RRT RRM g' ∧ ∀ b, Own RRT RRM g' b → F b ∧ ¬ I b ∧ b < w'.heap.size := by
  let w2 := w.alloc (.cells #[Value.slice gr.addr gr.len gr.cap] E)
  have hs2 : w2.heap.size = w.heap.size + 1 := by simp [w2]
  have old : ∀ b, b < w.heap.size → w2.heap[b]? = w.heap[b]? := fun b hb => (Wk.alloc noB noB w _).old b hb (.inr id)
  let g1 : G := .hd (some ⟨w.heap.size, 0, none⟩) 1 1 fun _ => gr
  have hat1 : At w2 (some ⟨w.heap.size, 0, none⟩) 0 [Value.slice gr.addr gr.len gr.cap] := At.new (t := RT) (x := x) (g := gr)
  have hC2 : w2.heap[w.heap.size]? = some (.cells #[Value.slice gr.addr gr.len gr.cap] E (0, 0)) := by
    show (w.heap.push _)[w.heap.size]? = _
    simp
  have M1 : Mem w2 I F RRT RRM [x] g1 := by
    refine ⟨rfl, .inr ⟨w.heap.size, 0, #[Value.slice gr.addr gr.len gr.cap], E, rfl, hC2, Nat.le_refl _, Nat.le_refl _, by unfold maxLen; exact Nat.le_of_ble_eq_true rfl⟩, fun i hi => ?_⟩
    have hi0 : i = 0 := by have : i < 1 := hi; omega
    subst hi0
    exact ⟨hat1, mem_row (r2.frame fun b hb => hb.elim (fun hb => old b (r4 b (own_row.1 hb)).2.2.1) fun hb => hb.elim)⟩
  have S1 : Den.Sep RRT RRM g1 := by
    refine ⟨fun i hi => ⟨fun _ _ => trivial, fun _ _ _ _ _ _ k => k.elim, fun _ _ _ _ k => k.elim⟩, fun i j b hi hj hij => ?_, fun a i ha hi c => ?_⟩
    · have h1 : i < 1 := hi
      have h2 : j < 1 := hj
      omega
    · cases ha
      have := (r4 _ (own_row.1 c)).2.2.1
      exact Nat.lt_irrefl _ this
  have O1 : ∀ b, Own RRT RRM g1 b → b = w.heap.size ∨ bl' gr b := fun b hb => by
    rcases hb with ⟨a, ha, hab⟩ | ⟨i, hi, hb⟩
    · cases ha; exact .inl hab.symm
    · exact .inr (own_row.1 hb)
  have M0 : Mem w2 I F RRT RRM X g := mem_rows (o2.frame fun b hb => hb.elim (fun hb => old b (o4 b hb).2.2) fun hb => hb.elim)
  let i0 : Den.Item := ⟨.val .reg RRT RRM X, .slice g.addr g.len g.cap, ⟨none, g⟩⟩
  let i1 : Den.Item := ⟨.val .reg RRT RRM ([x] : List (List Int)), .slice (some ⟨w.heap.size, 0, none⟩) 1 1, ⟨none, g1⟩⟩
  have hI : Items w2 I F [i0, i1] := by
    refine ⟨fun i hi => ?_, fun i hi k r v s d p t c => ?_, ?_, fun i hi b hb => ?_, fun b hb => by have := himm b hb; omega, fun b hb => hnew b (by omega)⟩
    · simp only [List.mem_cons, List.not_mem_nil, or_false] at hi
      rcases hi with rfl | rfl
      · exact ⟨rfl, M0, o3, rfl⟩
      · exact ⟨rfl, M1, S1, rfl⟩
    · simp only [List.mem_cons, List.not_mem_nil, or_false] at hi
      rcases hi with rfl | rfl <;> cases c
    · refine List.pairwise_cons.2 ⟨fun j hj b hb hc => ?_, List.pairwise_singleton _ _⟩
      rw [List.mem_singleton] at hj
      subst hj
      have hb' : Own RRT RRM g b := hb
      have hl := o4 b hb'
      rcases O1 b hc with c | c
      · omega
      · exact (r4 b c).2.2.2 hb'
    · simp only [List.mem_cons, List.not_mem_nil, or_false] at hi
      rcases hi with rfl | rfl
      · have hb' : Own RRT RRM g b := hb
        have hl := o4 b hb'
        exact ⟨hl.1, hl.2.1, by omega⟩
      · rcases O1 b hb with c | c
        · subst c
          exact ⟨hnew _ (Nat.le_refl _), fun c => by have := himm _ c; omega, by omega⟩
        · have hl := r4 b c
          exact ⟨hl.1, hl.2.1, by omega⟩
  let e : Env := [(0, i0.z), (1, i1.z)]
  have he : ∀ n, e.get n = (itemAt [i0, i1] n).z := fun n => by
    match n with
    | 0 => rfl
    | 1 => rfl
    | n + 2 => rfl
  have St0 := hI.st (fun i hi g cs c => by
    simp only [List.mem_cons, List.not_mem_nil, or_false] at hi
    rcases hi with rfl | rfl <;> cases c) (a := appA i0.v i1.v) he (fun n hn => by
    match n with
    | 0 => rfl
    | 1 => rfl
    | n + 2 => have : n + 2 < 2 := hn; omega)
  let Γ0 : Ctx := ⟨[], [], [], false, []⟩
  have hr1 := app_run (O := fun _ _ => none) (X := X) (Y := [x]) hX
  obtain ⟨v, w', a1, a2, e', γ', I', a3, a4, a5, a6⟩ := appendM_ok (P := P) (T := T) (U := T) (ty := T) (i := ⟨RRT, [], eq⟩) (j := ⟨RRT, [], eq⟩) St0 (fun _ => id) hT hT rfl hr1
  cases a3
  have sl := a4.slot 2 id
  obtain ⟨b1, b2, b3⟩ := sl.valMem rfl
  have hv : v = .slice (γ' 2).g.addr (γ' 2).g.len (γ' 2).g.cap := b1
  have hx1 : Wx D I F w w2 := ⟨rfl, rfl, rfl, by omega, fun _ => Nat.le_refl _, fun b hb _ => old b hb⟩
  have hx2 : Wx D I F w2 w' := ⟨a2.os, a2.tape, a2.output, a2.size, fun _ => a2.drawn, fun b hb hk => a2.old b hb hk⟩
  refine ⟨v, w', a1, hx1.trans hx2 fun _ c => c, (γ' 2).g, hv, mem_rows b2, b3, fun b hb => ?_⟩
  have hb2 : OwnS (Env.get [(0, ⟨0, 0, 0, .val .reg RRT .gone X⟩), (1, ⟨0, 0, 0, .val .reg RRT .gone [x]⟩), (2, ⟨1, 0, 0, .val .reg RRT RRM (X ++ [x] : List (List Int))⟩)] 2) (γ' 2) b := hb
  have hl := a4.lv 2 b id hb2
  exact ⟨hl.1, fun c => hl.2.1 (a5 b c), hl.2.2⟩
theorem rowsM_all {f : List Int → Option (List Int)} {T : List Int} : ∀ {m i : Nat} {l : List (List Int)}, Lb.rowsM f T m i = some l → l.length = m ∧ ∀ k, k < m → f ((T.drop ((i + k) * 16)).take 16) = some (l.getD k [])
  | 0, i, l, h => by cases h; exact ⟨rfl, fun k hk => absurd hk (Nat.not_lt_zero _)⟩
  | m + 1, i, l, h => by
    obtain ⟨r, hr, h⟩ := Option.bind_eq_some_iff.1 h
    obtain ⟨s, hs, h⟩ := Option.bind_eq_some_iff.1 h
    cases h
    obtain ⟨h1, h2⟩ := rowsM_all hs
    refine ⟨by simp [h1], fun k hk => ?_⟩
    cases k with
    | zero => exact hr
    | succ k =>
      have := h2 k (by omega)
      rw [show i + (k + 1) = i + 1 + k by omega]
      exact this
/-- one more than the last that is not empty -/
def rcn (l : List (List Int)) : Nat → Nat
  | 0 => 0
  | i + 1 => if 0 < (l.getD i []).length then i + 1 else rcn l i
theorem rcn_le (l : List (List Int)) : ∀ i, rcn l i ≤ i
  | 0 => Nat.le_refl _
  | i + 1 => by
    show (if 0 < (l.getD i []).length then i + 1 else rcn l i) ≤ i + 1
    split
    · exact Nat.le_refl _
    · exact Nat.le_succ_of_le (rcn_le l i)
theorem trimL_take (l : List (List Int)) : ∀ i, i ≤ l.length → Lb.trimL (l.take i) = l.take (rcn l i)
  | 0, _ => rfl
  | i + 1, h => by
    have e : l.take (i + 1) = l.take i ++ [l.getD i []] := by
      rw [List.take_add_one, List.getD_eq_getElem?_getD, List.getElem?_eq_getElem (by omega)]; rfl
    have e2 : Lb.trimL (l.take i ++ [l.getD i []]) = if (l.getD i []).isEmpty = true then Lb.trimL (l.take i) else l.take i ++ [l.getD i []] := by
      unfold Lb.trimL
      rw [List.reverse_append, List.reverse_singleton, List.singleton_append, List.dropWhile_cons]
      split
      · rfl
      · rw [List.reverse_cons, List.reverse_reverse]
    rw [e, e2]
    show _ = l.take (if 0 < (l.getD i []).length then i + 1 else rcn l i)
    by_cases c : (l.getD i []).isEmpty = true
    · have c' : (l.getD i []).length = 0 := by rw [List.isEmpty_iff.1 c]; rfl
      rw [if_pos c, if_neg (by omega)]
      exact trimL_take l i (by omega)
    · have c' : 0 < (l.getD i []).length := by
        rcases Nat.eq_zero_or_pos (l.getD i []).length with q | q
        · exact absurd (by rw [List.eq_nil_of_length_eq_zero q]; rfl) c
        · exact q
      rw [if_neg c, if_pos c', e]
abbrev GT : Ty := .cons (.int .i64) (.sl (.cons (.int .i64) (.int .i64)))
abbrev ET : Ty := .sl (.cons (.int .i64) (.int .i64))
/-- row i of the square, as a value -/
def rowV (TT : List Int) (i : Nat) : List Int := (TT.drop (i * 16)).take 16
theorem cell_of' {W : World} {b i : Nat} {C : Array Value} {t : TypeId} {fz : Nat × Nat} (h : W.heap[b]? = some (.cells C t fz)) : W.cell? ⟨b, i, none⟩ = C[i]? := by
  simp [World.cell?, h]
theorem idxRow {TT : List Int} (lT : TT.length = 256) {i : Nat} (hi : i < 16) (W : World) : (Instr.index 46 (.agg (TT.map (Value.int .i64)).toArray) (.int .i64 i)).run Tryz.prog W = .ok (.agg ((rowV TT i).map (Value.int .i64)).toArray) W := by
  have c1 : Tryz.prog.cellsOf 45 = 16 := by kernel_rfl
  have c2 : (Tryz.prog.info? 45).isSome = true := by kernel_rfl
  obtain ⟨inf, c3⟩ := Option.isSome_iff_exists.1 c2
  have hs := run_sizeOf W c3
  rw [c1] at hs
  have i16 : (i : Int) < 16 := by omega
  simp [Instr.index, asIntOf, run_underlying Tryz.underlying46, i16, hs, part, isAgg, run_underlying Tryz.underlying45, rowV, List.map_take, List.map_drop]
  intro c; omega
theorem mem_take {w : World} {X : List (List Int)} {g : G} {n : Nat} (h : Mem w noB noB RRT RRM X g) (hn : n ≤ X.length) : Mem w noB noB RRT RRM (X.take n) (.hd g.addr n g.cap g.kid) := by
  have hl : g.len = X.length := h.1
  refine ⟨by show n = _; rw [List.length_take]; omega, ?_, fun i hi => ?_⟩
  · rcases h.2.1 with ⟨h1, h2, h3⟩ | ⟨b, o, C, te, h1, h2, h3, h4, h5⟩
    · exact .inl ⟨h1, by show n = 0; omega, h3⟩
    · exact .inr ⟨b, o, C, te, h1, h2, h3, by show n ≤ g.cap; omega, h5⟩
  · have hi' : i < n := hi
    have e : (X.take n).getD i [] = X.getD i [] := by
      rw [List.getD_eq_getElem?_getD, List.getElem?_take_of_lt hi', ← List.getD_eq_getElem?_getD]
    have := h.2.2 i (by omega)
    show At w g.addr (i * RT.size) (cells RT ((X.take n).getD i []) (g.kid i)) ∧ Mem w noB noB RT RM ((X.take n).getD i []) (g.kid i)
    rw [e]
    exact this
theorem tyRR : TyOk Tryz.prog 28 ⟨RRT, [], false⟩ := tySl Tryz.underlying28 (by kernel_rfl) (by kernel_rfl) (by kernel_rfl) (by kernel_rfl) (by kernel_rfl) (by kernel_rfl) trivial
theorem tutOf_holds {O : Fun Γ} (hO : Go.Den.Good Tryz.prog Γ tau O) {a : Lb.GrL} {r : List (List Int) × Bool}
    (hr : Lb.tutOf QT (fun x => (O 22 x : Option Bool)) (fun x => (O 25 x : Option QT.den)) (fun x => (O 26 x : Option (List Int))) (fun x => (O 27 x : Option (List Int))) a = some r) : Go.Den.Holds Tryz.prog Γ tau 28 a r := by
  unfold Lb.tutOf at hr
  obtain ⟨b, hb, hr⟩ := Option.bind_eq_some_iff.1 hr
  intro σ hσ w I F M hM hI hK
  obtain rfl : s28 = σ := Option.some.inj hσ
  have hM' : some [SV.val .reg GT (.sh true) a] = some (M.map Item.sv) := hM
  have hM' := Option.some.inj hM'
  match M, hM', hM, hI with
  | [], h, _, _ => cases h
  | _ :: _ :: _, h, _, _ => simp at h
  | [⟨gsv, gv, gγ⟩], hM', hM, hI =>
    simp only [List.map_cons, List.map_nil, List.cons.injEq, and_true] at hM'
    subst hM'
    let gi : Den.Item := ⟨.val .reg GT (.sh true) a, gv, gγ⟩
    have m0 : gi ∈ [gi] := List.mem_cons_self
    obtain ⟨g1, g2, g3, g4⟩ := hI.ok _ m0
    have g1' : gv = .agg #[.int .i64 a.1, .slice gγ.g.snd.addr gγ.g.snd.len gγ.g.snd.cap] := g1
    subst g1'
    have gno : ∀ b, ¬ OwnS gi.z gi.γ b := fun b hb => Own.sh GT gγ.g true b hb
    have glen : gγ.g.snd.len = a.2.length := g2.2.1
    let D := (tau).dr
    -- an argument that is shared, in a later world
    have items : ∀ (w' : World) (F' : Nat → Prop) (i : Den.Item), i = gi ∨ i = ⟨.val .reg ET (.sh true) a.2, .slice gγ.g.snd.addr gγ.g.snd.len gγ.g.snd.cap, ⟨none, gγ.g.snd⟩⟩ → Wx D I F w w' → (∀ b, w'.heap.size ≤ b → F' b) → Items w' I F' [i] := fun w' F' i hi hx hn => by
      have hf := (hI.ok _ m0).frame (w' := w') fun b hb => hx.old b (hb.elim (fun hb => absurd hb (gno b)) (hI.imm b)) (hb.elim (fun hb => absurd hb (gno b)) .inl)
      have hno : ∀ b, ¬ OwnS i.z i.γ b := fun b => by
        rcases hi with rfl | rfl
        · exact gno b
        · exact fun hb => Own.sh ET gγ.g.snd true b hb
      refine ⟨fun j hj => ?_, fun j hj => ?_, List.pairwise_singleton _ _, fun j hj b hb => ?_, fun b hb => Nat.lt_of_lt_of_le (hI.imm b hb) hx.size, hn⟩
      · rw [List.mem_singleton.1 hj]
        rcases hi with rfl | rfl
        · exact ⟨hf.1, Mem.any hf.2.1, hf.2.2.1, hf.2.2.2⟩
        · exact ⟨rfl, Mem.any hf.2.1.2, Sep.sh ET _ true, rfl⟩
      · rw [List.mem_singleton.1 hj]
        rcases hi with rfl | rfl <;> exact fun _ _ _ _ _ _ _ c => by cases c
      · rw [List.mem_singleton.1 hj] at hb
        exact absurd hb (hno b)
    let W0 := w.alloc (.cells #[.int .i64 a.1, .slice gγ.g.snd.addr gγ.g.snd.len gγ.g.snd.cap] 25)
    have hW0 : Wx D I F w W0 := (Wk.alloc I F w _).x
    have hs0 : W0.heap.size = w.heap.size + 1 := by simp [W0]
    have hC0 : W0.heap[w.heap.size]? = some (.cells #[.int .i64 a.1, .slice gγ.g.snd.addr gγ.g.snd.len gγ.g.snd.cap] 25 (0, 0)) := by
      show (w.heap.push _)[w.heap.size]? = _
      simp
    let J0 : World → Prop := fun w1 => Wx D I F w w1 ∧ TOk (tau) F w1
    have hGO : ∀ W, W = w.alloc (.cells #[.int .i64 a.1, .slice gγ.g.snd.addr gγ.g.snd.len gγ.g.snd.cap] 25) → Calls Tryz.prog 7 #[.agg #[.int .i64 a.1, .slice gγ.g.snd.addr gγ.g.snd.len gγ.g.snd.cap]] W fun e w' => e = .returned (.bool b) ∧ J0 w' ∧ w'.cell? ⟨w.heap.size, 0, none⟩ = some (.int .i64 a.1) ∧ w'.cell? ⟨w.heap.size, 1, none⟩ = some (.slice gγ.g.snd.addr gγ.g.snd.len gγ.g.snd.cap) := by
      rintro W rfl
      let F' : Nat → Prop := fun b => F b ∧ b ≠ w.heap.size
      have hI1 : Items W0 I F' [gi] := items W0 F' gi (.inl rfl) hW0 fun b hb => ⟨hI.new b (by omega), by omega⟩
      have hK1 : TOk (tau) F' W0 := (hK.wk hW0).less fun b hb => hb.1
      refine Calls.mono (hO 22 a b hb s22 rfl W0 I F' [gi] rfl hI1 hK1) fun e w' he => ?_
      cases e with
      | panicked _ => exact he.elim
      | outgrown => exact he.elim
      | returned v =>
        obtain ⟨hw, J, M, N, h1, h2, h3, h4, h5, h6, h7⟩ := he
        have h1' : some [SV.val .reg .bool (.sh false) b] = some (M.map Den.Item.sv) := h1
        have hx1 : Wx D I F W0 w' := ⟨hw.os, hw.tape, hw.output, hw.size, hw.drawn, fun b hb hk => hw.old b hb (hk.imp id fun hk c => hk c.1)⟩
        have hcell : w'.heap[w.heap.size]? = some (.cells #[.int .i64 a.1, .slice gγ.g.snd.addr gγ.g.snd.len gγ.g.snd.cap] 25 (0, 0)) := by
          rw [hw.old _ (by omega) (.inr fun c => c.2 rfl)]
          exact hC0
        refine ⟨?_, ⟨hW0.trans hx1 fun _ c => c, (hK.wk hW0).wk hx1⟩, ?_, ?_⟩
        · match M, Option.some.inj h1' with
          | [], k => cases k
          | _ :: _ :: _, k => simp at k
          | [⟨isv, iv, iγ⟩], k =>
            simp only [List.map_cons, List.map_nil, List.cons.injEq, and_true] at k
            subst k
            have := (h3.ok ⟨_, iv, iγ⟩ (List.mem_append_left _ List.mem_cons_self)).1
            rw [h5]
            exact congrArg Ending.returned this
        · rw [cell_of hcell]; rfl
        · rw [cell_of hcell]; rfl
    -- the end
    have fin : ∀ (W : World) (X : List (List Int)) (bb : Bool) (g' : G), Wx D I F w W → r = (X, bb) → Mem W noB noB RRT RRM X g' → Den.Sep RRT RRM g' → (∀ b, Own RRT RRM g' b → F b ∧ ¬ I b ∧ b < W.heap.size) →
        (Wx D I F w W ∧ ∃ (J : Nat → Prop) (M N : List Den.Item), resSV s28.results ((unProd (Γ.outsL 28) r).take s28.results.length) = some (M.map Item.sv) ∧ backSV s28.params ((unProd (Γ.outsL 28) r).drop s28.results.length) = some (N.map Item.sv) ∧
          Items W J F (M ++ N) ∧ (∀ b, J b → F b ∨ (s28.retain = true ∧ I b)) ∧ Value.tuple #[.slice g'.addr g'.len g'.cap, .bool bb] = retV (M.map Item.v) ∧ N.map Item.v = backOf s28.params ([gi].map Item.v) ∧ (∀ i ∈ M ++ N, ∀ b, OwnS i.z i.γ b → ¬ I b)) := by
      rintro W X bb g' hx rfl hm hs hown
      let i0 : Den.Item := ⟨.val .reg RRT RRM X, .slice g'.addr g'.len g'.cap, ⟨none, g'⟩⟩
      let i1 : Den.Item := ⟨.val .reg .bool (.sh false) bb, .bool bb, ⟨none, .lf⟩⟩
      have mem : ∀ i ∈ [i0, i1] ++ ([] : List Den.Item), i = i0 ∨ i = i1 := fun i hi => by simpa using hi
      refine ⟨hx, fun _ => False, [i0, i1], [], rfl, rfl, ⟨fun i hi => ?_, fun i hi k r v s d p t c => ?_, ?_, fun i hi b hb => ?_, fun b hb => hb.elim, fun b hb => hI.new b (Nat.le_trans hx.size hb)⟩, fun b hb => hb.elim, rfl, rfl, fun i hi b hb => ?_⟩
      · rcases mem i hi with rfl | rfl
        · exact ⟨rfl, mem_rows hm, hs, rfl⟩
        · exact ⟨rfl, trivial, trivial, rfl⟩
      · rcases mem i hi with rfl | rfl <;> cases c
      · exact List.pairwise_cons.2 ⟨fun j hj b _ k => by rw [List.mem_singleton.1 hj] at k; exact k, List.pairwise_singleton _ _⟩
      · rcases mem i hi with rfl | rfl
        · exact ⟨(hown b hb).1, fun k => k, (hown b hb).2.2⟩
        · exact hb.elim
      · rcases mem i hi with rfl | rfl
        · exact (hown b hb).2.1
        · exact hb.elim
    refine (?_ : ∀ Q : Ending → World → Prop, (∀ (W : World) (X : List (List Int)) (bb : Bool) (g' : G), Wx D I F w W → r = (X, bb) → Mem W noB noB RRT RRM X g' → Den.Sep RRT RRM g' → (∀ b, Own RRT RRM g' b → F b ∧ ¬ I b ∧ b < W.heap.size) → Q (.returned (.tuple #[.slice g'.addr g'.len g'.cap, .bool bb])) W) →
      Calls Tryz.prog 6 #[.agg #[.int .i64 a.1, .slice gγ.g.snd.addr gγ.g.snd.len gγ.g.snd.cap]] w Q) _ fun W X bb g' k1 k2 k3 k4 k5 => fin W X bb g' k1 k2 k3 k4 k5
    clear fin
    intro Q fin
    have none_ok : b = false ∨ 9 < gγ.g.snd.len → r = ([], false) → Calls Tryz.prog 6 #[.agg #[.int .i64 a.1, .slice gγ.g.snd.addr gγ.g.snd.len gγ.g.snd.cap]] w Q := fun hbe hr0 =>
      tut_no a.1 gγ.g.snd.addr gγ.g.snd.len gγ.g.snd.cap b hbe w J0 Q (fun W hW => fin W [] false (.hd none 0 0 fun _ => .lf) hW.1 hr0 ⟨rfl, .inl ⟨rfl, rfl, rfl⟩, fun i hi => absurd hi (Nat.not_lt_zero _)⟩ ⟨fun i hi => absurd hi (Nat.not_lt_zero _), fun i _ _ hi => absurd hi (Nat.not_lt_zero _), fun _ i _ hi => absurd hi (Nat.not_lt_zero _)⟩ fun b hb => by
        rcases hb with ⟨a, ha, _⟩ | ⟨i, hi, _⟩
        · cases ha
        · exact absurd hi (Nat.not_lt_zero _)) hGO
    cases b with
    | false => exact none_ok (.inl rfl) (Option.some.inj hr).symm
    | true =>
    rw [cond_true] at hr
    by_cases h9 : a.2.length ≤ 9
    case neg =>
      rw [decide_eq_false h9, cond_false] at hr
      exact none_ok (.inr (by omega)) (Option.some.inj hr).symm
    case pos =>
    rw [decide_eq_true h9, cond_true] at hr
    obtain ⟨T, hT, hr⟩ := Option.bind_eq_some_iff.1 hr
    obtain ⟨l, hl, hr⟩ := Option.bind_eq_some_iff.1 hr
    have hrF := (Option.some.inj hr).symm
    clear hr
    obtain ⟨hl16, hrow⟩ := rowsM_all hl
    generalize hTT : Lb.toI QT T = TT at hl hrow
    have lT : TT.length = 256 := by rw [← hTT, Lb.toI_len numsQ, sizeQ]
    have rlen : ∀ i, i < 16 → (rowV TT i).length = 16 := fun i hi => by unfold rowV; rw [List.length_take, List.length_drop]; omega
    -- the rows that were laid so far
    let OutA : Nat → Value → World → Prop := fun i o W => Wx D I F w W ∧ ∃ g, o = .slice g.addr g.len g.cap ∧ Mem W noB noB RRT RRM (l.take i) g ∧ Den.Sep RRT RRM g ∧ ∀ b, Own RRT RRM g b → F b ∧ ¬ I b ∧ b < W.heap.size
    let J : Nat → Value → Nat → World → Prop := fun i o rows W => OutA i o W ∧ rows = rcn l i
    let J1 : Nat → Value → Nat → Value → World → Prop := fun i o rows v W => OutA i o W ∧ rows = rcn l i ∧ i < 16 ∧ ∃ (K : Nat → Prop) (γ : Gs) (tr : List Int), (O 26 (rowV TT i) : Option (List Int)) = some tr ∧ (O 27 tr : Option (List Int)) = some (l.getD i []) ∧ SlotOk W K F ⟨0, 0, 0, .val .reg RT (.sh true) tr⟩ v γ ∧ ∀ b, K b → b < W.heap.size
    let J2 : Nat → Value → Nat → Option Addr → Nat → Nat → World → Prop := fun i o rows ra rl rc W => rows = rcn l i ∧ i < 16 ∧ Wx D I F w W ∧ ∃ g gr, o = .slice g.addr g.len g.cap ∧ Mem W noB noB RRT RRM (l.take i) g ∧ Den.Sep RRT RRM g ∧ (∀ b, Own RRT RRM g b → F b ∧ ¬ I b ∧ b < W.heap.size) ∧
      ra = gr.addr ∧ rl = gr.len ∧ rc = gr.cap ∧ Mem W noB noB RT RM (l.getD i []) gr ∧ ∀ b, bl' gr b → F b ∧ ¬ I b ∧ b < W.heap.size ∧ ¬ Own RRT RRM g b
    refine tut_walk a.1 gγ.g.snd.addr gγ.g.snd.len gγ.g.snd.cap (by omega) (TT.map (Value.int .i64)).toArray (fun i => ((rowV TT i).map (Value.int .i64)).toArray) w Q J0 J J1 J2 hGO ?_ ?_ ?_ ?_ ?_ ?_ ?_ ?_
    · rintro W ⟨hx, hK1⟩
      refine Calls.mono (hO 25 a.2 T hT s25 rfl W I F [⟨.val .reg ET (.sh true) a.2, .slice gγ.g.snd.addr gγ.g.snd.len gγ.g.snd.cap, ⟨none, gγ.g.snd⟩⟩] rfl (items W F _ (.inr rfl) hx fun b hb => hI.new b (Nat.le_trans hx.size hb)) hK1) fun e w' he => ?_
      cases e with
      | panicked _ => exact he.elim
      | outgrown => exact he.elim
      | returned v =>
        obtain ⟨hw, J', M, N, h1, h2, h3, h4, h5, h6, h7⟩ := he
        have h1' : some [SV.val .reg QT (Ty.mine QT) T] = some (M.map Den.Item.sv) := h1
        have hx' : Wx D I F w w' := hx.trans hw fun _ c => c
        match M, Option.some.inj h1' with
        | [], k => cases k
        | _ :: _ :: _, k => simp at k
        | [⟨isv, iv, iγ⟩], k =>
          simp only [List.map_cons, List.map_nil, List.cons.injEq, and_true] at k
          subst k
          have v1 : iv = .agg (cells QT T iγ.g).toArray := (h3.ok ⟨_, iv, iγ⟩ (List.mem_append_left _ List.mem_cons_self)).1
          rw [cells_nums numsQ, hTT] at v1
          refine ⟨by rw [h5, ← v1]; rfl, ⟨hx', .hd none 0 0 fun _ => .lf, rfl, ⟨rfl, .inl ⟨rfl, rfl, rfl⟩, fun i hi => absurd hi (Nat.not_lt_zero _)⟩, ⟨fun i hi => absurd hi (Nat.not_lt_zero _), fun i _ _ hi => absurd hi (Nat.not_lt_zero _), fun _ i _ hi => absurd hi (Nat.not_lt_zero _)⟩, fun b hb => ?_⟩, rfl⟩
          rcases hb with ⟨a, ha, _⟩ | ⟨i, hi, _⟩
          · cases ha
          · exact absurd hi (Nat.not_lt_zero _)
    · intro i hi W
      exact idxRow lT hi W
    · intro i hi
      simp [rlen i hi]
    · intro i
      simp only [List.all_toArray, List.all_map, List.all_eq_true]
      exact fun v _ => rfl
    · rintro i o rows W ⟨⟨hx, g, rfl, o2, o3, o4⟩, hrc⟩ hi
      have hrw := hrow i hi
      rw [Nat.zero_add] at hrw
      obtain ⟨tr, htr, hcp⟩ := Option.bind_eq_some_iff.1 hrw
      let W' := W.alloc (.cells ((rowV TT i).map (Value.int .i64)).toArray 45)
      let gx : G := .hd (some ⟨W.heap.size, 0, none⟩) 16 16 fun _ => .lf
      have hs1 : W'.heap.size = W.heap.size + 1 := by simp [W']
      have old1 : ∀ b, b < W.heap.size → W'.heap[b]? = W.heap[b]? := fun b hb => (Wk.alloc noB noB W _).old b hb (.inr id)
      have hC : W'.heap[W.heap.size]? = some (.cells ((rowV TT i).map (Value.int .i64)).toArray 45 (0, 0)) := by
        show (W.heap.push _)[W.heap.size]? = _
        simp
      have rl := rlen i hi
      have M0 : Mem W' noB noB RT RM (rowV TT i) gx := by
        refine ⟨rl.symm, .inr ⟨W.heap.size, 0, _, _, rfl, hC, by simp [gx, rl, Ty.size, G.cap], Nat.le_refl _, Nat.le_of_ble_eq_true rfl⟩, fun j hj => ⟨?_, trivial⟩⟩
        have hj16 : j < 16 := hj
        show At W' (some ⟨W.heap.size, 0, none⟩) (j * 1) [.int .i64 ((rowV TT i).getD j 0)]
        rw [Nat.mul_one]
        intro k v hv
        cases k with
        | succ k => simp at hv
        | zero =>
          simp only [List.getElem?_cons_zero, Option.some.injEq] at hv
          subst hv
          refine ⟨_, rfl, ?_⟩
          rw [Addr.add_mk, Nat.add_zero, Nat.zero_add, cell_of' hC]
          simp [List.getD_eq_getElem?_getD, List.getElem?_eq_getElem (show j < (rowV TT i).length by omega)]
      let I' : Nat → Prop := fun b => I b ∨ b = W.heap.size
      let F' : Nat → Prop := fun b => F b ∧ ¬ Own RRT RRM g b
      have okr : Mem W' I' F' RT (.sh true) (rowV TT i) gx := Mem.view M0 rfl (fun _ => rfl) (fun b (hb : False) => hb.elim) fun b hb => ⟨.inr (by
        obtain ⟨a, ha, hab⟩ := own_row.1 hb
        cases ha; exact hab.symm), fun c => by cases c⟩
      have hx1 : Wx D I F w W' := hx.trans (Wk.alloc I F W _).x fun _ c => c
      have hItems : Items W' I' F' [⟨.val .reg RT (.sh true) (rowV TT i), .slice (some ⟨W.heap.size, 0, none⟩) 16 16, ⟨none, gx⟩⟩] := by
        refine ⟨fun j hj => ?_, fun j hj => ?_, List.pairwise_singleton _ _, fun j hj b hb => ?_, fun b hb => ?_, fun b hb => ⟨hI.new b (Nat.le_trans hx1.size hb), fun c => by have := (o4 b c).2.2; omega⟩⟩
        · rw [List.mem_singleton.1 hj]; exact ⟨rfl, okr, Sep.sh RT _ true, rfl⟩
        · rw [List.mem_singleton.1 hj]; exact fun _ _ _ _ _ _ _ c => by cases c
        · rw [List.mem_singleton.1 hj] at hb; exact absurd hb (Own.sh RT gx true b)
        · rcases hb with hb | hb
          · exact Nat.lt_of_lt_of_le (hI.imm b hb) hx1.size
          · omega
      refine Calls.mono (hO 26 (rowV TT i) tr htr s26 rfl W' I' F' [⟨.val .reg RT (.sh true) (rowV TT i), .slice (some ⟨W.heap.size, 0, none⟩) 16 16, ⟨none, gx⟩⟩] rfl hItems ((hK.wk hx1).less fun b hb => hb.1)) fun e w' he => ?_
      cases e with
      | panicked _ => exact he.elim
      | outgrown => exact he.elim
      | returned v =>
        obtain ⟨hw, K, M, N, h1, h2, h3, h4, h5, h6, h7⟩ := he
        have h1' : some [SV.val .reg RT (.sh true) tr] = some (M.map Den.Item.sv) := h1
        have hx' : Wx D I F W' w' := ⟨hw.os, hw.tape, hw.output, hw.size, hw.drawn, fun b hb hk => hw.old b hb (hk.imp .inl fun hk c => hk c.1)⟩
        match M, Option.some.inj h1' with
        | [], k => cases k
        | _ :: _ :: _, k => simp at k
        | [⟨isv, iv, iγ⟩], k =>
          simp only [List.map_cons, List.map_nil, List.cons.injEq, and_true] at k
          subst k
          have hok := h3.ok ⟨_, iv, iγ⟩ (List.mem_append_left _ List.mem_cons_self)
          refine ⟨v, rfl, ⟨hx1.trans hx' fun _ c => c, g, rfl, ?_, o3, fun b hb => ⟨(o4 b hb).1, (o4 b hb).2.1, by have := (o4 b hb).2.2; have := hw.size; omega⟩⟩, hrc, hi, K, iγ, tr, htr, hcp, ?_, h3.imm⟩
          · exact mem_rows (o2.frame (w' := w') fun b hb => hb.elim (fun hb => (hw.old b (by have := (o4 b hb).2.2; omega) (.inr fun c => c.2 hb)).trans (old1 b (o4 b hb).2.2)) fun hb => hb.elim)
          · have hv : v = iv := h5
            rw [hv]
            exact ⟨hok.1, Mem.any hok.2.1, hok.2.2.1, hok.2.2.2⟩
    · rintro i o rows v W ⟨⟨hx, g, rfl, o2, o3, o4⟩, hrc, hi, K, γ, tr, htr, hcp, hok, hKi⟩
      let I' : Nat → Prop := fun b => I b ∨ K b
      let F' : Nat → Prop := fun b => F b ∧ ¬ Own RRT RRM g b
      have hItems : Items W I' F' [⟨.val .reg RT (.sh true) tr, v, γ⟩] := by
        refine ⟨fun j hj => ?_, fun j hj => ?_, List.pairwise_singleton _ _, fun j hj b hb => ?_, fun b hb => ?_, fun b hb => ⟨hI.new b (Nat.le_trans hx.size hb), fun c => by have := (o4 b c).2.2; omega⟩⟩
        · rw [List.mem_singleton.1 hj]; exact ⟨hok.1, Mem.any (hok.2.1.mono (fun b hb => .inr hb) fun _ _ h => h), hok.2.2.1, hok.2.2.2⟩
        · rw [List.mem_singleton.1 hj]; exact fun _ _ _ _ _ _ _ c => by cases c
        · rw [List.mem_singleton.1 hj] at hb; exact absurd hb (Own.sh RT γ.g true b)
        · rcases hb with hb | hb
          · exact Nat.lt_of_lt_of_le (hI.imm b hb) hx.size
          · exact hKi b hb
      refine Calls.mono (hO 27 tr (l.getD i []) hcp s27 rfl W I' F' [⟨.val .reg RT (.sh true) tr, v, γ⟩] rfl hItems ((hK.wk hx).less fun b hb => hb.1)) fun e w' he => ?_
      cases e with
      | panicked _ => exact he.elim
      | outgrown => exact he.elim
      | returned v =>
        obtain ⟨hw, J', M, N, h1, h2, h3, h4, h5, h6, h7⟩ := he
        have h1' : some [SV.val .reg RT RM (l.getD i [])] = some (M.map Den.Item.sv) := h1
        have hx' : Wx D I F W w' := ⟨hw.os, hw.tape, hw.output, hw.size, hw.drawn, fun b hb hk => hw.old b hb (hk.imp .inl fun hk c => hk c.1)⟩
        match M, Option.some.inj h1', h3, h5, h7 with
        | [], k, _, _, _ => cases k
        | _ :: _ :: _, k, _, _, _ => simp at k
        | [⟨isv, iv, iγ⟩], k, h3, h5, h7 =>
          simp only [List.map_cons, List.map_nil, List.cons.injEq, and_true] at k
          subst k
          have mm : (⟨.val .reg RT RM (l.getD i []), iv, iγ⟩ : Den.Item) ∈ [⟨.val .reg RT RM (l.getD i []), iv, iγ⟩] ++ N := List.mem_append_left _ List.mem_cons_self
          obtain ⟨c1, c2, c3, c4⟩ := h3.ok _ mm
          have hv : v = .slice iγ.g.addr iγ.g.len iγ.g.cap := (show v = iv from h5).trans c1
          subst hv
          refine ⟨iγ.g.addr, iγ.g.len, iγ.g.cap, rfl, hrc, hi, hx.trans hx' fun _ c => c, g, iγ.g, rfl, ?_, o3, fun b hb => ⟨(o4 b hb).1, (o4 b hb).2.1, Nat.lt_of_lt_of_le (o4 b hb).2.2 hw.size⟩, rfl, rfl, rfl, mem_row c2, fun b hb => ?_⟩
          · exact mem_rows (o2.frame (w' := w') fun b hb => hb.elim (fun hb => hw.old b (o4 b hb).2.2 (.inr fun c => c.2 hb)) fun hb => hb.elim)
          · have hl := h3.lv _ mm b (own_row.2 hb)
            have hn := h7 _ mm b (own_row.2 hb)
            exact ⟨hl.1.1, fun c => hn (.inl c), hl.2.2, hl.1.2⟩
    · rintro i o rows ra rl rc W ⟨hrc, hi, hx, g, gr, rfl, o2, o3, o4, rfl, rfl, rfl, r2, r4⟩
      have hX : List.length (l.take i) + 1 ≤ room := by rw [List.length_take]; unfold room; omega
      obtain ⟨v, w', k1, k2, g', k3, k4, k5, k6⟩ := append_new (P := Tryz.prog) (T := 28) (E := 32) (D := D) (I := I) (F := F) tyRR (fun b hb => Nat.lt_of_lt_of_le (hI.imm b hb) hx.size) (fun b hb => hI.new b (Nat.le_trans hx.size hb)) o2 o3 o4 r2 r4 hX
      refine ⟨v, w', k1, ⟨hx.trans k2 fun _ c => c, g', k3, ?_, k5, k6⟩, ?_⟩
      · have e : l.take (i + 1) = l.take i ++ [l.getD i []] := by
          rw [List.take_add_one, List.getD_eq_getElem?_getD, List.getElem?_eq_getElem (by omega)]; rfl
        rw [e]; exact k4
      · have hgl : gr.len = (l.getD i []).length := r2.1
        rw [hgl, hrc]
        rfl
    · rintro o rows W ⟨⟨hx, g, rfl, o2, o3, o4⟩, hrc⟩
      have hrle : rows ≤ 16 := by rw [hrc]; exact rcn_le l 16
      rw [List.take_of_length_le (by omega)] at o2
      have hgl : g.len = l.length := o2.1
      have hle : g.len ≤ g.cap := o2.2.1.le
      refine ⟨g.addr, g.len, g.cap, rfl, by omega, ?_⟩
      have hr' : r = (l.take rows, true) := by
        rw [hrF, ← List.take_of_length_le (show l.length ≤ 16 by omega), trimL_take l 16 (by omega), hrc, List.take_of_length_le (show l.length ≤ 16 by omega)]
      have own' : ∀ b, Own RRT RRM (.hd g.addr rows g.cap g.kid) b → Own RRT RRM g b := fun b hb => by
        rcases hb with hb | ⟨k, hk, hb⟩
        · exact .inl hb
        · exact .inr ⟨k, Nat.lt_of_lt_of_le hk (by show rows ≤ g.len; omega), hb⟩
      exact fin W (l.take rows) true (.hd g.addr rows g.cap g.kid) hx hr' (mem_take o2 (by omega)) ⟨fun i hi => o3.1 i (Nat.lt_of_lt_of_le hi (by show rows ≤ g.len; omega)), fun i j b hi hj => o3.2.1 i j b (Nat.lt_of_lt_of_le hi (by show rows ≤ g.len; omega)) (Nat.lt_of_lt_of_le hj (by show rows ≤ g.len; omega)), fun a i ha hi => o3.2.2 a i ha (Nat.lt_of_lt_of_le hi (by show rows ≤ g.len; omega))⟩ fun b hb => o4 b (own' b hb)
end Go.Proofs.YtafgbjhojkgbjaaGreatDoor.D

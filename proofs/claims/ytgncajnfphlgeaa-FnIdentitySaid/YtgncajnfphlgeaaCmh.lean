/-
  CountMorphisms of the program: what the walk shows, joined to what the evaluator is told (the closures, the whole).
-/
import Derived.Test.YtgncajnfphlgeaaCmi
namespace Go.Proofs.Ytgncajnfphlgeaa.D
open Go Go.Den Go.Proofs.Ytgncajnfphlgeaa
set_option linter.unusedVariables false
set_option linter.unusedSectionVars false
set_option linter.unusedSimpArgs false
theorem rnd_inv {σ : Type} {R : σ → σ → Prop} (h0 : ∀ s, R s s) (ht : ∀ a b c, R a b → R b c → R a c) {f : Nat → σ → Option σ} (hf : ∀ i s s', f i s = some s' → R s s') : ∀ m i s s', Lb.rnd f m i s = some s' → R s s'
  | 0, _, s, s', h => by obtain rfl : s = s' := Option.some.inj h; exact h0 _
  | m + 1, i, s, s', h => by
    obtain ⟨t, h1, h2⟩ := Option.bind_eq_some_iff.1 h
    exact ht _ _ _ (hf _ _ _ h1) (rnd_inv h0 ht hf m (i + 1) t s' h2)
theorem verts_keep {ed : List Int → List Int × Int → Option (List Int × Int)} {N H : Nat} : ∀ d s s', d ≤ N → Lb.cmVerts ed N H d s = some s' → s'.1.length = s.1.length ∧ ∀ i, i < N - d → s'.1.getD i 0 = s.1.getD i 0
  | 0, s, s', _, h => by
    obtain ⟨t, h1, h2⟩ := Option.bind_eq_some_iff.1 h
    obtain rfl := Option.some.inj h2
    exact ⟨rfl, fun _ _ => rfl⟩
  | d + 1, s, s', hd, h => by
    obtain ⟨t, h1, h2⟩ := Option.bind_eq_some_iff.1 h
    obtain rfl := Option.some.inj h2
    have hs : ∀ (l : List Int) (x : Int) (i : Nat), i < N - (d + 1) → (l.set (N - (d + 1)) x).getD i 0 = l.getD i 0 := fun l x i hi => by
      rw [List.getD_eq_getElem?_getD, List.getD_eq_getElem?_getD, List.getElem?_set_ne (by omega)]
    have k := rnd_inv (R := fun (a b : List Int × List Int × Int) => b.1.length = a.1.length ∧ ∀ i, i < N - (d + 1) → b.1.getD i 0 = a.1.getD i 0) (fun _ => ⟨rfl, fun _ _ => rfl⟩) (fun a b c h k => ⟨k.1.trans h.1, fun i hi => (k.2 i hi).trans (h.2 i hi)⟩) (fun i a b hab => by
      have := verts_keep d _ _ (by omega) hab
      refine ⟨by rw [this.1, List.length_set], fun j hj => ?_⟩
      rw [this.2 j (by omega)]
      exact hs _ _ _ hj) _ _ _ _ h1
    refine ⟨by show (List.set _ _ _).length = _; rw [List.length_set]; exact k.1, fun i hi => ?_⟩
    show (List.set _ _ _).getD i 0 = _
    rw [hs _ _ _ hi]
    exact k.2 i hi
theorem set_get {l : List Int} {i : Nat} {x : Int} (h : i < l.length) : (l.set i x).getD i 0 = x := by
  simp [h]
section
variable {w : World} {I F : Nat → Prop} {g h : Lb.GrL} {gγ hγ : Gs} {B : CmB} {N le : Nat}
/-- an edge's two ends, where they lie -/
theorem edge_at {x : Lb.GrL} {W : World} {γ : G} (m : Mem W I F GrT (.sh true) x γ) {k : Nat} (hk : k < x.2.length) :
    ∃ b o, γ.snd.addr = some ⟨b, o, none⟩ := by
  have hl : γ.snd.len = x.2.length := m.2.1
  have at_ : ∀ j, j < x.2.length → At W γ.snd.addr (j * 2) [.int .i64 (x.2.getD j (0, 0)).1, .int .i64 (x.2.getD j (0, 0)).2] := fun j hj => (m.2.2.2 j (by rw [hl]; exact hj)).1
  obtain ⟨d, hd, hc⟩ := at_ 0 (by omega) 0 _ rfl
  have hs : d.spot = none := by
    have hc' : W.cell? d = some _ := hc
    unfold World.cell? at hc'
    cases hq : d.spot with
    | none => rfl
    | some q =>
      rw [hq] at hc'
      split at hc' <;> simp at hc'
  obtain ⟨b, o, sp⟩ := d
  obtain rfl : sp = none := hs
  exact ⟨b, o, hd⟩
theorem edge_cells {x : Lb.GrL} {W : World} {γ : G} (m : Mem W I F GrT (.sh true) x γ) {b o : Nat} (hd : γ.snd.addr = some ⟨b, o, none⟩) {j : Nat} (hj : j < x.2.length) :
    W.cell? ⟨b, o + j * 2, none⟩ = some (.int .i64 (x.2.getD j (0, 0)).1) ∧ W.cell? ⟨b, o + j * 2 + 1, none⟩ = some (.int .i64 (x.2.getD j (0, 0)).2) := by
  have hl : γ.snd.len = x.2.length := m.2.1
  have at_ : At W γ.snd.addr (j * 2) [.int .i64 (x.2.getD j (0, 0)).1, .int .i64 (x.2.getD j (0, 0)).2] := (m.2.2.2 j (by rw [hl]; exact hj)).1
  refine ⟨?_, ?_⟩
  · obtain ⟨d, h1, h2⟩ := at_ 0 _ rfl
    rw [hd] at h1; cases h1
    rw [Addr.add_mk] at h2
    exact h2
  · obtain ⟨d, h1, h2⟩ := at_ 1 _ rfl
    rw [hd] at h1; cases h1
    rw [Addr.add_mk] at h2
    exact h2
variable {O : Fun Γ} (hO : Go.Den.Good Try.prog Γ noTold O) (hB : B.Ok w.heap.size)
  (hI : Items w I F [⟨.val .reg GrT (.sh true) g, .agg #[.int .i64 g.1, .slice gγ.g.snd.addr gγ.g.snd.len gγ.g.snd.cap], gγ⟩, ⟨.val .reg GrT (.sh true) h, .agg #[.int .i64 h.1, .slice hγ.g.snd.addr hγ.g.snd.len hγ.g.snd.cap], hγ⟩]) (hK : TOk noTold F w)
  (hle : le = g.2.length) (hle5 : le ≤ 5) (hN1 : 1 ≤ N) (hN4 : N ≤ 4) (hh3 : h.2.length ≤ 3) (hin : ∀ e ∈ g.2, (0 ≤ e.1 ∧ e.1 < (N : Int)) ∧ 0 ≤ e.2 ∧ e.2 < (N : Int))
abbrev CmI' (I : Nat → Prop) (B : CmB) : Nat → Prop := fun b => I b ∨ b = B.vb ∨ b = B.eb
abbrev CmF' (F : Nat → Prop) (B : CmB) : Nat → Prop := fun b => F b ∧ ¬ (b = B.gb ∨ b = B.hb ∨ b = B.mb ∨ b = B.nb ∨ b = B.fb ∨ b = B.tb ∨ b = B.vb ∨ b = B.eb)
theorem no_own {γ : Gs} {x : Lb.GrL} {v : Value} : ∀ b, ¬ OwnS (Den.Item.z ⟨.val .reg GrT (.sh true) x, v, γ⟩) γ b := fun b => Own.sh GrT γ.g true b
include hB hI in
theorem up_items {V E : List Int} {n : Int} {W : World} (j : CmJ (noTold).dr I F w g h gγ.g hγ.g B N le V E n W) {L : List Den.Item}
    (hN : ∀ i ∈ L, i ∈ [(⟨.val .reg GrT (.sh true) g, .agg #[.int .i64 g.1, .slice gγ.g.snd.addr gγ.g.snd.len gγ.g.snd.cap], gγ⟩ : Den.Item), ⟨.val .reg GrT (.sh true) h, .agg #[.int .i64 h.1, .slice hγ.g.snd.addr hγ.g.snd.len hγ.g.snd.cap], hγ⟩] ∨ (SlotOk W (CmI' I B) (CmF' F B) i.z i.v i.γ ∧ (∀ k r v s d p t, i.sv ≠ .ref k r v s d p t) ∧ ∀ b, ¬ OwnS i.z i.γ b)) : Items W (CmI' I B) (CmF' F B) L := by
  obtain ⟨e1, e2, e3, e4, e5, e6, e7, e8, e9⟩ := hB
  have a1 : ∀ b, I b → F b → CmF' F B b := fun b hb hF => ⟨hF, fun c => by
    have := hI.imm b hb
    omega⟩
  have a2 : ∀ b, CmI' I B b → b < W.heap.size := by
    rintro b (hb | hb | hb)
    · exact Nat.lt_of_lt_of_le (hI.imm b hb) j.x.size
    · exact j.lt b (by simp [hb])
    · exact j.lt b (by simp [hb])
  have a3 : ∀ b, W.heap.size ≤ b → CmF' F B b := fun b hb => ⟨hI.new b (Nat.le_trans j.x.size hb), fun c => by
    have := j.lt b c
    omega⟩
  refine cm_items hI j.x (fun b hb => .inl hb) a1 a2 a3 ?_ hN
  intro i hi
  simp only [List.mem_cons, List.not_mem_nil, or_false] at hi
  rcases hi with rfl | rfl
  · exact no_own
  · exact no_own
include hI in
theorem after {V E : List Int} {n : Int} {W W' : World} (hB : B.Ok w.heap.size) (j : CmJ (noTold).dr I F w g h gγ.g hγ.g B N le V E n W) (hx : Wx (noTold).dr (CmI' I B) (CmF' F B) W W') : CmJ (noTold).dr I F w g h gγ.g hγ.g B N le V E n W' := by
  refine j.same (j.x.trans ⟨hx.os, hx.tape, hx.output, hx.size, hx.drawn, fun b hb hk => hx.old b hb ?_⟩ fun _ c => c) fun b hb => hx.old b (j.lt b hb) (.inr fun c => c.2 hb)
  exact hk.elim (fun k => .inl (.inl k)) fun k => .inr fun c => k c.1
include hK in
theorem tk {V E : List Int} {n : Int} {W : World} (j : CmJ (noTold).dr I F w g h gγ.g hγ.g B N le V E n W) : TOk noTold (CmF' F B) W := (hK.wk j.x).less fun b hb => hb.1
include hO hB hI hK in
theorem har_at {V E : List Int} {n : Int} {W : World} (j : CmJ (noTold).dr I F w g h gγ.g hγ.g B N le V E n W) {b : Bool} (hb : (O 30 (g, h, (V, E)) : Option Bool) = some b) :
    Calls Try.prog 15 #[.agg #[.int .i64 g.1, .slice gγ.g.snd.addr gγ.g.snd.len gγ.g.snd.cap], .agg #[.int .i64 h.1, .slice hγ.g.snd.addr hγ.g.snd.len hγ.g.snd.cap], .agg #[.slice (some ⟨B.vb, 0, none⟩) N N, .slice (some ⟨B.eb, 0, none⟩) le le]] W fun e w' => e = .returned (.bool b) ∧ CmJ (noTold).dr I F w g h gγ.g hγ.g B N le V E n w' := by
  let mi : Den.Item := ⟨.val .reg MorT (.sh true) (V, E), .agg #[.slice (some ⟨B.vb, 0, none⟩) N N, .slice (some ⟨B.eb, 0, none⟩) le le], ⟨none, .pr (.hd (some ⟨B.vb, 0, none⟩) N N fun _ => .lf) (.hd (some ⟨B.eb, 0, none⟩) le le fun _ => .lf)⟩⟩
  refine Calls.mono (har_call hO g h (V, E) hb (i0 := ⟨.val .reg GrT (.sh true) g, _, gγ⟩) (i1 := ⟨.val .reg GrT (.sh true) h, _, hγ⟩) (i2 := mi) rfl rfl rfl (up_items hB hI j fun i hi => ?_) (tk hK j)) fun e w' he => ⟨he.1, after hI hB j he.2⟩
  simp only [List.mem_cons, List.not_mem_nil, or_false] at hi ⊢
  rcases hi with rfl | rfl | rfl
  · exact .inl (.inl rfl)
  · exact .inl (.inr rfl)
  · exact .inr ⟨⟨rfl, ⟨row_ok j.vC j.vl (.inr (.inl rfl)), row_ok j.eC j.el (.inr (.inr rfl))⟩, Sep.sh MorT _ true, rfl⟩, (fun k r v s d p t c => by cases c), fun b => Own.sh MorT mi.γ.g true b⟩
include hO hB hI hK in
theorem min_at {V E : List Int} {n : Int} {W : World} (j : CmJ (noTold).dr I F w g h gγ.g hγ.g B N le V E n W) {x : Int} (hb : (O 28 V : Option Int) = some x) :
    Calls Try.prog 24 #[.slice (some ⟨B.vb, 0, none⟩) N N] W fun e w' => e = .returned (.int .i64 x) ∧ CmJ (noTold).dr I F w g h gγ.g hγ.g B N le V E n w' := by
  let vi : Den.Item := ⟨.val .reg IT (.sh true) V, .slice (some ⟨B.vb, 0, none⟩) N N, ⟨none, .hd (some ⟨B.vb, 0, none⟩) N N fun _ => .lf⟩⟩
  refine Calls.mono (min_call hO V hb (i0 := vi) rfl (up_items hB hI j fun i hi => ?_) (tk hK j)) fun e w' he => ⟨he.1, after hI hB j he.2⟩
  rw [List.mem_singleton] at hi
  subst hi
  exact .inr ⟨⟨rfl, row_ok j.vC j.vl (.inr (.inl rfl)), Sep.sh IT _ true, rfl⟩, (fun k r v s d p t c => by cases c), fun b => Own.sh IT vi.γ.g true b⟩
include hO hB hI hK in
theorem max_at {V E : List Int} {n : Int} {W : World} (j : CmJ (noTold).dr I F w g h gγ.g hγ.g B N le V E n W) {x : Int} (hb : (O 29 V : Option Int) = some x) :
    Calls Try.prog 25 #[.slice (some ⟨B.vb, 0, none⟩) N N] W fun e w' => e = .returned (.int .i64 x) ∧ CmJ (noTold).dr I F w g h gγ.g hγ.g B N le V E n w' := by
  let vi : Den.Item := ⟨.val .reg IT (.sh true) V, .slice (some ⟨B.vb, 0, none⟩) N N, ⟨none, .hd (some ⟨B.vb, 0, none⟩) N N fun _ => .lf⟩⟩
  refine Calls.mono (max_call hO V hb (i0 := vi) rfl (up_items hB hI j fun i hi => ?_) (tk hK j)) fun e w' he => ⟨he.1, after hI hB j he.2⟩
  rw [List.mem_singleton] at hi
  subst hi
  exact .inr ⟨⟨rfl, row_ok j.vC j.vl (.inr (.inl rfl)), Sep.sh IT _ true, rfl⟩, (fun k r v s d p t c => by cases c), fun b => Own.sh IT vi.γ.g true b⟩
include hI in
theorem mem_at {V E : List Int} {n : Int} {W : World} (j : CmJ (noTold).dr I F w g h gγ.g hγ.g B N le V E n W) : Mem W I F GrT (.sh true) g gγ.g ∧ Mem W I F GrT (.sh true) h hγ.g := by
  have a := hI.ok _ List.mem_cons_self
  have b := hI.ok _ (List.mem_cons_of_mem _ List.mem_cons_self)
  exact ⟨a.2.1.frame fun c hc => hc.elim (fun k => absurd k (Own.sh GrT gγ.g true c)) fun k => j.x.old c (hI.imm c k) (.inl k), b.2.1.frame fun c hc => hc.elim (fun k => absurd k (Own.sh GrT hγ.g true c)) fun k => j.x.old c (hI.imm c k) (.inl k)⟩
include hO hB hI hK hle hle5 hN1 hN4 hh3 hin in
theorem edges_ok (V : List Int) : ∀ d, d ≤ le → ∀ E n s W, CmJ (noTold).dr I F w g h gγ.g hγ.g B N le V E n W → Lb.cmEdges (Lb.cmLeaf (fun V E => (O 30 (g, h, (V, E)) : Option Bool)) (fun V => (O 28 V : Option Int)) (fun V => (O 29 V : Option Int)) V) (Lb.cmHit g h V) le h.2.length d (E, n) = some s →
    Calls Try.prog 23 #[.int .i64 ((le - d : Nat) : Int), .pointer (some ⟨B.mb, 0, none⟩), .pointer (some ⟨B.gb, 0, none⟩), .pointer (some ⟨B.hb, 0, none⟩), .pointer (some ⟨B.nb, 0, none⟩), .pointer (some ⟨B.fb, 0, none⟩)] W fun e w' => e = .returned (.tuple #[]) ∧ CmJ (noTold).dr I F w g h gγ.g hγ.g B N le V s.1 s.2 w'
  | 0, _, E, n, s, W, j, hs => by
    obtain ⟨m, h1, h2⟩ := Option.bind_eq_some_iff.1 hs
    obtain rfl := Option.some.inj h2
    obtain ⟨b, hb, h1⟩ := Option.bind_eq_some_iff.1 h1
    have J1 : ∀ W, CmJ (noTold).dr I F w g h gγ.g hγ.g B N le V E n W → ∀ x y : Int, (b = true → (O 28 V : Option Int) = some x ∧ (O 29 V : Option Int) = some y) → (b = false ∨ x = y → n = m) → (b = true → x ≠ y → m = n + 1 ∧ n < 1000000) →
        Calls Try.prog 23 #[.int .i64 (le : Int), .pointer (some ⟨B.mb, 0, none⟩), .pointer (some ⟨B.gb, 0, none⟩), .pointer (some ⟨B.hb, 0, none⟩), .pointer (some ⟨B.nb, 0, none⟩), .pointer (some ⟨B.fb, 0, none⟩)] W fun e w' => e = .returned (.tuple #[]) ∧ CmJ (noTold).dr I F w g h gγ.g hγ.g B N le V E m w' := by
      intro W j x y hxy hm0 hm1
      refine cmL_walk gγ.g.snd.addr gγ.g.snd.len gγ.g.snd.cap hγ.g.snd.addr hγ.g.snd.len hγ.g.snd.cap B.vb N B.eb le B.gb B.hb B.mb B.nb B.fb g.1 h.1 n x y b hle5 j.n0 j.n1 (fun W => CmJ (noTold).dr I F w g h gγ.g hγ.g B N le V E n W) (fun W => n < 1000000 → CmJ (noTold).dr I F w g h gγ.g hγ.g B N le V E (n + 1) W) (fun W j => cell_at j.gC) (fun W j => cell_at j.gC) (fun W j => cell_at j.hC) (fun W j => cell_at j.hC) (fun W j => cell_at j.mC) (fun W j => cell_at j.mC) (fun W j => ⟨cell_at j.nC, frozen_at j.nC, fun hn => j.setN hB _ (by have := j.n0; omega) (by omega)⟩) (fun W j m => j.drewN m) (fun W j => har_at hO hB hI hK j hb) (fun hb W j => min_at hO hB hI hK j (hxy hb).1) (fun hb W j => max_at hO hB hI hK j (hxy hb).2) _ (fun hc W j => ?_) (fun hb hc W j => ?_) W j
      · rw [← hm0 hc]; exact j
      · obtain ⟨k1, k2⟩ := hm1 hb hc
        rw [k1]; exact j k2
    cases b with
    | false =>
      obtain rfl := Option.some.inj h1
      exact J1 W j 0 0 (fun c => by cases c) (fun _ => rfl) fun c => by cases c
    | true =>
      obtain ⟨x, hx, h1⟩ := Option.bind_eq_some_iff.1 h1
      obtain ⟨y, hy, h1⟩ := Option.bind_eq_some_iff.1 h1
      refine J1 W j x y (fun _ => ⟨hx, hy⟩) (fun c => ?_) fun _ c => ?_
      · rcases c with c | c
        · cases c
        · rw [decide_eq_true c] at h1
          exact Option.some.inj h1
      · rw [decide_eq_false c] at h1
        by_cases k : n < 1000000
        · rw [decide_eq_true k] at h1
          exact ⟨(Option.some.inj h1).symm, k⟩
        · rw [decide_eq_false k] at h1
          cases h1
  | d + 1, hd, E, n, s, W, j, hs => by
    have ih := edges_ok V d (by omega)
    obtain ⟨k, hk⟩ : ∃ k, k = le - (d + 1) := ⟨_, rfl⟩
    have hkl : k < le := by omega
    obtain ⟨mg, mh⟩ := mem_at hI j
    have hgl : gγ.g.snd.len = g.2.length := mg.2.1
    have hhl : hγ.g.snd.len = h.2.length := mh.2.1
    obtain ⟨gx, go, hga⟩ := edge_at mg (k := k) (by omega)
    obtain ⟨hx, ho, hha⟩ : ∃ hx ho, 0 < h.2.length → hγ.g.snd.addr = some ⟨hx, ho, none⟩ := by
      by_cases c : 0 < h.2.length
      · obtain ⟨a, b, e⟩ := edge_at mh c
        exact ⟨a, b, fun _ => e⟩
      · exact ⟨0, 0, fun k => absurd k c⟩
    have hmem : g.2.getD k (0, 0) ∈ g.2 := by
      rw [List.getD_eq_getElem?_getD, List.getElem?_eq_getElem (by omega)]; exact List.getElem_mem _
    obtain ⟨⟨a0, a1⟩, b0, b1⟩ := hin _ hmem
    have ha : (((g.2.getD k (0, 0)).1.toNat : Nat) : Int) = (g.2.getD k (0, 0)).1 := by omega
    have hb : (((g.2.getD k (0, 0)).2.toNat : Nat) : Int) = (g.2.getD k (0, 0)).2 := by omega
    rw [← hk]
    have hv : ∀ W E n i, CmJ (noTold).dr I F w g h gγ.g hγ.g B N le V E n W → i < N → W.cell? ⟨B.vb, i, none⟩ = some (.int .i64 (V.getD i 0)) := fun W E n i j hi => (cell_at j.vC).trans (ints_get (by rw [j.vl]; exact hi))
    refine cmE_walk k gx go gγ.g.snd.len gγ.g.snd.cap hγ.g.snd.addr h.2.length hγ.g.snd.cap hx ho B.vb N B.eb le B.gb B.hb B.mb B.nb B.fb (g.2.getD k (0, 0)).1.toNat (g.2.getD k (0, 0)).2.toNat (fun i => V.getD i 0) (fun i => (h.2.getD i (0, 0)).1) (fun i => (h.2.getD i (0, 0)).2) (by omega) (by omega) hN4 hkl hle5 (by omega) hh3 hha (fun E n W => CmJ (noTold).dr I F w g h gγ.g hγ.g B N le V E n W)
      (fun E n W j => by rw [← hga]; exact cell_at j.gC) (fun E n W j => by rw [← hhl]; exact cell_at j.hC) (fun E n W j => cell_at j.mC) (fun E n W j => cell_at j.mC) (fun E n W j => cell_at j.fC)
      (fun E n W j => by rw [ha]; exact (edge_cells (mem_at hI j).1 hga (by omega)).1) (fun E n W j => by rw [hb]; exact (edge_cells (mem_at hI j).1 hga (by omega)).2)
      (fun E n W j => hv W E n _ j (by omega)) (fun E n W j => hv W E n _ j (by omega)) (fun E n W j i hi => edge_cells (mem_at hI j).2 (hha (by omega)) hi) (fun E n W j m => j.drewN m)
      (fun E n W j im => ⟨⟨_, (cell_at j.eC).trans (ints_get (by rw [j.el]; exact hkl))⟩, frozen_at j.eC, j.setE hB k im⟩)
      _ (fun t => Lb.cmEdges (Lb.cmLeaf (fun V E => (O 30 (g, h, (V, E)) : Option Bool)) (fun V => (O 28 V : Option Int)) (fun V => (O 29 V : Option Int)) V) (Lb.cmHit g h V) le h.2.length d t) (fun E n => ?_) (fun i E n hi => ?_) (fun E n W t j ht => ?_) s E n W j hs
    · rw [← hk]
      simp [Lb.cmHit]
    · rw [← hk]
      have e1 : ((i + 1 : Nat) : Int) - 1 = i := by omega
      simp only [e1, Lb.cmHit, Int.toNat_natCast]
      rw [decide_eq_false (show ¬ (i : Int) = -1 by omega), decide_eq_true (show (0 : Int) ≤ i by omega), Bool.false_and, Bool.false_or, Bool.true_and]
    · have := ih E n t W j ht
      rw [show ((le - d : Nat) : Int) = (k : Int) + 1 by omega] at this
      exact this
abbrev edF (O : Fun Γ) (g h : Lb.GrL) (le : Nat) : List Int → List Int × Int → Option (List Int × Int) := fun V => Lb.cmEdges (Lb.cmLeaf (fun V E => (O 30 (g, h, (V, E)) : Option Bool)) (fun V => (O 28 V : Option Int)) (fun V => (O 29 V : Option Int)) V) (Lb.cmHit g h V) le h.2.length le
include hO hB hI hK hle hle5 hN1 hN4 hh3 hin in
theorem verts_ok {H : Nat} (hg : g.1 = (N : Int)) (hh : h.1 = (H : Int)) (hH : H ≤ 3) : ∀ d, d ≤ N → ∀ s s' W, CmJ (noTold).dr I F w g h gγ.g hγ.g B N le s.1 s.2.1 s.2.2 W → Lb.cmVerts (edF O g h le) N H d s = some s' →
    Calls Try.prog 26 #[.int .i64 ((N - d : Nat) : Int), .pointer (some ⟨B.gb, 0, none⟩), .pointer (some ⟨B.fb, 0, none⟩), .pointer (some ⟨B.mb, 0, none⟩), .pointer (some ⟨B.hb, 0, none⟩), .pointer (some ⟨B.tb, 0, none⟩)] W fun e w' => e = .returned (.tuple #[]) ∧ CmJ (noTold).dr I F w g h gγ.g hγ.g B N le s'.1 s'.2.1 s'.2.2 w'
  | 0, _, s, s', W, j, hs => by
    obtain ⟨t, h1, h2⟩ := Option.bind_eq_some_iff.1 hs
    obtain rfl := Option.some.inj h2
    refine cmV0_walk B.gb B.hb B.mb B.nb B.fb B.tb (N : Int) (fun W => CmJ (noTold).dr I F w g h gγ.g hγ.g B N le s.1 s.2.1 s.2.2 W) _ (fun W j => by rw [← hg]; exact cell_at j.gC) (fun W j => cell_at j.fC) (fun W j => ?_) W j
    have := edges_ok hO hB hI hK hle hle5 hN1 hN4 hh3 hin s.1 le (Nat.le_refl _) s.2.1 s.2.2 t W j h1
    rw [Nat.sub_self] at this
    exact this
  | d + 1, hd, s, s', W, j, hs => by
    obtain ⟨t, h1, h2⟩ := Option.bind_eq_some_iff.1 hs
    obtain rfl := Option.some.inj h2
    have ih := verts_ok hg hh hH d (by omega)
    obtain ⟨v, hv⟩ : ∃ v, v = N - (d + 1) := ⟨_, rfl⟩
    have hvN : v < N := by omega
    rw [← hv] at h1 ⊢
    exact cmV_walk v N H B.vb B.gb B.hb B.mb B.nb B.fb B.tb hvN hN4 hH (fun s W => CmJ (noTold).dr I F w g h gγ.g hγ.g B N le s.1 s.2.1 s.2.2 W)
      (fun s W j => by rw [← hg]; exact cell_at j.gC) (fun s W j => by rw [← hh]; exact cell_at j.hC) (fun s W j => cell_at j.mC) (fun s W j => cell_at j.tC)
      (fun s W j => (cell_at j.vC).trans (ints_get (by rw [j.vl]; exact hvN))) (fun s W j m => j.drewN m) (fun s W j x => ⟨frozen_at j.vC, j.setV hB v x⟩)
      _ (fun s W x j => set_get (by have := j.vl; rw [List.length_set] at this; omega)) (fun i s s' W j hf => by
        have hl := j.vl
        have := (verts_keep d _ _ (by omega) hf).2 v (by omega)
        rw [this]
        rw [List.length_set] at hl
        exact set_get (by omega))
      (fun i s s' W hi j hf => by
        have := ih _ _ W j hf
        rw [show ((N - d : Nat) : Int) = (v : Int) + 1 by omega] at this
        exact this) t s W j h1
end
theorem cm_holds {O : Fun Γ} (hO : Go.Den.Good Try.prog Γ noTold O) {a : Lb.GrL × Lb.GrL} {r : Int}
    (hr : Lb.cm (fun x => (O 23 x : Option Bool)) (fun x y z => (O 30 (x, y, z) : Option Bool)) (fun x => (O 28 x : Option Int)) (fun x => (O 29 x : Option Int)) a.1 a.2 = some r) : Go.Den.Holds Try.prog Γ noTold 31 a r := by
  obtain ⟨g, h⟩ := a
  obtain ⟨b, hb, hr⟩ := Option.bind_eq_some_iff.1 hr
  simp only at hb hr
  intro σ hσ w I F M hM hI hK
  obtain rfl : s31 = σ := Option.some.inj hσ
  have hM' : some [SV.val .reg GrT (.sh true) g, SV.val .reg GrT (.sh true) h] = some (M.map Item.sv) := hM
  have hM' := Option.some.inj hM'
  match M, hM', hM, hI with
  | [], hM', _, _ => cases hM'
  | [_], hM', _, _ => simp at hM'
  | _ :: _ :: _ :: _, hM', _, _ => simp at hM'
  | [⟨gsv, gv, gγ⟩, ⟨hsv, hv, hγ⟩], hM', hM, hI =>
    simp only [List.map_cons, List.map_nil, List.cons.injEq, and_true] at hM'
    obtain ⟨e1, e2⟩ := hM'
    subst e1; subst e2
    have g1 : gv = .agg #[.int .i64 g.1, .slice gγ.g.snd.addr gγ.g.snd.len gγ.g.snd.cap] := (hI.ok ⟨_, gv, gγ⟩ List.mem_cons_self).1
    have h1 : hv = .agg #[.int .i64 h.1, .slice hγ.g.snd.addr hγ.g.snd.len hγ.g.snd.cap] := (hI.ok ⟨_, hv, hγ⟩ (List.mem_cons_of_mem _ List.mem_cons_self)).1
    subst g1; subst h1
    let D := (noTold).dr
    have hn : ∀ i ∈ [(⟨.val .reg GrT (.sh true) g, .agg #[.int .i64 g.1, .slice gγ.g.snd.addr gγ.g.snd.len gγ.g.snd.cap], gγ⟩ : Den.Item), ⟨.val .reg GrT (.sh true) h, .agg #[.int .i64 h.1, .slice hγ.g.snd.addr hγ.g.snd.len hγ.g.snd.cap], hγ⟩], ∀ b, ¬ OwnS i.z i.γ b := fun i hi => by
      simp only [List.mem_cons, List.not_mem_nil, or_false] at hi
      rcases hi with rfl | rfl
      · exact no_own
      · exact no_own
    let W0 := (w.alloc (.cells #[.int .i64 g.1, .slice gγ.g.snd.addr gγ.g.snd.len gγ.g.snd.cap] 29)).alloc (.cells #[.int .i64 h.1, .slice hγ.g.snd.addr hγ.g.snd.len hγ.g.snd.cap] 29)
    have hW0 : Wx D I F w W0 := ((Wk.alloc I F w _).trans (Wk.alloc I F _ _) fun _ c => c).x
    have hs0 : W0.heap.size = w.heap.size + 2 := by simp [W0]
    have hg0 : W0.heap[w.heap.size]? = some (.cells #[.int .i64 g.1, .slice gγ.g.snd.addr gγ.g.snd.len gγ.g.snd.cap] 29 (0, 0)) := by
      show ((w.heap.push _).push _)[w.heap.size]? = _
      rw [Array.getElem?_push, Array.size_push, if_neg (by omega), Array.getElem?_push, if_pos rfl]
    have hh0 : W0.heap[w.heap.size + 1]? = some (.cells #[.int .i64 h.1, .slice hγ.g.snd.addr hγ.g.snd.len hγ.g.snd.cap] 29 (0, 0)) := by
      show ((w.heap.push _).push _)[w.heap.size + 1]? = _
      rw [Array.getElem?_push, Array.size_push, if_pos rfl]
    let J : World → Prop := fun W => Wx D I F w W ∧ W.heap[w.heap.size]? = some (.cells #[.int .i64 g.1, .slice gγ.g.snd.addr gγ.g.snd.len gγ.g.snd.cap] 29 (0, 0)) ∧ W.heap[w.heap.size + 1]? = some (.cells #[.int .i64 h.1, .slice hγ.g.snd.addr hγ.g.snd.len hγ.g.snd.cap] 29 (0, 0))
    let F' : Nat → Prop := fun b => F b ∧ b ≠ w.heap.size ∧ b ≠ w.heap.size + 1
    have hup : ∀ W, J W → ∀ i ∈ [(⟨.val .reg GrT (.sh true) g, .agg #[.int .i64 g.1, .slice gγ.g.snd.addr gγ.g.snd.len gγ.g.snd.cap], gγ⟩ : Den.Item), ⟨.val .reg GrT (.sh true) h, .agg #[.int .i64 h.1, .slice hγ.g.snd.addr hγ.g.snd.len hγ.g.snd.cap], hγ⟩], Items W I F' [i] := fun W hj i hi => by
      refine cm_items hI hj.1 (fun b hb => hb) (fun b hb hF => ⟨hF, by have := hI.imm b hb; omega, by have := hI.imm b hb; omega⟩) (fun b hb => Nat.lt_of_lt_of_le (hI.imm b hb) hj.1.size) (fun b hb => ⟨hI.new b (Nat.le_trans hj.1.size hb), ?_, ?_⟩) hn (fun k hk => by rw [List.mem_singleton] at hk; subst hk; exact .inl hi)
      · have := lt_of_block hj.2.1
        omega
      · have := lt_of_block hj.2.2
        omega
    have hnext : ∀ W W', J W → Wx D I F' W W' → J W' := fun W W' hj hx => ⟨hj.1.trans ⟨hx.os, hx.tape, hx.output, hx.size, hx.drawn, fun b hb hk => hx.old b hb (hk.imp id fun k c => k c.1)⟩ fun _ c => c, (hx.old _ (lt_of_block hj.2.1) (.inr fun c => c.2.1 rfl)).trans hj.2.1, (hx.old _ (lt_of_block hj.2.2) (.inr fun c => c.2.2 rfl)).trans hj.2.2⟩
    have htk : ∀ W, J W → TOk noTold F' W := fun W hj => (hK.wk hj.1).less fun b hb => hb.1
    have hJ0 : J W0 := ⟨hW0, hg0, hh0⟩
    have hG1 : ∀ W, W = W0 → Calls Try.prog 22 #[.agg #[.int .i64 g.1, .slice gγ.g.snd.addr gγ.g.snd.len gγ.g.snd.cap]] W fun e w' => e = .returned (.bool b) ∧ J w' := by
      rintro W rfl
      exact Calls.mono (ok_call hO g hb (i0 := ⟨.val .reg GrT (.sh true) g, _, gγ⟩) rfl (hup W0 hJ0 _ List.mem_cons_self) (htk _ hJ0)) fun e w' he => ⟨he.1, hnext _ _ hJ0 he.2⟩
    have hG2 : ∀ c, (O 23 h : Option Bool) = some c → ∀ W, J W → Calls Try.prog 22 #[.agg #[.int .i64 h.1, .slice hγ.g.snd.addr hγ.g.snd.len hγ.g.snd.cap]] W fun e w' => e = .returned (.bool c) ∧ J w' := fun c hc W hj =>
      Calls.mono (ok_call hO h hc (i0 := ⟨.val .reg GrT (.sh true) h, _, hγ⟩) rfl (hup W hj _ (List.mem_cons_of_mem _ List.mem_cons_self)) (htk _ hj)) fun e w' he => ⟨he.1, hnext _ _ hj he.2⟩
    let Q : Ending → World → Prop := fun e w' => e = .returned (.int .i64 r) ∧ Wx D I F w w'
    suffices hQ : Calls Try.prog 8 #[.agg #[.int .i64 g.1, .slice gγ.g.snd.addr gγ.g.snd.len gγ.g.snd.cap], .agg #[.int .i64 h.1, .slice hγ.g.snd.addr hγ.g.snd.len hγ.g.snd.cap]] w Q by
      refine Calls.mono hQ fun e w' he => ?_
      obtain ⟨rfl, hx⟩ := he
      refine ⟨hx, fun _ => False, [⟨.val .reg (.int .i64) (.sh false) r, .int .i64 r, ⟨none, .lf⟩⟩], [], rfl, rfl, ⟨fun i hi => ?_, fun i hi k r v s d p t c => ?_, List.pairwise_singleton _ _, fun i hi b hb => ?_, fun b hb => hb.elim, fun b hb => hI.new b (Nat.le_trans hx.size hb)⟩, fun b hb => hb.elim, rfl, rfl, fun i hi b hb => ?_⟩
      · rw [List.append_nil, List.mem_singleton] at hi
        subst hi
        exact ⟨rfl, trivial, trivial, rfl⟩
      · rw [List.append_nil, List.mem_singleton] at hi
        subst hi
        cases c
      · rw [List.append_nil, List.mem_singleton] at hi
        subst hi
        exact hb.elim
      · rw [List.append_nil, List.mem_singleton] at hi
        subst hi
        exact hb.elim
    have mg := (hI.ok _ List.mem_cons_self).2.1
    have mh := (hI.ok _ (List.mem_cons_of_mem _ List.mem_cons_self)).2.1
    have hgl : gγ.g.snd.len = g.2.length := mg.2.1
    have hhl : hγ.g.snd.len = h.2.length := mh.2.1
    have no : ∀ c, (b = true → (O 23 h : Option Bool) = some c) → (b = false ∨ c = false ∨ 4 < g.1 ∨ 5 < gγ.g.snd.len ∨ 3 < h.1 ∨ 3 < hγ.g.snd.len) → r = -1 → Calls Try.prog 8 #[.agg #[.int .i64 g.1, .slice gγ.g.snd.addr gγ.g.snd.len gγ.g.snd.cap], .agg #[.int .i64 h.1, .slice hγ.g.snd.addr hγ.g.snd.len hγ.g.snd.cap]] w Q := fun c hc hbad hr1 =>
      cmN_walk _ _ _ _ _ _ g.1 h.1 w b c J Q hG1 (fun hb => hG2 c (hc hb)) (fun W hj => cell_at hj.2.1) (fun W hj => cell_at hj.2.1) (fun W hj => cell_at hj.2.2) (fun W hj => cell_at hj.2.2) (fun W hj m => ⟨wx_drewN hj.1 m, hj.2⟩) hbad (fun W hj => ⟨by rw [hr1], hj.1⟩)
    cases b with
    | false => exact no false (fun c => by cases c) (.inl rfl) (Option.some.inj hr).symm
    | true =>
    rw [cond_true] at hr
    obtain ⟨c, hc, hr⟩ := Option.bind_eq_some_iff.1 hr
    cases c with
    | false => exact no false (fun _ => hc) (.inr (.inl rfl)) (Option.some.inj hr).symm
    | true =>
    rw [cond_true] at hr
    by_cases hsm : g.1 ≤ 4 ∧ g.2.length ≤ 5 ∧ h.1 ≤ 3 ∧ h.2.length ≤ 3
    case neg =>
      rw [show (decide (g.1 ≤ 4) && decide (g.2.length ≤ 5) && decide (h.1 ≤ 3) && decide (h.2.length ≤ 3)) = false by
        rw [← Bool.not_eq_true]; simp only [Bool.and_eq_true, decide_eq_true_eq]; intro k; exact hsm ⟨k.1.1.1, k.1.1.2, k.1.2, k.2⟩, cond_false] at hr
      exact no true (fun _ => hc) (by rw [hgl, hhl]; omega) (Option.some.inj hr).symm
    case pos =>
      obtain ⟨q1, q2, q3, q4⟩ := hsm
      rw [decide_eq_true q1, decide_eq_true q2, decide_eq_true q3, decide_eq_true q4] at hr
      simp only [Bool.and_self, cond_true] at hr
      cases hin : Lb.cmIn g h with
      | false => rw [hin] at hr; cases hr
      | true =>
      rw [hin, cond_true] at hr
      unfold Lb.cmIn at hin
      simp only [Bool.and_eq_true, decide_eq_true_eq, List.all_eq_true] at hin
      obtain ⟨⟨n1, n2⟩, n3⟩ := hin
      obtain ⟨t, ht, hr⟩ := Option.bind_eq_some_iff.1 hr
      obtain rfl := Option.some.inj hr
      obtain ⟨N, hN⟩ : ∃ N : Nat, g.1 = N := ⟨g.1.toNat, by omega⟩
      obtain ⟨H, hH⟩ : ∃ H : Nat, h.1 = H := ⟨h.1.toNat, by omega⟩
      unfold Lb.cmAll at ht
      have eN : g.1.toNat = N := by omega
      have eH : h.1.toNat = H := by omega
      rw [eN, eH] at ht
      have main := cmM_walk gγ.g.snd.addr gγ.g.snd.len gγ.g.snd.cap hγ.g.snd.addr hγ.g.snd.len hγ.g.snd.cap N H w (by omega) (by omega) (by omega) (by omega) J Q (fun W hW => by rw [← hN]; exact hG1 W (by rw [hW, ← hN, ← hH])) (fun W hj => by rw [← hH]; exact hG2 true hc W hj) (fun W hj => by rw [← hN]; exact cell_at hj.2.1) (fun W hj => cell_at hj.2.1) (fun W hj => by rw [← hH]; exact cell_at hj.2.2) (fun W hj => cell_at hj.2.2) (fun W hj m => ⟨wx_drewN hj.1 m, hj.2⟩) fun w3 W vb eb mb hj hS => ?_
      · rw [← hN, ← hH] at main
        exact main
      · have ho := hS.old
        have hs3 : w.heap.size + 2 ≤ w3.heap.size := by
          have := lt_of_block hj.2.2
          omega
        obtain ⟨l1, l2⟩ := hS.lv
        obtain ⟨l3, l4⟩ := hS.le
        obtain ⟨l5, l6⟩ := hS.lm
        let B : CmB := ⟨w.heap.size, w.heap.size + 1, mb, w3.heap.size + 1 + 1 + 1, w3.heap.size + 1 + 1 + 1 + 1, w3.heap.size + 1 + 1 + 1 + 1 + 1, vb, eb⟩
        have hB : B.Ok w.heap.size := ⟨rfl, rfl, ⟨by show _ ≤ vb; omega, by show _ ≤ eb; omega, by show _ ≤ mb; omega⟩, ⟨by show vb < w3.heap.size + 3; omega, by show eb < w3.heap.size + 3; omega, by show mb < w3.heap.size + 3; omega⟩, rfl, rfl, hS.ve, hS.vm, hS.em⟩
        have hx : Wx D I F w W := hj.1.trans ⟨hS.os, hS.tape, hS.output, by rw [hS.size]; omega, fun _ => hS.drawn, fun b hb _ => ho b hb⟩ fun _ c => c
        have hj0 : CmJ D I F w g h gγ.g hγ.g B N g.2.length (List.replicate N 0) (List.replicate g.2.length 0) 0 W :=
          ⟨hx, (ho _ (lt_of_block hj.2.1)).trans hj.2.1, (ho _ (lt_of_block hj.2.2)).trans hj.2.2, by rw [← hgl]; exact hS.ms, by rw [← ints_zero]; exact hS.vs, by rw [← ints_zero, ← hgl]; exact hS.es, hS.nn, hS.ff, hS.vv, List.length_replicate, List.length_replicate, Int.le_refl _, by omega⟩
        have := verts_ok (N := N) hO hB hI hK rfl q2 (by omega) (by omega) q4 (fun e he => by
          have := n3 e he
          rw [hN] at this
          exact ⟨⟨this.1.1.1, this.1.1.2⟩, this.1.2, this.2⟩) hN hH (by omega) N (Nat.le_refl _) _ t W hj0 ht
        rw [Nat.sub_self] at this
        refine Calls.mono this fun e w' he => ⟨he.1, t.2.2, cell_at he.2.nC, rfl, he.2.x⟩
end Go.Proofs.Ytgncajnfphlgeaa.D

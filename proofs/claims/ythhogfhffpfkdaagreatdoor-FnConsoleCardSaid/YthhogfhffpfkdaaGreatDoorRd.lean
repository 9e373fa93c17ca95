/-
  Rows taken one by one out of a list, each with one place struck, and appended to another: what lies where.
-/
import Derived.Test.YthhogfhffpfkdaaGreatDoorDnC
import Derived.Test.YthhogfhffpfkdaaGreatDoorLb
import Derived.Shelf.SlicesG.Delete
namespace Go.Den
open Go
set_option linter.unusedVariables false
set_option linter.unusedSimpArgs false
abbrev RT : Ty := .sl (.int .i64)
abbrev RRT : Ty := .sl RT
abbrev RM : Md := .own (.sh false)
abbrev RRM : Md := .own RM
def bl' (g : G) (b : Nat) : Prop := ∃ a, g.addr = some a ∧ a.block = b
def noB : Nat → Prop := fun _ => False
/-- the world after a row is laid -/
def laidW (w : World) (blk off n : Nat) (d : List Int) : World := Go.Sort.putRow (Value.int .i64) (Go.Sort.ahead w n) blk off d.toArray
theorem lw_heap (w : World) (blk off nn : Nat) (d : List Int) {b : Nat} (hne : b ≠ blk) : (laidW w blk off nn d).heap[b]? = w.heap[b]? := by
  show (w.heap.modify blk (Go.Sort.onCells (Go.Sort.putCells (Value.int .i64) off d.toArray)))[b]? = _
  rw [Array.getElem?_modify, if_neg (fun c => hne c.symm)]
theorem lw_at (w : World) (blk off nn : Nat) (d : List Int) {C : Array Value} {te : TypeId} {fz : Nat × Nat} (hC : w.heap[blk]? = some (.cells C te fz)) :
    (laidW w blk off nn d).heap[blk]? = some (.cells (Go.Sort.putCells (Value.int .i64) off d.toArray C) te fz) := by
  show (w.heap.modify blk (Go.Sort.onCells (Go.Sort.putCells (Value.int .i64) off d.toArray)))[blk]? = _
  rw [Array.getElem?_modify, if_pos rfl, hC]
  rfl
theorem lw_size (w : World) (blk off nn : Nat) (d : List Int) : (laidW w blk off nn d).heap.size = w.heap.size := by
  show (w.heap.modify blk (Go.Sort.onCells (Go.Sort.putCells (Value.int .i64) off d.toArray))).size = _
  simp
theorem own_row {g : G} {b : Nat} : Own RT RM g b ↔ bl' g b := ⟨fun h => h.elim id fun ⟨_, _, k⟩ => k.elim, .inl⟩
theorem mem_row {w : World} {I I' F F' : Nat → Prop} {x : List Int} {g : G} (h : Mem w I F RT RM x g) : Mem w I' F' RT RM x g := ⟨h.1, h.2.1, fun i hi => ⟨(h.2.2 i hi).1, trivial⟩⟩
theorem mem_rows {w : World} {I I' F F' : Nat → Prop} {x : List (List Int)} {g : G} (h : Mem w I F RRT RRM x g) : Mem w I' F' RRT RRM x g := ⟨h.1, h.2.1, fun i hi => ⟨(h.2.2 i hi).1, mem_row (h.2.2 i hi).2⟩⟩
/-- the row of one's own that a place is struck out of -/
theorem strike_calls {P : Program} {ρ : Go.Shelf.Ren} (L : Go.Proofs.SlLaysN.n45 P ρ) {w : World} {I F : Nat → Prop} {xs : List Int} {q : Nat} {g : G} (hq : q < xs.length)
    (M : Mem w I F RT RM xs g) : ∃ b0, bl' g b0 ∧ Calls P (ρ.f 45) #[.slice g.addr g.len g.cap, .int .i64 q, .int .i64 (q + 1)] w fun e w' => e = .returned (.slice g.addr (g.len - 1) g.cap) ∧
      w'.os = w.os ∧ w'.tape = w.tape ∧ w'.output = w.output ∧ w'.heap.size = w.heap.size ∧ w.drawn ≤ w'.drawn ∧ (∀ b, b ≠ b0 → w'.heap[b]? = w.heap[b]?) ∧ Mem w' I F RT RM (Lb.delAt q xs) (.hd g.addr (g.len - 1) g.cap g.kid) := by
  have hgl : g.len = xs.length := M.1
  rcases M.2.1 with ⟨_, h0, _⟩ | ⟨blk, o, C, te, ha, hC, h1, h2, h3⟩
  · omega
  have hH : Go.Sort.Holds (Value.int .i64) w blk o xs.toArray := fun j hj => by
    have hj' : j < xs.length := by simpa using hj
    refine ⟨?_, ?_⟩
    · have := (M.2.2 j (by rw [hgl]; exact hj')).1
      obtain ⟨dd, q1, q2⟩ := this 0 _ rfl
      rw [ha] at q1; cases q1
      rw [Addr.add_mk] at q2
      have e : xs.toArray[j]! = xs.getD j 0 := by
        rw [getElem!_pos xs.toArray j hj, List.getD_eq_getElem?_getD, List.getElem?_eq_getElem hj']; simp
      have q2' : w.cell? ⟨blk, o + (j * 1 + 0), none⟩ = some (.int .i64 (xs.getD j 0)) := q2
      rw [Nat.mul_one, Nat.add_zero] at q2'
      rw [e]; exact q2'
    · show World.frozen? w _ = false
      unfold World.frozen?
      rw [hC]
      simp
  refine ⟨blk, ⟨_, ha, rfl⟩, ?_⟩
  have main := Go.Proofs.AnyG.slices_Delete_int L blk o g.cap q (q + 1) xs w hH (by omega) h3 (Nat.le_succ q) hq
  have hsl : (Value.slice g.addr g.len g.cap) = .slice (some ⟨blk, o, none⟩) xs.length g.cap := by rw [ha, hgl]
  have hsl2 : (Value.slice g.addr (g.len - 1) g.cap) = .slice (some ⟨blk, o, none⟩) (xs.length - 1) g.cap := by rw [ha, hgl]
  rw [hsl, hsl2]
  refine Calls.mono main fun e w' ⟨he, nn, hw⟩ => ?_
  have hd : xs.take q ++ xs.drop (q + 1) ++ List.replicate (q + 1 - q) 0 = Lb.delAt q xs ++ [0] := by
    rw [show q + 1 - q = 1 by omega]; rfl
  rw [hd] at hw
  have hw : w' = laidW w blk o nn (Lb.delAt q xs ++ [0]) := hw
  have hdl : (Lb.delAt q xs).length = xs.length - 1 := by
    unfold Lb.delAt
    rw [List.length_append, List.length_take, List.length_drop]; omega
  subst hw
  refine ⟨by rw [he, show q + 1 - q = 1 by omega], rfl, rfl, rfl, lw_size _ _ _ _ _, Nat.le_add_right _ _, fun b hb => lw_heap _ _ _ _ _ hb, ?_, ?_, ?_⟩
  · show g.len - 1 = _
    rw [hdl, hgl]
  · refine .inr ⟨blk, o, _, te, ha, lw_at w blk o nn _ hC, ?_, ?_, h3⟩
    · have : (Go.Sort.putCells (Value.int .i64) o (Lb.delAt q xs ++ [0]).toArray C).size = C.size := by simp [Go.Sort.putCells]
      rw [this]
      exact h1
    · show g.len - 1 ≤ g.cap
      omega
  · intro j hj
    have hj1 : j < g.len - 1 := hj
    refine ⟨?_, trivial⟩
    show At _ g.addr (j * 1) [.int .i64 ((Lb.delAt q xs).getD j 0)]
    rw [Nat.mul_one, ha, At.blk (lw_at w blk o nn _ hC)]
    intro k v hk
    cases k with
    | succ k => simp at hk
    | zero =>
      simp only [List.getElem?_cons_zero, Option.some.injEq] at hk
      subst hk
      have hjC : o + j < C.size := by
        have : g.cap * Ty.size (.int .i64) = g.cap := Nat.mul_one _
        omega
      have hd : (Lb.delAt q xs ++ [0]).toArray[j]! = (Lb.delAt q xs).getD j 0 := by
        have hjl : j < (Lb.delAt q xs).length := by omega
        have e0 : ∀ (ys : List Int) (h : j < ys.length), ys.toArray[j]! = ys.getD j 0 := fun ys h => by
          rw [getElem!_pos ys.toArray j (by simpa using h), List.getD_eq_getElem?_getD, List.getElem?_eq_getElem h]; simp
        rw [e0 _ (by rw [List.length_append]; omega), List.getD_eq_getElem?_getD, List.getElem?_append_left hjl, List.getD_eq_getElem?_getD]
      simp only [Nat.add_zero, Go.Sort.putCells, Array.getElem?_mapIdx, Array.getElem?_eq_getElem hjC, Option.map_some]
      rw [if_pos ⟨by omega, by simp; omega⟩, show o + j - o = j by omega, hd]
/-- what still lies with the list from its k-th row on -/
def RestB (gL : G) (k b : Nat) : Prop := bl' gL b ∨ ∃ j, k ≤ j ∧ j < gL.len ∧ bl' (gL.kid j) b
theorem RestB.le {gL : G} {k m b : Nat} (h : k ≤ m) (hb : RestB gL m b) : RestB gL k b := hb.imp id fun ⟨j, h1, h2, h3⟩ => ⟨j, Nat.le_trans h h1, h2, h3⟩
def gAddr (g : G) (hb ho l : Nat) : Prop := g.addr = some ⟨hb, ho, none⟩ ∧ g.len = l
structure OutOk (w : World) (I F : Nat → Prop) (gL : G) (k : Nat) (X : List (List Int)) (o : Value) : Prop where
  out : ∃ g, o = .slice g.addr g.len g.cap ∧ Mem w noB noB RRT RRM X g ∧ Sep RRT RRM g ∧ ∀ b, Own RRT RRM g b → F b ∧ ¬ I b ∧ b < w.heap.size ∧ ¬ RestB gL k b
structure ListOk (D : Prop) (w0 : World) (I F : Nat → Prop) (L : List (List Int)) (gL : G) (k : Nat) (w : World) : Prop where
  wx : Wx D I F w0 w
  hdr : ∀ j, j < gL.len → At w gL.addr j [.slice (gL.kid j).addr (gL.kid j).len (gL.kid j).cap]
  rows : ∀ j, k ≤ j → j < gL.len → Mem w noB noB RT RM (L.getD j []) (gL.kid j)
  lv : ∀ b, RestB gL 0 b → F b ∧ ¬ I b ∧ b < w.heap.size
  imm : ∀ b, I b → b < w.heap.size
  new : ∀ b, w.heap.size ≤ b → F b
  sep : Sep RRT RRM gL
section
variable {D : Prop} {w0 w w' : World} {I F : Nat → Prop} {L : List (List Int)} {gL : G} {q k : Nat} {o : Value}
theorem ListOk.succ (h : ListOk D w0 I F L gL k w) : ListOk D w0 I F L gL (k + 1) w := ⟨h.wx, h.hdr, fun j hj => h.rows j (by omega), h.lv, h.imm, h.new, h.sep⟩
/-- the world goes on; the list's own blocks (but for its k-th row) are as they were -/
theorem ListOk.go (h : ListOk D w0 I F L gL k w) (hx : Wx D I F w w') (hb : ∀ b, RestB gL (k + 1) b → w'.heap[b]? = w.heap[b]?) : ListOk D w0 I F L gL (k + 1) w' :=
  ⟨h.wx.trans hx fun _ c => c, fun j hj => (h.hdr j hj).frame fun d hd => hb _ (.inl ⟨d, hd, rfl⟩),
    fun j hj hl => (h.rows j (by omega) hl).frame fun b hk => hk.elim (fun hk => hb b (.inr ⟨j, hj, hl, own_row.1 hk⟩)) fun hk => hk.elim,
    fun b hk => ⟨(h.lv b hk).1, (h.lv b hk).2.1, Nat.lt_of_lt_of_le (h.lv b hk).2.2 hx.size⟩, fun b hk => Nat.lt_of_lt_of_le (h.imm b hk) hx.size, fun b hk => h.new b (Nat.le_trans hx.size hk), h.sep⟩
theorem ListOk.cell (h : ListOk D w0 I F L gL k w) {hb ho : Nat} (ha : gL.addr = some ⟨hb, ho, none⟩) {j : Nat} (hj : j < gL.len) : w.cell? ⟨hb, ho + j, none⟩ = some (.slice (gL.kid j).addr (gL.kid j).len (gL.kid j).cap) := by
  obtain ⟨d, hd, hv⟩ := h.hdr j hj 0 _ rfl
  rw [ha] at hd; cases hd
  rw [Addr.add_mk] at hv
  exact hv
theorem OutOk.go {X : List (List Int)} (h : OutOk w I F gL k X o) (hs : w.heap.size ≤ w'.heap.size) (hb : ∀ b, F b → ¬ I b → b < w.heap.size → ¬ RestB gL k b → w'.heap[b]? = w.heap[b]?) : OutOk w' I F gL k X o := by
  obtain ⟨g, h1, h2, h3, h4⟩ := h.out
  exact ⟨g, h1, h2.frame fun b hk => hk.elim (fun hk => hb b (h4 b hk).1 (h4 b hk).2.1 (h4 b hk).2.2.1 (h4 b hk).2.2.2) fun hk => hk.elim, h3, fun b hk => ⟨(h4 b hk).1, (h4 b hk).2.1, Nat.lt_of_lt_of_le (h4 b hk).2.2.1 hs, (h4 b hk).2.2.2⟩⟩
/-- a struck row, taken out -/
structure RowOk (w : World) (gL : G) (k : Nat) (x : List Int) (s : Value) : Prop where
  row : ∃ g, s = .slice g.addr g.len g.cap ∧ Mem w noB noB RT RM x g ∧ ∀ b, bl' g b → bl' (gL.kid k) b
theorem strike_ok {P : Program} {X : List (List Int)} {ρ : Go.Shelf.Ren} (Lx : Go.Proofs.SlLaysN.n45 P ρ) (h : ListOk D w0 I F L gL k w) (ho : OutOk w I F gL k X o) (hk : k < gL.len) (hq : q < (L.getD k []).length) :
    Calls P (ρ.f 45) #[.slice (gL.kid k).addr (gL.kid k).len (gL.kid k).cap, .int .i64 q, .int .i64 (q + 1)] w fun e w' => ∃ a l c, e = .returned (.slice a l c) ∧ ListOk D w0 I F L gL (k + 1) w' ∧ OutOk w' I F gL k X o ∧ RowOk w' gL k (Lb.delAt q (L.getD k [])) (.slice a l c) := by
  obtain ⟨b0, hb0, hc⟩ := strike_calls Lx hq (h.rows k (Nat.le_refl _) hk)
  have hr0 : RestB gL k b0 := .inr ⟨k, Nat.le_refl _, hk, hb0⟩
  have l0 := h.lv b0 (hr0.le (Nat.zero_le _))
  refine Calls.mono hc fun e w' ⟨he, q1, q2, q3, q4, q5, q6, q7⟩ => ?_
  have hx : Wx D I F w w' := ⟨q1, q2, q3, by omega, fun _ => q5, fun b hb hk => q6 b fun c => by subst c; exact hk.elim l0.2.1 fun k => k l0.1⟩
  refine ⟨_, _, _, he, h.go hx fun b hb => q6 b fun c => ?_, ho.go (by omega) fun b _ _ _ hn => q6 b fun c => hn (c ▸ hr0), ⟨_, rfl, q7, fun b hb => hb⟩⟩
  subst c
  rcases hb with ⟨a, ha, hab⟩ | ⟨j, hj, hl, hb⟩
  · exact h.sep.2.2 a k ha hk (hab ▸ own_row.2 hb0)
  · exact h.sep.2.1 j k b hl hk (by omega) (own_row.2 hb) (own_row.2 hb0)
def appA (o s : Value) : Nat → Value := fun n => if n = 0 then o else if n = 1 then s else undef
theorem redUp_succ {q k : Nat} (h : k ≠ q) : Lb.redUp q L (k + 1) = Lb.redUp q L k ++ [Lb.delAt q (L.getD k [])] := by
  unfold Lb.redUp
  rw [List.range_succ, List.filter_append, List.map_append]
  simp [h]
theorem redUp_skip {q : Nat} : Lb.redUp q L (q + 1) = Lb.redUp q L q := by
  unfold Lb.redUp
  rw [List.range_succ, List.filter_append, List.map_append]
  simp
theorem app_run {O : Fun ⟨[], [], [], false, []⟩} {X Y : List (List Int)} (h : List.length X + List.length Y ≤ room) :
    (appendM (Γ := ⟨[], [], [], false, []⟩) (some 2) RRT (.tmp 0) (.tmp 1)).run O [(0, ⟨0, 0, 0, .val .reg RRT RRM X⟩), (1, ⟨0, 0, 0, .val .reg RRT RRM Y⟩)] (fun _ e => some e) =
      some [(0, ⟨0, 0, 0, .val .reg RRT .gone X⟩), (1, ⟨0, 0, 0, .val .reg RRT .gone Y⟩), (2, ⟨1, 0, 0, .val .reg RRT RRM (X ++ Y : List (List Int))⟩)] := by
  have e : (appendM (Γ := ⟨[], [], [], false, []⟩) (some 2) RRT (.tmp 0) (.tmp 1)).run O [(0, ⟨0, 0, 0, .val .reg RRT RRM X⟩), (1, ⟨0, 0, 0, .val .reg RRT RRM Y⟩)] (fun _ e => some e) =
      cond (decide (List.length X + List.length Y ≤ room)) (some [(0, ⟨0, 0, 0, .val .reg RRT .gone X⟩), (1, ⟨0, 0, 0, .val .reg RRT .gone Y⟩), (2, ⟨1, 0, 0, .val .reg RRT RRM (X ++ Y : List (List Int))⟩)]) none := rfl
  rw [e, decide_eq_true h]
  rfl
theorem append_ok {P : Program} {X : List (List Int)} {T E : TypeId} {eq : Bool} (hT : TyOk P T ⟨RRT, [], eq⟩) (h : ListOk D w0 I F L gL (k + 1) w) {x : List Int} {s : Value} (ho : OutOk w I F gL k X o) (hr : RowOk w gL k x s) (hk : k < gL.len) (hX : List.length X + 1 ≤ room) :
    ∃ v w', (Builtin.append_ #[T, T] T #[o, .slice (some ⟨w.heap.size, 0, none⟩) 1 1]).run P (w.alloc (.cells #[s] E)) = .ok v w' ∧ ListOk D w0 I F L gL (k + 1) w' ∧ OutOk w' I F gL (k + 1) (X ++ [x]) v := by
  obtain ⟨g, rfl, o2, o3, o4⟩ := ho.out
  obtain ⟨gr, rfl, r2, r3⟩ := hr.row
  let F' : Nat → Prop := fun b => F b ∧ ¬ RestB gL (k + 1) b
  let w2 := w.alloc (.cells #[Value.slice gr.addr gr.len gr.cap] E)
  have hs2 : w2.heap.size = w.heap.size + 1 := by simp [w2]
  have old : ∀ b, b < w.heap.size → w2.heap[b]? = w.heap[b]? := fun b hb => (Wk.alloc noB noB w _).old b hb (.inr id)
  have kidk : ∀ b, bl' (gL.kid k) b → F b ∧ ¬ I b ∧ b < w.heap.size ∧ RestB gL k b ∧ ¬ RestB gL (k + 1) b := fun b hb => by
    have hr : RestB gL k b := .inr ⟨k, Nat.le_refl _, hk, hb⟩
    have hl := h.lv b (hr.le (Nat.zero_le _))
    refine ⟨hl.1, hl.2.1, hl.2.2, hr, fun c => ?_⟩
    rcases c with ⟨a, ha, hab⟩ | ⟨j, hj, hl, hc⟩
    · exact h.sep.2.2 a k ha hk (hab ▸ own_row.2 hb)
    · exact h.sep.2.1 j k b hl hk (by omega) (own_row.2 hc) (own_row.2 hb)
  let g1 : G := .hd (some ⟨w.heap.size, 0, none⟩) 1 1 fun _ => gr
  have hat1 : At w2 (some ⟨w.heap.size, 0, none⟩) 0 [Value.slice gr.addr gr.len gr.cap] := At.new (t := RT) (x := x) (g := gr)
  have new0 : ∀ b, RestB gL 0 b → b < w.heap.size := fun b hb => (h.lv b hb).2.2
  have hC2 : w2.heap[w.heap.size]? = some (.cells #[Value.slice gr.addr gr.len gr.cap] E (0, 0)) := by
    show (w.heap.push _)[w.heap.size]? = _
    simp
  have M1 : Mem w2 I F' RRT RRM [x] g1 := by
    refine ⟨rfl, .inr ⟨w.heap.size, 0, #[Value.slice gr.addr gr.len gr.cap], E, rfl, hC2, Nat.le_refl _, Nat.le_refl _, by unfold maxLen; exact Nat.le_of_ble_eq_true rfl⟩, fun i hi => ?_⟩
    have hi0 : i = 0 := by have : i < 1 := hi; omega
    subst hi0
    exact ⟨hat1, mem_row (r2.frame fun b hb => hb.elim (fun hb => old b (kidk b (r3 b (own_row.1 hb))).2.2.1) fun hb => hb.elim)⟩
  have S1 : Sep RRT RRM g1 := by
    refine ⟨fun i hi => ⟨fun _ _ => trivial, fun _ _ _ _ _ _ k => k.elim, fun _ _ _ _ k => k.elim⟩, fun i j b hi hj hij => ?_, fun a i ha hi c => ?_⟩
    · have h1 : i < 1 := hi
      have h2 : j < 1 := hj
      omega
    · cases ha
      have := (kidk _ (r3 _ (own_row.1 c))).2.2.1
      exact Nat.lt_irrefl _ this
  have O1 : ∀ b, Own RRT RRM g1 b → b = w.heap.size ∨ bl' gr b := fun b hb => by
    rcases hb with ⟨a, ha, hab⟩ | ⟨i, hi, hb⟩
    · cases ha; exact .inl hab.symm
    · exact .inr (own_row.1 hb)
  have M0 : Mem w2 I F' RRT RRM X g := mem_rows (o2.frame fun b hb => hb.elim (fun hb => old b (o4 b hb).2.2.1) fun hb => hb.elim)
  let i0 : Item := ⟨.val .reg RRT RRM X, .slice g.addr g.len g.cap, ⟨none, g⟩⟩
  let i1 : Item := ⟨.val .reg RRT RRM ([x] : List (List Int)), .slice (some ⟨w.heap.size, 0, none⟩) 1 1, ⟨none, g1⟩⟩
  have hI : Items w2 I F' [i0, i1] := by
    refine ⟨fun i hi => ?_, fun i hi k r v s d p t c => ?_, ?_, fun i hi b hb => ?_, fun b hb => by have := h.imm b hb; omega, fun b hb => ⟨h.new b (by omega), fun c => by have := new0 b (c.le (Nat.zero_le _)); omega⟩⟩
    · simp only [List.mem_cons, List.not_mem_nil, or_false] at hi
      rcases hi with rfl | rfl
      · exact ⟨rfl, M0, o3, rfl⟩
      · exact ⟨rfl, M1, S1, rfl⟩
    · simp only [List.mem_cons, List.not_mem_nil, or_false] at hi
      rcases hi with rfl | rfl <;> cases c
    · refine List.pairwise_cons.2 ⟨fun j hj b hb hc => ?_, List.pairwise_singleton _ _⟩
      rw [List.mem_singleton] at hj
      subst hj
      have hb' : Own RRT RRM g b := hb
      have hl := o4 b hb'
      rcases O1 b hc with c | c
      · omega
      · exact hl.2.2.2 (kidk b (r3 b c)).2.2.2.1
    · simp only [List.mem_cons, List.not_mem_nil, or_false] at hi
      rcases hi with rfl | rfl
      · have hb' : Own RRT RRM g b := hb
        have hl := o4 b hb'
        exact ⟨⟨hl.1, fun c => hl.2.2.2 (c.le (Nat.le_succ k))⟩, hl.2.1, by omega⟩
      · rcases O1 b hb with c | c
        · subst c
          exact ⟨⟨h.new _ (Nat.le_refl _), fun c => by have := new0 _ (c.le (Nat.zero_le _)); omega⟩, fun c => by have := h.imm _ c; omega, by omega⟩
        · have hl := kidk b (r3 b c)
          exact ⟨⟨hl.1, hl.2.2.2.2⟩, hl.2.1, by omega⟩
  let e : Env := [(0, i0.z), (1, i1.z)]
  have he : ∀ n, e.get n = (itemAt [i0, i1] n).z := fun n => by
    match n with
    | 0 => rfl
    | 1 => rfl
    | n + 2 => rfl
  have St0 := hI.st (fun i hi g cs c => by
    simp only [List.mem_cons, List.not_mem_nil, or_false] at hi
    rcases hi with rfl | rfl <;> cases c) (a := appA i0.v i1.v) he (fun n hn => by
    match n with
    | 0 => rfl
    | 1 => rfl
    | n + 2 => have : n + 2 < 2 := hn; omega)
  let Γ0 : Ctx := ⟨[], [], [], false, []⟩
  have hr1 := app_run (O := fun _ _ => none) (X := X) (Y := [x]) hX
  obtain ⟨v, w', a1, a2, e', γ', I', a3, a4, a5, a6⟩ := appendM_ok (P := P) (T := T) (U := T) (ty := T) (i := ⟨RRT, [], eq⟩) (j := ⟨RRT, [], eq⟩) St0 (fun _ => id) hT hT rfl hr1
  cases a3
  have sl := a4.slot 2 id
  obtain ⟨b1, b2, b3⟩ := sl.valMem rfl
  have hv : v = .slice (γ' 2).g.addr (γ' 2).g.len (γ' 2).g.cap := b1
  have hx1 : Wx D I F w w2 := ⟨rfl, rfl, rfl, by omega, fun _ => Nat.le_refl _, fun b hb _ => old b hb⟩
  have hx2 : Wx D I F w2 w' := ⟨a2.os, a2.tape, a2.output, a2.size, fun _ => a2.drawn, fun b hb hk => a2.old b hb (hk.imp id fun hk c => hk c.1)⟩
  refine ⟨v, w', a1, ⟨h.wx.trans (hx1.trans hx2 fun _ c => c) fun _ c => c, fun j hj => ?_, fun j hj hl => ?_, fun b hb => ?_, fun b hb => ?_, fun b hb => ?_, h.sep⟩, ⟨(γ' 2).g, hv, mem_rows b2, b3, fun b hb => ?_⟩⟩
  · refine (h.hdr j hj).frame fun d hd => ?_
    have hl := new0 d.block (.inl ⟨d, hd, rfl⟩)
    rw [a2.old d.block (by omega) (.inr fun c => c.2 (.inl ⟨d, hd, rfl⟩)), old _ hl]
  · refine (h.rows j hj hl).frame fun b hb => hb.elim (fun hb => ?_) fun hb => hb.elim
    have hR : RestB gL (k + 1) b := .inr ⟨j, hj, hl, own_row.1 hb⟩
    have hl := new0 b (hR.le (Nat.zero_le _))
    rw [a2.old b (by omega) (.inr fun c => c.2 hR), old _ hl]
  · have hl := h.lv b hb
    have := a2.size
    exact ⟨hl.1, hl.2.1, by omega⟩
  · have := h.imm b hb
    have := a2.size
    omega
  · have := a2.size
    exact h.new b (by omega)
  · have hb2 : OwnS (Env.get [(0, ⟨0, 0, 0, .val .reg RRT .gone X⟩), (1, ⟨0, 0, 0, .val .reg RRT .gone [x]⟩), (2, ⟨1, 0, 0, .val .reg RRT RRM (X ++ [x] : List (List Int))⟩)] 2) (γ' 2) b := hb
    have hl := a4.lv 2 b id hb2
    exact ⟨hl.1.1, fun c => hl.2.1 (a5 b c), hl.2.2, hl.1.2⟩
end
end Go.Den

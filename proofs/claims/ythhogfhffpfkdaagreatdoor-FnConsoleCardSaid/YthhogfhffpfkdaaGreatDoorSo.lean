/-
  The library's sort of rows by their numbers: what the evaluator is told of it is what the machine does.
-/
import Derived.Test.YthhogfhffpfkdaaGreatDoorDnC
import Derived.Test.YthhogfhffpfkdaaGreatDoorLb
import Derived.Shelf.SlSortCmp.Whole1
namespace Go.Den
open Go
set_option linter.unusedVariables false
set_option linter.unusedSimpArgs false
theorem cmpL_self : ∀ a : List Int, cmpL a a = 0
  | [] => rfl
  | a :: l => by simp [cmpL, cmpL_self l]
theorem cmpL_neg : ∀ a b : List Int, cmpL b a = - cmpL a b
  | [], [] => rfl
  | [], _ :: _ => rfl
  | _ :: _, [] => rfl
  | a :: l, b :: m => by
    simp only [cmpL]
    by_cases h1 : a < b
    · have : ¬ b < a := by omega
      simp [h1, this]
    · by_cases h2 : b < a
      · simp [h1, h2]
      · simp [h1, h2, cmpL_neg l m]
theorem cmpL_eq : ∀ {a b : List Int}, cmpL a b = 0 → a = b
  | [], [], _ => rfl
  | [], _ :: _, h => by simp [cmpL] at h
  | _ :: _, [], h => by simp [cmpL] at h
  | a :: l, b :: m, h => by
    simp only [cmpL] at h
    by_cases h1 : a < b
    · simp [h1] at h
    · by_cases h2 : b < a
      · simp [h1, h2] at h
      · simp only [h1, h2, if_false] at h
        rw [cmpL_eq h, show a = b by omega]
theorem cmpL_le_trans : ∀ {a b c : List Int}, cmpL a b ≤ 0 → cmpL b c ≤ 0 → cmpL a c ≤ 0
  | [], [], [], _, _ => by simp [cmpL]
  | [], [], _ :: _, _, _ => by simp [cmpL]
  | [], _ :: _, [], _, h => by simp [cmpL] at h
  | [], _ :: _, _ :: _, _, _ => by simp [cmpL]
  | _ :: _, [], _, h, _ => by simp [cmpL] at h
  | _ :: _, _ :: _, [], _, h => by simp [cmpL] at h
  | a :: l, b :: m, c :: n, h1, h2 => by
    simp only [cmpL] at h1 h2 ⊢
    by_cases q1 : a < b
    · by_cases q2 : b < c
      · have : a < c := by omega
        simp [this]
      · by_cases q3 : c < b
        · simp [q2, q3] at h2
        · have : a < c := by omega
          simp [this]
    · by_cases q4 : b < a
      · simp [q1, q4] at h1
      · by_cases q2 : b < c
        · have : a < c := by omega
          simp [this]
        · by_cases q3 : c < b
          · simp [q2, q3] at h2
          · have e1 : ¬ a < c := by omega
            have e2 : ¬ c < a := by omega
            simp only [q1, q4, if_false] at h1
            simp only [q2, q3, if_false] at h2
            simp only [e1, e2, if_false]
            exact cmpL_le_trans h1 h2
theorem cmpL_tot (a b : List Int) : cmpL a b ≤ 0 ∨ cmpL b a ≤ 0 := by
  rw [cmpL_neg a b]; omega
theorem rowLe_trans (a b c : List Int) (h1 : rowLe a b = true) (h2 : rowLe b c = true) : rowLe a c = true := by
  simp only [rowLe, decide_eq_true_eq] at *
  exact cmpL_le_trans h1 h2
theorem rowLe_total (a b : List Int) : (rowLe a b || rowLe b a) = true := by
  simp only [rowLe, Bool.or_eq_true, decide_eq_true_eq]
  exact cmpL_tot a b
theorem rowLe_anti {a b : List Int} (h1 : rowLe a b = true) (h2 : rowLe b a = true) : a = b := by
  simp only [rowLe, decide_eq_true_eq] at *
  rw [cmpL_neg a b] at h2
  exact cmpL_eq (by omega)
theorem sorted_uniq : ∀ {l m : List (List Int)}, l.Perm m → l.Pairwise (fun a b => rowLe a b = true) → m.Pairwise (fun a b => rowLe a b = true) → l = m
  | [], m, hp, _, _ => by rw [List.nil_perm] at hp; exact hp.symm
  | a :: l, [], hp, _, _ => absurd hp.length_eq (by simp)
  | a :: l, b :: m, hp, h1, h2 => by
    rw [List.pairwise_cons] at h1 h2
    have e : a = b := by
      have ha : a ∈ b :: m := hp.subset List.mem_cons_self
      have hb : b ∈ a :: l := hp.symm.subset List.mem_cons_self
      rcases List.mem_cons.1 ha with ha | ha
      · exact ha
      · rcases List.mem_cons.1 hb with hb | hb
        · exact hb.symm
        · exact rowLe_anti (h1.1 b hb) (h2.1 a ha)
    subst e
    rw [sorted_uniq ((List.perm_cons _).1 hp) h1.2 h2.2]
abbrev RowT : Ty := .sl (.int .i64)
abbrev RowsT : Ty := .sl RowT
theorem heap_put {α : Type} [Inhabited α] (enc : α → Value) (w : World) (blk off nn : Nat) (d : Array α) (os : Array Obj) {b : Nat} (hb : b < w.heap.size) (hne : b ≠ blk) : (Go.Proofs.sortWorld enc w blk off nn d os).heap[b]? = w.heap[b]? := by
  show ((w.heap.modify blk (Go.Sort.onCells (Go.Sort.putCells enc off d))) ++ os)[b]? = _
  rw [Array.getElem?_append_left (by simpa using hb), Array.getElem?_modify, if_neg (fun c => hne c.symm)]
theorem heap_put_at {α : Type} [Inhabited α] (enc : α → Value) (w : World) (blk off nn : Nat) (d : Array α) (os : Array Obj) {C : Array Value} {te : TypeId} {fz : Nat × Nat} (hC : w.heap[blk]? = some (.cells C te fz)) :
    (Go.Proofs.sortWorld enc w blk off nn d os).heap[blk]? = some (.cells (Go.Sort.putCells enc off d C) te fz) := by
  have hb : blk < w.heap.size := (Array.getElem?_eq_some_iff.1 hC).1
  show ((w.heap.modify blk (Go.Sort.onCells (Go.Sort.putCells enc off d))) ++ os)[blk]? = _
  rw [Array.getElem?_append_left (by simpa using hb), Array.getElem?_modify, if_pos rfl, hC]
  rfl
theorem size_put {α : Type} [Inhabited α] (enc : α → Value) (w : World) (blk off nn : Nat) (d : Array α) (os : Array Obj) : (Go.Proofs.sortWorld enc w blk off nn d os).heap.size = w.heap.size + os.size := by
  show ((w.heap.modify blk (Go.Sort.onCells (Go.Sort.putCells enc off d))) ++ os).size = _
  simp
/-- a world that goes on and turns nothing that was there -/
theorem grown {w w' : World} {I F : Nat → Prop} (h : Wx True I F w w') (hI : ∀ b, b < w.heap.size → I b) : ∃ q os, w' = Go.Sort.grow (w.drewN q) os := by
  refine ⟨w'.drawn - w.drawn, w'.heap.extract w.heap.size w'.heap.size, ?_⟩
  obtain ⟨hp, tp, dr, os, out⟩ := w
  obtain ⟨hp', tp', dr', os', out'⟩ := w'
  obtain ⟨h1, h2, h3, h4, h5, h6⟩ := h
  simp only at h1 h2 h3 h4 h5 h6 hI
  subst h1 h2 h3
  have hh : hp' = hp ++ hp'.extract hp.size hp'.size := by
    apply Array.ext_getElem?
    intro k
    rcases Nat.lt_or_ge k hp.size with c | c
    · rw [Array.getElem?_append_left c, h6 k c (.inl (hI k c))]
    · rw [Array.getElem?_append_right c, Array.getElem?_extract]
      by_cases c2 : k - hp.size < hp'.size - hp.size
      · rw [if_pos (by omega)]; congr 1; omega
      · rw [if_neg (by omega), Array.getElem?_eq_none (by omega)]
  show World.mk hp' tp' dr' os' out' = World.mk (hp ++ hp'.extract hp.size hp'.size) tp' (dr + (dr' - dr)) os' out'
  rw [← hh, Nat.add_sub_cancel' (h5 trivial)]
theorem kid_block {w : World} {I F : Nat → Prop} {m : Md} {xs : List (List Int)} {g : G} {blk : Nat} (hfit : RowT.fits m = true) (M : Mem w I F RowsT (.own m) xs g) (S : Sep RowsT (.own m) g) (hO : ∀ b, Own RowsT (.own m) g b → F b ∧ ¬ I b ∧ b < w.heap.size) (imm : ∀ b, I b → b < w.heap.size) (hblk : ∃ a, g.addr = some a ∧ a.block = blk)
    {i : Nat} (hi : i < g.len) {d : Addr} (hd : (g.kid i).addr = some d) (hl : 0 < (g.kid i).len) : d.block ≠ blk ∧ d.block < w.heap.size := by
  obtain ⟨a, ha, hab⟩ := hblk
  have hbo : Own RowsT (.own m) g blk := .inl ⟨a, ha, hab⟩
  have hk := (M.2.2 i hi).2
  cases m with
  | own me =>
    refine ⟨fun c => S.2.2 a i ha hi (.inl ⟨d, hd, c.trans hab.symm⟩), (hO d.block (.inr ⟨i, hi, .inl ⟨d, hd, rfl⟩⟩)).2.2⟩
  | sh o =>
    have := (hk.2.1.2.1 d hd hl).1
    exact ⟨fun c => (hO blk hbo).2.1 (c ▸ this), imm _ this⟩
  | pr _ _ => cases hfit
  | gone => cases hfit
theorem kid_le {w : World} {I F : Nat → Prop} {m : Md} {x : List Int} {g : G} (hfit : RowT.fits m = true) (M : Mem w I F RowT m x g) : g.len = x.length ∧ g.len ≤ g.cap ∧ ∀ j, j < g.len → At w g.addr j [.int .i64 (x.getD j 0)] := by
  cases m with
  | own me => exact ⟨M.1, M.2.1.le, fun j hj => by have := (M.2.2 j hj).1; rwa [show j * Ty.size (.int .i64) = j from Nat.mul_one j] at this⟩
  | sh o => exact ⟨M.1, M.2.1.1, fun j hj => by have := (M.2.2 j hj).1; rwa [show j * Ty.size (.int .i64) = j from Nat.mul_one j] at this⟩
  | pr _ _ => cases hfit
  | gone => cases hfit
theorem getElem!_fin {n : Nat} [Inhabited (Fin n)] (d : Array (Fin n)) {j : Nat} (h : j < d.size) : d[j]! = d[j] := getElem!_pos d j h
/-- the sort, called -/
theorem sort_calls {P : Program} {ρ : Go.Shelf.Ren} (L : Go.Proofs.SlLaysF.n6 P ρ) {gid : Nat} (eg : ∀ args w, (callFunc gid args).run P w = .ok (.enter gid args) w)
    (hcmp : ∀ a b : List Int, a.length ≤ 1048576 → b.length ≤ 1048576 → ∀ (w : World) (I F : Nat → Prop) (A B : Item), A.sv = .val .reg RowT (.sh true) a → B.sv = .val .reg RowT (.sh true) b → Items w I F [A, B] →
      Calls P gid #[A.v, B.v] w fun e w' => match e with | .returned v => Wx True I F w w' ∧ v = .int .i64 (cmpL a b) | _ => False)
    {w : World} {I F : Nat → Prop} {m : Md} (hfit : RowT.fits m = true) {xs ys : List (List Int)} (hs : Lb.sortRows xs = some ys) {g : G}
    (M : Mem w I F RowsT (.own m) xs g) (S : Sep RowsT (.own m) g) (hO : ∀ b, Own RowsT (.own m) g b → F b ∧ ¬ I b ∧ b < w.heap.size) (imm : ∀ b, I b → b < w.heap.size) (hnew : ∀ b, w.heap.size ≤ b → F b) :
    Calls P (ρ.f 6) #[.slice g.addr g.len g.cap, .func (.func gid) #[] #[]] w fun e w' => e = .returned (.tuple #[]) ∧ Wk I F w w' ∧
      ∃ g' : G, g'.addr = g.addr ∧ g'.len = g.len ∧ g'.cap = g.cap ∧ Mem w' I F RowsT (.own m) ys g' ∧ Sep RowsT (.own m) g' ∧ ∀ b, Own RowsT (.own m) g' b ↔ Own RowsT (.own m) g b := by
  unfold Lb.sortRows at hs
  have hc : 0 < xs.length ∧ xs.length ≤ 1099511627776 ∧ (∀ r ∈ xs, r.length ≤ 1048576) := by
    by_cases h : 0 < xs.length ∧ xs.length ≤ 1099511627776 ∧ (∀ r ∈ xs, r.length ≤ 1048576)
    · exact h
    · rw [if_neg h] at hs; cases hs
  rw [if_pos hc] at hs
  obtain ⟨hn, hlen, hrows⟩ := hc
  obtain rfl := Option.some.inj hs
  have hgl : g.len = xs.length := M.1
  rcases M.2.1 with ⟨_, h0, _⟩ | ⟨blk, o, C, te, ha, hC, h1, h2, h3⟩
  · omega
  have hblk : blk < w.heap.size := (Array.getElem?_eq_some_iff.1 hC).1
  have hblk' : ∃ a, g.addr = some a ∧ a.block = blk := ⟨_, ha, rfl⟩
  let n := xs.length
  haveI : Inhabited (Fin n) := ⟨⟨0, hn⟩⟩
  have hgn : g.len = n := hgl
  let enc : Fin n → Value := fun i => .slice (g.kid i).addr (g.kid i).len (g.kid i).cap
  let cf : Fin n → Fin n → Int := fun i j => cmpL (xs.getD i []) (xs.getD j [])
  let d0 : Array (Fin n) := Array.ofFn id
  have hd0 : d0.size = n := by simp [d0]
  have hd0v : ∀ j (h : j < n), d0[j]! = ⟨j, h⟩ := fun j h => by
    rw [getElem!_fin d0 (by rw [hd0]; exact h)]
    simp [d0]
  have hcells : ∀ i, i < n → w.cell? ⟨blk, o + i, none⟩ = some (.slice (g.kid i).addr (g.kid i).len (g.kid i).cap) := fun i hi => by
    have := (M.2.2 i (by rw [hgl]; exact hi)).1
    obtain ⟨dd, q1, q2⟩ := this 0 _ rfl
    rw [ha] at q1; cases q1
    rw [Addr.add_mk] at q2
    rw [← q2]
    show w.cell? _ = w.cell? ⟨blk, o + (i * 1 + 0), none⟩
    rw [Nat.mul_one, Nat.add_zero]
  have hH : Go.Sort.Holds enc w blk o d0 := fun j hj => by
    rw [hd0] at hj
    refine ⟨by rw [hd0v j hj]; exact hcells j hj, ?_⟩
    show World.frozen? w _ = false
    unfold World.frozen?
    rw [hC]
    simp
  have hgm : ∀ i : Fin n, xs.getD i [] ∈ xs := fun i => by
    rw [List.getD_eq_getElem?_getD, List.getElem?_eq_getElem i.2]; exact List.getElem_mem _
  have hO' : Go.Sort.SWO (Go.Proofs.ltOf cf) := ⟨fun x => by simp [Go.Proofs.ltOf, cf, cmpL_self], fun x y z q1 q2 => by
      simp only [Go.Proofs.ltOf, cf, decide_eq_true_eq] at *
      have := cmpL_le_trans (Int.le_of_lt q1) (Int.le_of_lt q2)
      rcases Int.lt_or_eq_of_le this with k | k
      · exact k
      · exfalso
        have e := cmpL_eq k
        rw [e] at q1
        have e2 := cmpL_neg (xs.getD y []) (xs.getD z [])
        omega, fun x y z q1 q2 => by
      simp only [Go.Proofs.ltOf, cf, decide_eq_false_iff_not, Int.not_lt] at *
      have e1 := cmpL_neg (xs.getD x []) (xs.getD y [])
      have e2 := cmpL_neg (xs.getD y []) (xs.getD z [])
      have e3 := cmpL_neg (xs.getD x []) (xs.getD z [])
      have := cmpL_le_trans (a := xs.getD z []) (b := xs.getD y []) (c := xs.getD x []) (by omega) (by omega)
      omega⟩
  have hlays : Go.Proofs.CmpLays1 P gid #[] enc cf blk o d0.size w := fun mm os dk hdk x y => by
    let W := Go.Proofs.sortWorld enc w blk o mm dk os
    have hWs : W.heap.size = w.heap.size + os.size := size_put _ _ _ _ _ _ _
    let I' : Nat → Prop := fun b => b < W.heap.size
    let F' : Nat → Prop := fun b => W.heap.size ≤ b
    have itm : ∀ i : Fin n, SlotOk W I' F' ⟨0, 0, 0, .val .reg RowT (.sh true) (xs.getD i [])⟩ (enc i) ⟨none, g.kid i⟩ := fun i => by
      have hi : (i : Nat) < g.len := by rw [hgl]; exact i.2
      obtain ⟨k1, k2, k3⟩ := kid_le hfit (M.2.2 i hi).2
      refine ⟨rfl, ⟨k1, ⟨k2, fun dd hdd hl => ⟨?_, fun c => by cases c⟩, fun c => by cases c⟩, fun j hj => ⟨?_, trivial⟩⟩, trivial, rfl⟩
      · have := (kid_block hfit M S hO imm hblk' hi hdd hl).2
        show dd.block < W.heap.size
        omega
      · show At W (g.kid i).addr (j * 1) [.int .i64 (List.getD (xs.getD i []) j 0)]
        rw [Nat.mul_one]
        refine (k3 j hj).frame fun dd hdd => ?_
        obtain ⟨b1, b2⟩ := kid_block hfit M S hO imm hblk' hi hdd (Nat.lt_of_le_of_lt (Nat.zero_le j) hj)
        exact heap_put enc w blk o mm dk os b2 b1
    have own : ∀ (i : Fin n) b, ¬ OwnS ⟨0, 0, 0, .val .reg RowT (.sh true) (xs.getD i [])⟩ ⟨none, g.kid i⟩ b := fun i b k => k
    let ix : Item := ⟨.val .reg RowT (.sh true) (xs.getD x []), enc x, ⟨none, g.kid x⟩⟩
    let iy : Item := ⟨.val .reg RowT (.sh true) (xs.getD y []), enc y, ⟨none, g.kid y⟩⟩
    have two : ∀ i ∈ [ix, iy], i = ix ∨ i = iy := fun i hi => by
      rcases List.mem_cons.1 hi with h | h
      · exact .inl h
      · exact .inr (List.mem_singleton.1 h)
    have hIt : Items W I' F' [ix, iy] := by
      refine ⟨fun i hi => ?_, fun i hi k r v s d p t c => ?_, ?_, fun i hi b hb => ?_, fun b hb => hb, fun b hb => hb⟩
      · rcases two i hi with rfl | rfl
        · exact itm x
        · exact itm y
      · rcases two i hi with rfl | rfl <;> cases c
      · rw [List.pairwise_cons]
        exact ⟨fun j hj b k => (own x b k).elim, List.pairwise_singleton _ _⟩
      · rcases two i hi with rfl | rfl
        · exact (own x b hb).elim
        · exact (own y b hb).elim
    have key := hcmp (xs.getD x []) (xs.getD y []) (hrows _ (hgm x)) (hrows _ (hgm y)) W I' F' ix iy rfl rfl hIt
    refine Calls.mono (show Calls P gid (#[enc x, enc y] ++ #[]) W _ from key) fun e w' he => ?_
    cases e with
    | returned v =>
      obtain ⟨q1, q2⟩ := he
      exact ⟨by rw [q2], grown q1 fun b hb => hb⟩
    | panicked _ => exact he.elim
    | outgrown => exact he.elim
  have main := Go.Proofs.Any.slices_SortFunc L enc (fun i => rfl) cf hO' gid #[] blk o g.cap d0 w eg hlays hH hblk (by rw [hd0]; show xs.length < _; omega)
  have hsl : (Value.slice g.addr g.len g.cap) = .slice (some ⟨blk, o, none⟩) d0.size g.cap := by rw [ha, hd0, hgl]
  rw [hsl]
  refine Calls.mono main fun e w' he => ?_
  obtain ⟨he, d', nn, os, hP, hS, hw⟩ := he
  refine ⟨he, ?_⟩
  subst hw
  have hds : d'.size = n := hP.1.trans hd0
  let W := Go.Proofs.sortWorld enc w blk o nn d' os
  have hbo : F blk ∧ ¬ I blk ∧ blk < w.heap.size := hO blk (.inl ⟨_, ha, rfl⟩)
  have hwk : Wk I F w W := ⟨rfl, rfl, rfl, by rw [size_put]; omega, Nat.le_add_right _ _, fun b hb hk => heap_put enc w blk o nn d' os hb fun c => by
    subst c
    exact hk.elim hbo.2.1 fun k => k hbo.1⟩
  -- the order
  have hperm : d'.toList.Perm d0.toList := by
    have := hP.2.2
    have e1 : ∀ (a : Array (Fin n)), a.size = n → a.extract 0 n = a := fun a ha => by
      have h : a.extract 0 a.size = a := by simp
      rwa [ha] at h
    rwa [hd0, e1 d' hds, e1 d0 hd0] at this
  have hd0l : d0.toList = List.finRange n := by simp only [d0, List.finRange, Array.toList_ofFn]; rfl
  let dl := d'.toList
  have hdl : dl.length = n := by simp [dl, hds]
  have hget : ∀ j (h : j < n), d'[j]! = dl[j]'(by rw [hdl]; exact h) := fun j h => by
    rw [getElem!_fin d' (by rw [hds]; exact h)]; simp [dl]
  let zs : List (List Int) := dl.map fun (i : Fin n) => xs.getD i.1 []
  have hzl : zs.length = n := by simp [zs, hdl]
  have hzp : zs.Perm xs := by
    have h1 : zs.Perm ((List.finRange n).map fun (i : Fin n) => xs.getD i.1 []) := (hd0l ▸ hperm).map _
    have h2 : ((List.finRange n).map fun (i : Fin n) => xs.getD i.1 []) = xs := by
      refine List.ext_getElem (by simp [n]) fun j q1 q2 => ?_
      simp [List.getD_eq_getElem?_getD, List.getElem?_eq_getElem q2]
    rwa [h2] at h1
  have hzs : zs.Pairwise (fun a b => rowLe a b = true) := by
    rw [List.pairwise_iff_getElem]
    intro i j hi hj hij
    rw [hzl] at hi hj
    have := hS i j (Nat.zero_le _) hij (by rw [hd0]; exact hj)
    rw [hget i hi, hget j hj] at this
    simp only [Go.Proofs.ltOf, cf, decide_eq_false_iff_not, Int.not_lt] at this
    simp only [zs, List.getElem_map, rowLe, decide_eq_true_eq]
    rw [cmpL_neg] at this
    omega
  have hzx : zs = xs.mergeSort rowLe := sorted_uniq (hzp.trans (List.mergeSort_perm xs rowLe).symm) hzs (List.pairwise_mergeSort rowLe_trans rowLe_total xs)
  rw [← hzx]
  let kid' : Nat → G := fun j => if h : j < n then g.kid (dl[j]'(by rw [hdl]; exact h)) else .lf
  have hkid : ∀ j (h : j < n), kid' j = g.kid (dl[j]'(by rw [hdl]; exact h)) := fun j h => dif_pos h
  have hzg : ∀ j (h : j < n), zs.getD j [] = xs.getD (dl[j]'(by rw [hdl]; exact h)) [] := fun j h => by
    rw [List.getD_eq_getElem?_getD, List.getElem?_eq_getElem (by rw [hzl]; exact h)]
    simp [zs]
  have hnd : dl.Nodup := by
    have : (List.finRange n).Nodup := List.nodup_finRange n
    exact (hd0l ▸ hperm).nodup_iff.2 this
  have hinj : ∀ i j (hi : i < n) (hj : j < n), i ≠ j → (dl[i]'(by rw [hdl]; exact hi) : Fin n).1 ≠ (dl[j]'(by rw [hdl]; exact hj) : Fin n).1 := fun i j hi hj hij c => hij ((List.getElem_inj hnd).1 (Fin.ext c))
  have hsur : ∀ i, i < n → ∃ j, ∃ h : j < n, (dl[j]'(by rw [hdl]; exact h) : Fin n).1 = i := fun i hi => by
    have : (⟨i, hi⟩ : Fin n) ∈ dl := (hd0l ▸ hperm).symm.subset (List.mem_finRange _)
    obtain ⟨j, hj, e⟩ := List.getElem_of_mem this
    exact ⟨j, by rw [← hdl]; exact hj, by rw [e]⟩
  have hsz : (Go.Sort.putCells enc o d' C).size = C.size := by simp [Go.Sort.putCells]
  refine ⟨hwk, .hd g.addr g.len g.cap kid', rfl, rfl, rfl, ⟨hgl.trans hzl.symm, .inr ⟨blk, o, _, te, ha, heap_put_at enc w blk o nn d' os hC, by rw [hsz]; exact h1, h2, h3⟩, fun j hj => ?_⟩, ⟨fun j hj => ?_, fun i j b hi hj hij q1 q2 => ?_, fun a j q1 hj q2 => ?_⟩, fun b => ?_⟩
  · have hj' : j < n := by rw [← hgn]; exact hj
    have hk : (dl[j]'(by rw [hdl]; exact hj') : Fin n).1 < g.len := by rw [hgl]; exact Fin.isLt _
    refine ⟨?_, ?_⟩
    · show At W g.addr (j * 1) [.slice (kid' j).addr (kid' j).len (kid' j).cap]
      rw [Nat.mul_one, ha, hkid j hj', At.blk (heap_put_at enc w blk o nn d' os hC)]
      intro q v hq
      cases q with
      | succ q => simp at hq
      | zero =>
        simp only [List.getElem?_cons_zero, Option.some.injEq] at hq
        subst hq
        have hjC : o + j < C.size := by
          have : g.cap * Ty.size RowT = g.cap := Nat.mul_one _
          omega
        simp only [Nat.add_zero, Go.Sort.putCells, Array.getElem?_mapIdx, Array.getElem?_eq_getElem hjC, Option.map_some]
        rw [if_pos ⟨by omega, by omega⟩, show o + j - o = j by omega, hget j hj']
    · have Mk := (M.2.2 _ hk).2
      show Mem W I F RowT m (List.getD zs j []) (kid' j)
      rw [hkid j hj', hzg j hj']
      refine Mk.frame fun b hb => ?_
      rcases hb with hb | hb
      · have hob : Own RowsT (.own m) g b := .inr ⟨_, hk, hb⟩
        refine heap_put enc w blk o nn d' os (hO b hob).2.2 fun c => ?_
        exact S.2.2 _ _ ha hk (c ▸ hb)
      · exact heap_put enc w blk o nn d' os (imm b hb) fun c => hbo.2.1 (c ▸ hb)
  · have hj' : j < n := by rw [← hgn]; exact hj
    show Sep RowT m (kid' j)
    rw [hkid j hj']
    exact S.1 _ (by rw [hgl]; exact Fin.isLt _)
  · have hi' : i < n := by rw [← hgn]; exact hi
    have hj' : j < n := by rw [← hgn]; exact hj
    have q1' : Own RowT m (kid' i) b := q1
    have q2' : Own RowT m (kid' j) b := q2
    rw [hkid i hi'] at q1'
    rw [hkid j hj'] at q2'
    exact S.2.1 _ _ b (by rw [hgl]; exact Fin.isLt _) (by rw [hgl]; exact Fin.isLt _) (hinj i j hi' hj' hij) q1' q2'
  · have hj' : j < n := by rw [← hgn]; exact hj
    have q2' : Own RowT m (kid' j) a.block := q2
    rw [hkid j hj'] at q2'
    exact S.2.2 a _ q1 (by rw [hgl]; exact Fin.isLt _) q2'
  · constructor
    · rintro (q | ⟨j, hj, q⟩)
      · exact .inl q
      · have hj' : j < n := by rw [← hgn]; exact hj
        have q' : Own RowT m (kid' j) b := q
        rw [hkid j hj'] at q'
        exact .inr ⟨_, by rw [hgl]; exact Fin.isLt _, q'⟩
    · rintro (q | ⟨i, hi, q⟩)
      · exact .inl q
      · obtain ⟨j, hj, e⟩ := hsur i (by rw [← hgn]; exact hi)
        refine .inr ⟨j, by show j < g.len; rw [hgl]; exact hj, ?_⟩
        show Own RowT m (kid' j) b
        rw [hkid j hj, e]; exact q
theorem young_mem {w : World} {I F : Nat → Prop} {m : Md} {x : List Int} {g : G} (hold : RowT.old m = false) (M : Mem w I F RowT m x g) : Mem w (fun b => I b ∧ F b) F RowT m x g := by
  cases m with
  | own me => exact ⟨M.1, M.2.1, fun j hj => ⟨(M.2.2 j hj).1, trivial⟩⟩
  | sh o =>
    have ho : o = false := hold
    exact ⟨M.1, ⟨M.2.1.1, fun d hd hl => ⟨⟨(M.2.1.2.1 d hd hl).1, (M.2.1.2.1 d hd hl).2 ho⟩, (M.2.1.2.1 d hd hl).2⟩, fun k => ⟨(M.2.1.2.2 k).1, fun d hd => ⟨(M.2.1.2.2 k).2 d hd, ((M.2.1.2.2 k).2 d hd).2⟩⟩⟩, fun j hj => ⟨(M.2.2 j hj).1, trivial⟩⟩
  | pr _ _ => exact ⟨M.1, trivial⟩
  | gone => exact ⟨M.1, trivial⟩
theorem sort_holds {P : Program} {ρ : Go.Shelf.Ren} (L : Go.Proofs.SlLaysF.n6 P ρ) {gid : Nat} (eg : ∀ args w, (callFunc gid args).run P w = .ok (.enter gid args) w)
    (hcmp : ∀ a b : List Int, a.length ≤ 1048576 → b.length ≤ 1048576 → ∀ (w : World) (I F : Nat → Prop) (A B : Item), A.sv = .val .reg RowT (.sh true) a → B.sv = .val .reg RowT (.sh true) b → Items w I F [A, B] →
      Calls P gid #[A.v, B.v] w fun e w' => match e with | .returned v => Wx True I F w w' ∧ v = .int .i64 (cmpL a b) | _ => False)
    {Γ : Ctx} {τ : Told} {n : Nat} {σ : Sig} {m : Md} (hσ : Γ.sigs[n]? = some σ) (hf : σ.fid = ρ.f 6) (hp : σ.params = [.io RowsT (.own m), .fn gid []]) (hres : σ.results = []) (hfit : RowT.fits m = true) (hold : RowT.old m = false)
    {x y : List (List Int)} {a : (prodTy (Γ.insL n)).den} {r : (prodTy (Γ.outsL n)).den} (ha : unProd (Γ.insL n) a = [⟨RowsT, x⟩]) (hr : unProd (Γ.outsL n) r = [⟨RowsT, y⟩]) (h : Lb.sortRows x = some y) (hcl : σ.clos = [] := by rfl) : Holds P Γ τ n a r := by
  intro σ' hσ' w I F M hM hI hK
  rw [hσ] at hσ'
  cases hσ'
  rw [hp, ha] at hM
  simp only [insSV, cast_self, Option.bind_some, Option.some.injEq] at hM
  match M, hM with
  | [], hM => cases hM
  | [_], hM => simp at hM
  | _ :: _ :: _ :: _, hM => simp at hM
  | [⟨isv, iv, iγ⟩, ⟨jsv, jv, jγ⟩], hM =>
    simp only [List.map_cons, List.map_nil, List.cons.injEq, and_true] at hM
    obtain ⟨h1, h2⟩ := hM
    subst h1
    subst h2
    have ok1 := hI.ok ⟨_, iv, iγ⟩ List.mem_cons_self
    have ok2 := hI.ok ⟨_, jv, jγ⟩ (List.mem_cons_of_mem _ List.mem_cons_self)
    obtain ⟨v1, v2, v3, v4⟩ := ok1
    obtain ⟨_, w1⟩ := ok2
    have v1' : iv = .slice iγ.g.addr iγ.g.len iγ.g.cap := v1
    have w1' : jv = .func (.func gid) #[] #[] := w1
    have lv : ∀ b, Own RowsT (.own m) iγ.g b → F b ∧ ¬ I b ∧ b < w.heap.size := fun b hb => hI.lv ⟨_, iv, iγ⟩ List.mem_cons_self b hb
    have key := sort_calls L eg hcmp hfit h v2 v3 lv hI.imm hI.new
    rw [hf, hcl]
    simp only [packV]
    subst v1'
    subst w1'
    refine Calls.mono key fun e w' he => ?_
    obtain ⟨he, hw, g', q1, q2, q3, q4, q5, q6⟩ := he
    subst he
    refine ⟨hw.x, fun b => I b ∧ F b, [], [⟨.val .reg RowsT (.own m) y, .slice iγ.g.addr iγ.g.len iγ.g.cap, ⟨none, g'⟩⟩], ?_, ?_, ⟨fun i hi => ?_, fun i hi k r v s d p t c => ?_, List.pairwise_singleton _ _, fun i hi b hb => ?_, fun b hb => Nat.lt_of_lt_of_le (hI.imm b hb.1) hw.size, fun b hb => hI.new b (Nat.le_trans hw.size hb)⟩, fun b hb => .inl hb.2, rfl, ?_, fun i hi b hb => ?_⟩
    · rw [hres]; rfl
    · rw [hp, hr, hres]
      simp [backSV, cast_self]
    · rw [List.nil_append, List.mem_singleton] at hi
      subst hi
      refine ⟨?_, ⟨q4.1, q4.2.1, fun j hj => ⟨(q4.2.2 j hj).1, young_mem hold (q4.2.2 j hj).2⟩⟩, q5, rfl⟩
      show Value.slice iγ.g.addr iγ.g.len iγ.g.cap = .slice g'.addr g'.len g'.cap
      rw [q1, q2, q3]
    · rw [List.nil_append, List.mem_singleton] at hi
      subst hi
      cases c
    · rw [List.nil_append, List.mem_singleton] at hi
      subst hi
      have hb' : Own RowsT (.own m) g' b := hb
      obtain ⟨u1, u2, u3⟩ := lv b ((q6 b).1 hb')
      exact ⟨u1, fun k => u2 k.1, Nat.lt_of_lt_of_le u3 hw.size⟩
    · rw [hp]; rfl
    · rw [List.nil_append, List.mem_singleton] at hi
      subst hi
      have hb' : Own RowsT (.own m) g' b := hb
      exact (lv b ((q6 b).1 hb')).2.1
end Go.Den

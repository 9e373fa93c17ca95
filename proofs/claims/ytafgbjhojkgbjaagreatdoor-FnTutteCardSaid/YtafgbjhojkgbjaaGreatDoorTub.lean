/-
  addTerms of the program: what the walk shows, joined to what the evaluator is told.
-/
import Derived.Test.YtafgbjhojkgbjaaGreatDoorDnC
import Derived.Test.YtafgbjhojkgbjaaGreatDoorLaidW
import Derived.Test.YtafgbjhojkgbjaaGreatDoorTua
namespace Go.Proofs.YtafgbjhojkgbjaaGreatDoor.D
open Go Go.Den Go.RowKit Go.Proofs.YtafgbjhojkgbjaaGreatDoor
set_option linter.unusedVariables false
set_option linter.unusedSimpArgs false
set_option maxRecDepth 100000
theorem cells_nums : ∀ {t : Ty} {x : t.den} {g : G}, Ty.nums t = true → cells t x g = (Lb.toI t x).map (Value.int .i64)
  | .int k, x, g, h => by
    obtain rfl : k = .i64 := of_decide_eq_true h
    rfl
  | .one a, x, g, h => cells_nums (t := a) h
  | .cons a b, x, g, h => by
    have h' : (Ty.nums a && Ty.nums b) = true := h
    simp only [Bool.and_eq_true] at h'
    show cells a x.1 g.fst ++ cells b x.2 g.snd = (Lb.toI a x.1 ++ Lb.toI b x.2).map _
    rw [cells_nums h'.1, cells_nums h'.2, List.map_append]
  | .bool, _, _, h => by cases h
  | .str, _, _, h => by cases h
  | .unit, _, _, h => by cases h
  | .sl _, _, _, h => by cases h
theorem nums_flat : ∀ {t : Ty}, Ty.nums t = true → t.flat = true
  | .int k, h => rfl
  | .one a, h => nums_flat (t := a) h
  | .cons a b, h => by
    have h' : (Ty.nums a && Ty.nums b) = true := h
    simp only [Bool.and_eq_true] at h'
    simp only [Ty.flat, nums_flat h'.1, nums_flat h'.2, Bool.and_self]
  | .bool, h => by cases h
  | .str, h => by cases h
  | .unit, h => by cases h
  | .sl _, h => by cases h
/-- the square when all ahead of row i, place j has been added -/
def adF (S T : List Int) (x y i j k : Nat) : Int := S.getD k 0 + if x ≤ k / 16 ∧ y ≤ k % 16 ∧ (k / 16 - x < i ∨ (k / 16 - x = i ∧ k % 16 - y < j)) then T.getD ((k / 16 - x) * 16 + (k % 16 - y)) 0 else 0
/-- what lies where while it is added -/
structure AdJ (w : World) (ob oo : Nat) (C T' : Array Value) (te : TypeId) (f : Nat → Int) (W : World) : Prop where
  os : W.os = w.os
  tape : W.tape = w.tape
  output : W.output = w.output
  drawn : w.drawn ≤ W.drawn
  size : W.heap.size = w.heap.size + 1
  tb : W.heap[w.heap.size]? = some (.cells T' 46 (0, 0))
  bx : ∃ C', W.heap[ob]? = some (.cells C' te (0, 0)) ∧ C'.size = C.size ∧ (∀ k, k < 256 → C'[oo + k]? = some (.int .i64 (f k))) ∧ ∀ q, (q < oo ∨ oo + 256 ≤ q) → C'[q]? = C[q]?
  old : ∀ b, b < w.heap.size → b ≠ ob → W.heap[b]? = w.heap[b]?
theorem cell_of {W : World} {b i : Nat} {C : Array Value} {t : TypeId} {fz : Nat × Nat} (h : W.heap[b]? = some (.cells C t fz)) : W.cell? ⟨b, i, none⟩ = C[i]? := by
  simp [World.cell?, h]
theorem frozen_of {W : World} {b i : Nat} {C : Array Value} {t : TypeId} (h : W.heap[b]? = some (.cells C t (0, 0))) : W.frozen? ⟨b, i, none⟩ = false := by
  simp [World.frozen?, h]
theorem getD_le {l : List Int} {B : Int} (h0 : 0 ≤ B) (h : ∀ x ∈ l, -B ≤ x ∧ x ≤ B) (k : Nat) : -B ≤ l.getD k 0 ∧ l.getD k 0 ≤ B := by
  rw [List.getD_eq_getElem?_getD]
  cases hk : l[k]? with
  | none => exact ⟨by show -B ≤ 0; omega, h0⟩
  | some v => exact h v (List.mem_of_getElem? hk)
theorem w64_small {n : Int} (h1 : -1000000000000000 ≤ n) (h2 : n ≤ 1000000000000000) : wrap64 n = n := by
  unfold wrap64
  omega
abbrev QT : Ty := A46
theorem numsQ : Ty.nums QT = true := by decide +kernel
theorem sizeQ : Ty.size QT = 256 := by decide +kernel
theorem adF_at {S T : List Int} {x y i j : Nat} (hi : i + x < 16) (hj : j + y < 16) : adF S T x y i j ((i + x) * 16 + (j + y)) = S.getD ((i + x) * 16 + (j + y)) 0 ∧ adF S T x y i (j + 1) ((i + x) * 16 + (j + y)) = S.getD ((i + x) * 16 + (j + y)) 0 + T.getD (i * 16 + j) 0 := by
  have h1 : ((i + x) * 16 + (j + y)) / 16 = i + x := by omega
  have h2 : ((i + x) * 16 + (j + y)) % 16 = j + y := by omega
  unfold adF
  rw [h1, h2, show i + x - x = i by omega, show j + y - y = j by omega]
  exact ⟨by rw [if_neg (by omega), Int.add_zero], by rw [if_pos (by omega)]⟩
theorem adF_other {S T : List Int} {x y i j k : Nat} (hi : i + x < 16) (hj : j + y < 16) (hk : k < 256) (hne : k ≠ (i + x) * 16 + (j + y)) : adF S T x y i (j + 1) k = adF S T x y i j k := by
  unfold adF
  congr 1
  by_cases c : x ≤ k / 16 ∧ y ≤ k % 16 ∧ (k / 16 - x < i ∨ (k / 16 - x = i ∧ k % 16 - y < j))
  · rw [if_pos c, if_pos (by omega)]
  · rw [if_neg c, if_neg]
    rintro ⟨c1, c2, c3⟩
    exact c ⟨c1, c2, by omega⟩
theorem adF_row {S T : List Int} {x y i j k : Nat} (hj : ¬ j + y < 16) : adF S T x y (i + 1) 0 k = adF S T x y i j k := by
  unfold adF
  congr 1
  by_cases c : x ≤ k / 16 ∧ y ≤ k % 16 ∧ (k / 16 - x < i ∨ (k / 16 - x = i ∧ k % 16 - y < j))
  · rw [if_pos c, if_pos (by omega)]
  · rw [if_neg c, if_neg]
    rintro ⟨c1, c2, c3⟩
    exact c ⟨c1, c2, by omega⟩
theorem adF_end {S T : List Int} {x y i k : Nat} (hi : ¬ i + x < 16) (hk : k < 256) : adF S T x y i 0 k = (Lb.addT S T x y).getD k 0 := by
  unfold Lb.addT adF
  rw [List.getD_eq_getElem?_getD (l := List.map _ _), List.getElem?_map, List.getElem?_range hk]
  simp only [Option.map_some, Option.getD_some]
  congr 1
  by_cases c : x ≤ k / 16 ∧ y ≤ k % 16
  · rw [if_pos c, if_pos (by omega)]
  · rw [if_neg c, if_neg (by omega)]
theorem adF_start {S T : List Int} {x y k : Nat} : adF S T x y 0 0 k = S.getD k 0 := by
  unfold adF
  rw [if_neg (by omega), Int.add_zero]
theorem addTm_holds {a : QT.den × (QT.den × (Int × Int))} {r : QT.den} (hr : Lb.addTm QT a.1 a.2.1 a.2.2.1 a.2.2.2 = some r) : Go.Den.Holds Tryz.prog Γ tau 23 a r := by
  obtain ⟨S, T, x, y⟩ := a
  unfold Lb.addTm at hr
  simp only at hr
  cases hc : (decide (0 ≤ x) && decide (x ≤ 1) && decide (0 ≤ y) && decide (y ≤ 1) && Lb.sqB (Lb.toI QT S) && Lb.sqB (Lb.toI QT T)) with
  | false => rw [hc] at hr; cases hr
  | true =>
  rw [hc, cond_true] at hr
  have hr := (Option.some.inj hr).symm
  simp only [Bool.and_eq_true, decide_eq_true_eq] at hc
  obtain ⟨⟨⟨⟨⟨x0, x1⟩, y0⟩, y1⟩, bS⟩, bT⟩ := hc
  unfold Lb.sqB at bS bT
  simp only [List.all_eq_true, Bool.and_eq_true, decide_eq_true_eq] at bS bT
  obtain ⟨xn, rfl⟩ : ∃ n : Nat, x = n := ⟨x.toNat, by omega⟩
  obtain ⟨yn, rfl⟩ : ∃ n : Nat, y = n := ⟨y.toNat, by omega⟩
  rw [Int.toNat_natCast, Int.toNat_natCast] at hr
  have lS : (Lb.toI QT S).length = 256 := by rw [Lb.toI_len numsQ, sizeQ]
  have lT : (Lb.toI QT T).length = 256 := by rw [Lb.toI_len numsQ, sizeQ]
  have hR : Lb.toI QT r = Lb.addT (Lb.toI QT S) (Lb.toI QT T) xn yn := by
    have lA : (Lb.addT (Lb.toI QT S) (Lb.toI QT T) xn yn).length = 256 := by unfold Lb.addT; rw [List.length_map, List.length_range]
    rw [hr, Lb.toI_of numsQ (by rw [sizeQ, lA]; omega), sizeQ, List.take_of_length_le (by omega)]
  clear hr
  generalize hSS : Lb.toI QT S = SS at *
  generalize hTT : Lb.toI QT T = TT at *
  intro σ hσ w I F L hL hI hK
  obtain rfl : s23 = σ := Option.some.inj hσ
  have hL' : some [SV.val .box QT (Ty.mine QT) S, SV.val .reg QT (.sh false) T, SV.val .reg (.int .i64) (.sh false) (xn : Int), SV.val .reg (.int .i64) (.sh false) (yn : Int)] = some (L.map Item.sv) := hL
  have hL' := Option.some.inj hL'
  match L, hL', hL, hI with
  | [], h, _, _ => cases h
  | [_], h, _, _ => simp at h
  | [_, _], h, _, _ => simp at h
  | [_, _, _], h, _, _ => simp at h
  | _ :: _ :: _ :: _ :: _ :: _, h, _, _ => simp at h
  | [⟨sv0, v0, γ0⟩, ⟨sv1, v1, γ1⟩, ⟨sv2, v2, γ2⟩, ⟨sv3, v3, γ3⟩], hL', hL, hI =>
    simp only [List.map_cons, List.map_nil, List.cons.injEq, and_true] at hL'
    obtain ⟨e0, e1, e2, e3⟩ := hL'
    subst e0; subst e1; subst e2; subst e3
    have m0 : (⟨SV.val .box QT (Ty.mine QT) S, v0, γ0⟩ : Den.Item) ∈ [(⟨SV.val .box QT (Ty.mine QT) S, v0, γ0⟩ : Den.Item), ⟨SV.val .reg QT (.sh false) T, v1, γ1⟩, ⟨SV.val .reg (.int .i64) (.sh false) (xn : Int), v2, γ2⟩, ⟨SV.val .reg (.int .i64) (.sh false) (yn : Int), v3, γ3⟩] := List.mem_cons_self
    obtain ⟨u1, u2, u3, ad, C, te, u4, u5, u6, u7, u8⟩ := hI.ok _ m0
    obtain ⟨q1, _⟩ := hI.ok ⟨SV.val .reg QT (.sh false) T, v1, γ1⟩ (by simp)
    obtain ⟨q2, _⟩ := hI.ok ⟨SV.val .reg (.int .i64) (.sh false) (xn : Int), v2, γ2⟩ (by simp)
    obtain ⟨q3, _⟩ := hI.ok ⟨SV.val .reg (.int .i64) (.sh false) (yn : Int), v3, γ3⟩ (by simp)
    obtain ⟨ob, oo, sp⟩ := ad
    obtain rfl : sp = none := u5
    have hv0 : v0 = .pointer (some ⟨ob, oo, none⟩) := by
      have : v0 = .pointer γ0.b := u1
      rw [this, u4]
    have hv1 : v1 = .agg (TT.map (Value.int .i64)).toArray := by
      have : v1 = .agg (cells QT T γ1.g).toArray := q1
      rw [this, cells_nums numsQ, hTT]
    have hv2 : v2 = .int .i64 xn := q2
    have hv3 : v3 = .int .i64 yn := q3
    subst hv0; subst hv1; subst hv2; subst hv3
    have hob := hI.lv _ m0 ob (OwnS.val.2 (.inl (.inl ⟨rfl, _, u4, rfl⟩)))
    have hat : ∀ k, k < 256 → C[oo + k]? = some (.int .i64 (SS.getD k 0)) := fun k hk => by
      have h1 : At w (some ⟨ob, oo, none⟩) 0 (SS.map (Value.int .i64)) := by
        have u7' := u7
        rw [u4, cells_nums numsQ, hSS] at u7'; exact u7'
      obtain ⟨d, hd, h2⟩ := h1 k _ (by rw [List.getElem?_map, List.getElem?_eq_getElem (by omega)]; rfl)
      cases hd
      rw [Addr.add_mk, Nat.zero_add, cell_of u6] at h2
      rw [h2, List.getD_eq_getElem?_getD, List.getElem?_eq_getElem (by omega)]
      rfl
    have bnd : ∀ k, -1000000000000 ≤ SS.getD k 0 ∧ SS.getD k 0 ≤ 1000000000000 := getD_le (by omega) bS
    have bnd2 : ∀ k, -1000000000000 ≤ TT.getD k 0 ∧ TT.getD k 0 ≤ 1000000000000 := getD_le (by omega) bT
    refine Calls.mono (add_walk ob oo xn yn (by omega) (by omega) (TT.map (Value.int .i64)).toArray (fun i j k => adF SS TT xn yn i j k) (fun i j => TT.getD (i * 16 + j) 0)
      (fun i j W => AdJ w ob oo C (TT.map (Value.int .i64)).toArray te (adF SS TT xn yn i j) W) w ?_ ?_ ?_ ?_ ?_ (fun W => AdJ w ob oo C (TT.map (Value.int .i64)).toArray te (fun k => (Lb.toI QT r).getD k 0) W) ?_) fun e w' he => ?_
    · rintro W rfl
      refine ⟨rfl, rfl, rfl, Nat.le_refl _, by simp, by show (w.heap.push _)[w.heap.size]? = _; simp, ⟨C, ?_, rfl, fun k hk => by rw [adF_start]; exact hat k hk, fun _ _ => rfl⟩, fun b hb _ => ?_⟩
      · show (w.heap.push _)[ob]? = _
        rw [Array.getElem?_push, if_neg (by omega)]; exact u6
      · show (w.heap.push _)[b]? = _
        rw [Array.getElem?_push, if_neg (by omega)]
    · rintro i j W h hi hj
      obtain ⟨C', h1, h2, h3, h4⟩ := h.bx
      refine ⟨?_, ?_, ?_⟩
      · rw [cell_of h1, Nat.add_assoc]
        exact h3 _ (by omega)
      · rw [cell_of h.tb]
        have hlt : i * 16 + j < TT.length := by omega
        rw [List.getElem?_toArray, List.getElem?_map, List.getElem?_eq_getElem hlt, List.getD_eq_getElem?_getD, List.getElem?_eq_getElem hlt]
        rfl
      · rw [frozen_of h1]
    · rintro i j W h n
      exact ⟨h.os, h.tape, h.output, Nat.le_trans h.drawn (Nat.le_add_right _ _), h.size, h.tb, h.bx, h.old⟩
    · rintro i j W h hi hj
      obtain ⟨C', h1, h2, h3, h4⟩ := h.bx
      have hC' : oo + (i + xn) * 16 + (j + yn) < C'.size := by
        have := h3 ((i + xn) * 16 + (j + yn)) (by omega)
        rw [← Nat.add_assoc] at this
        exact (Array.getElem?_eq_some_iff.1 this).1
      have oth : ∀ b, b ≠ ob → (W.setCell ⟨ob, oo + (i + xn) * 16 + (j + yn), none⟩ (.int .i64 (wrap64 (adF SS TT xn yn i j ((i + xn) * 16 + (j + yn)) + TT.getD (i * 16 + j) 0)))).heap[b]? = W.heap[b]? := fun b hb => heap_setCell_other _ _ _ _ hb
      refine ⟨h.os, h.tape, h.output, h.drawn, ?_, (oth _ (by omega)).trans h.tb, ⟨_, heap_setCell_same _ _ _ _ _ _ h1, ?_, fun k hk => ?_, fun q hq => ?_⟩, fun b hb hne => (oth b hne).trans (h.old b hb hne)⟩
      · show (W.heap.modify _ _).size = _
        rw [Array.size_modify]; exact h.size
      · rw [Array.size_setIfInBounds]; exact h2
      · obtain ⟨a1, a2⟩ := adF_at (S := SS) (T := TT) hi hj
        rw [Array.getElem?_setIfInBounds]
        by_cases c : oo + (i + xn) * 16 + (j + yn) = oo + k
        · rw [if_pos c, if_pos (by omega)]
          have hk2 : k = (i + xn) * 16 + (j + yn) := by omega
          subst hk2
          rw [a1, a2, w64_small]
          · have := bnd ((i + xn) * 16 + (j + yn)); have := bnd2 (i * 16 + j); omega
          · have := bnd ((i + xn) * 16 + (j + yn)); have := bnd2 (i * 16 + j); omega
        · rw [if_neg c, adF_other hi hj hk (by omega)]
          exact h3 k hk
      · rw [Array.getElem?_setIfInBounds, if_neg (by omega)]
        exact h4 q hq
    · rintro i j W h hi hj
      obtain ⟨C', h1, h2, h3, h4⟩ := h.bx
      exact ⟨h.os, h.tape, h.output, h.drawn, h.size, h.tb, ⟨C', h1, h2, fun k hk => by rw [adF_row hj]; exact h3 k hk, h4⟩, h.old⟩
    · rintro i W h hi
      obtain ⟨C', h1, h2, h3, h4⟩ := h.bx
      exact ⟨h.os, h.tape, h.output, h.drawn, h.size, h.tb, ⟨C', h1, h2, fun k hk => by rw [hR, ← adF_end hi hk]; exact h3 k hk, h4⟩, h.old⟩
    · obtain ⟨rfl, h⟩ := he
      obtain ⟨C', h1, h2, h3, h4⟩ := h.bx
      have lR : (Lb.toI QT r).length = 256 := by rw [Lb.toI_len numsQ, sizeQ]
      have fl := nums_flat numsQ
      let it : Den.Item := ⟨.val .box QT (Ty.mine QT) r, .pointer (some ⟨ob, oo, none⟩), ⟨some ⟨ob, oo, none⟩, .lf⟩⟩
      have own : ∀ b, OwnS it.z it.γ b → b = ob := fun b hb => by
        rcases OwnS.val.1 hb with (⟨_, a, ha, hab⟩ | ⟨c, _⟩) | hb
        · cases ha; exact hab.symm
        · cases c
        · exact absurd hb (Own.flat fl)
      refine ⟨⟨h.os, h.tape, h.output, by rw [h.size]; omega, fun _ => h.drawn, fun b hb hk => h.old b hb fun c => by subst c; exact hk.elim hob.2.1 fun k => k hob.1⟩, fun _ => False, [], [it], rfl, rfl, ⟨fun i hi => ?_, fun i hi k r v s d p t c => ?_, List.pairwise_singleton _ _, fun i hi b hb => ?_, fun b hb => hb.elim, fun b hb => hI.new b (by have := h.size; omega)⟩, fun b hb => hb.elim, rfl, rfl, fun i hi b hb => ?_⟩
      · obtain rfl : i = it := List.mem_singleton.1 hi
        refine ⟨rfl, Mem.flat fl, Sep.flat fl, ⟨ob, oo, none⟩, C', te, rfl, rfl, h1, ?_, Own.flat fl⟩
        show At w' (some ⟨ob, oo, none⟩) 0 (cells QT r .lf)
        rw [cells_nums numsQ]
        intro k v hk
        refine ⟨_, rfl, ?_⟩
        rw [Addr.add_mk, Nat.zero_add, cell_of h1]
        have hlt : k < (Lb.toI QT r).length := by
          have := (List.getElem?_eq_some_iff.1 hk).1
          rwa [List.length_map] at this
        rw [h3 k (by omega), ← hk, List.getElem?_map, List.getElem?_eq_getElem hlt, List.getD_eq_getElem?_getD, List.getElem?_eq_getElem hlt]
        rfl
      · obtain rfl : i = it := List.mem_singleton.1 hi
        cases c
      · obtain rfl : i = it := List.mem_singleton.1 hi
        obtain rfl := own b hb
        exact ⟨hob.1, fun k => k, by have := h.size; omega⟩
      · obtain rfl : i = it := List.mem_singleton.1 hi
        obtain rfl := own b hb
        exact hob.2.1
end Go.Proofs.YtafgbjhojkgbjaaGreatDoor.D

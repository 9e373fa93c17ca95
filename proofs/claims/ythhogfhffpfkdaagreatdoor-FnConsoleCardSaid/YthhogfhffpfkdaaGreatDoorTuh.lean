/-
  Several texts, one behind the other.
-/
import Derived.Test.YthhogfhffpfkdaaGreatDoorCtx
import Derived.WalkKit
import Derived.BigCall
import Derived.BigGuard
import Derived.Lib.Hide
import Derived.OneCell
import Derived.Deep.QuietTactic
import Derived.BigQuiet
import Derived.StillTailTactics
import Derived.Test.YthhogfhffpfkdaaGreatDoorDnC
import Derived.Test.YthhogfhffpfkdaaGreatDoorLaidW
import Derived.Lib.AppendZeros
import Derived.Deep.WholeRow
import Derived.Test.YthhogfhffpfkdaaGreatDoorRd
namespace Go.Proofs.YthhogfhffpfkdaaGreatDoor
open Go Go.Den Go.RowKit
set_option linter.unusedVariables false
set_option linter.unusedSimpArgs false
set_option maxRecDepth 100000
theorem s16 {i x : Nat} (h : i + x < 64) : IntKind.wrap .i64 ((i : Int) + (x : Int)) = ((i + x : Nat) : Int) := by
  simp [IntKind.wrap, IntKind.bits, IntKind.signed]
  omega
set_option maxHeartbeats 4000000 in
theorem add_walk (ob oo x y : Nat) (hx : x ≤ 1) (hy : y ≤ 1) (T : Array Value) (S : Nat → Nat → Nat → Int) (V : Nat → Nat → Int)
  (J : Nat → Nat → World → Prop) (w : World)
  (h0 : ∀ W, W = w.alloc (.cells T 140) → J 0 0 W)
  (hcell : ∀ i j W, J i j W → i + x < 16 → j + y < 16 → W.cell? ⟨ob, oo + (i + x) * 16 + (j + y), none⟩ = some (.int .i64 (S i j ((i + x) * 16 + (j + y)))) ∧ W.cell? ⟨w.heap.size, i * 16 + j, none⟩ = some (.int .i64 (V i j)) ∧ W.frozen? ⟨ob, oo + (i + x) * 16 + (j + y), none⟩ = false)
  (hdr : ∀ i j W, J i j W → ∀ n, J i j (W.drewN n))
  (hset : ∀ i j W, J i j W → i + x < 16 → j + y < 16 → J i (j + 1) (W.setCell ⟨ob, oo + (i + x) * 16 + (j + y), none⟩ (.int .i64 (wrap64 (S i j ((i + x) * 16 + (j + y)) + V i j)))))
  (hrow : ∀ i j W, J i j W → i + x < 16 → ¬ j + y < 16 → J (i + 1) 0 W)
  (Post : World → Prop) (hend : ∀ i W, J i 0 W → ¬ i + x < 16 → Post W)
  : Calls Tryz.prog 190 #[.pointer (some ⟨ob, oo, none⟩), .agg T, .int .i64 x, .int .i64 y] w fun e w' => e = .returned (.tuple #[]) ∧ Post w' := by
  have H0 := Lib.hid h0
  have HC := Lib.hid hcell
  have HD := Lib.hid hdr
  have HS := Lib.hid hset
  have HR := Lib.hid hrow
  have HE := Lib.hid hend
  clear h0 hcell hdr hset hrow hend
  go_enter Tryz.func190, Tryz.ntmps190
  go_wp2
  have J0 := H0.out _ rfl
  go_loopw [8] (fun s wr => ∃ i : Nat, i ≤ 16 ∧ s = .int .i64 i ∧ J i 0 wr) (fun s _ => 17 - (intOf s).toNat)
  case atStart => exact ⟨0, by omega, rfl, J0⟩
  case round =>
    obtain ⟨i, hi, rfl, hJ⟩ := hrel
    have e1 : IntKind.wrap .i64 ((i : Int) + (x : Int)) = ((i + x : Nat) : Int) := s16 (by omega)
    by_cases hix : i + x < 16
    · have h1 : ((i + x : Nat) : Int) < 16 := by omega
      go_wp2
      go_loopw [9] (fun s wr => ∃ j : Nat, j ≤ 16 ∧ s = .int .i64 j ∧ J i j wr) (fun s _ => 17 - (intOf s).toNat)
      case atStart => exact ⟨0, by omega, rfl, hJ⟩
      case round =>
        obtain ⟨j, hj, rfl, hJ1⟩ := hrel
        have e2 : IntKind.wrap .i64 ((j : Int) + (y : Int)) = ((j + y : Nat) : Int) := s16 (by omega)
        by_cases hjy : j + y < 16
        · have h2 : ((j + y : Nat) : Int) < 16 := by omega
          obtain ⟨c1, c2, c3⟩ := HC.out i j _ hJ1 hix hjy
          have z1 : (0 : Int) ≤ (i : Int) + (x : Int) := by omega
          have z2 : (0 : Int) ≤ (j : Int) + (y : Int) := by omega
          have t1 : ((i : Int) + (x : Int)).toNat = i + x := by omega
          have t2 : ((j : Int) + (y : Int)).toNat = j + y := by omega
          have i16 : (i : Int) < 16 := by omega
          have j16 : (j : Int) < 16 := by omega
          go_wp2
          go_still_tail 19, (by kernel_rfl)
          have hJd := HD.out i j _ hJ1 1
          change wpList _ _ _ _ _ (wr.drewN 1)
          generalize wr.drewN 1 = w2 at hJd ⊢
          clear c1 c2 c3
          obtain ⟨c1, c2, c3⟩ := HC.out i j _ hJd hix hjy
          have hJs := HS.out i j _ hJd hix hjy
          go_wp2
          go_simp
          exact ⟨⟨j + 1, by omega, by omega, hJs⟩, by simp only [intOf]; omega⟩
        · have h2 : ¬ ((j + y : Nat) : Int) < 16 := by omega
          have hJ2 := HR.out i j _ hJ1 hix hjy
          go_wp2
          go_roundw
          case rel => exact ⟨i + 1, by omega, by go_num, hJ2⟩
          case measure => simp [intOf]; omega
    · have h1 : ¬ ((i + x : Nat) : Int) < 16 := by omega
      have hP := HE.out i _ hJ hix
      go_wp2
      go_end0
      exact ⟨rfl, hP⟩
end Go.Proofs.YthhogfhffpfkdaaGreatDoor
namespace Go.Proofs.YthhogfhffpfkdaaGreatDoor.D
open Go Go.Den Go.RowKit Go.Proofs.YthhogfhffpfkdaaGreatDoor
set_option linter.unusedVariables false
set_option linter.unusedSimpArgs false
set_option maxRecDepth 100000
theorem cells_nums : ∀ {t : Ty} {x : t.den} {g : G}, Ty.nums t = true → cells t x g = (Lb.toI t x).map (Value.int .i64)
  | .int k, x, g, h => by
    obtain rfl : k = .i64 := of_decide_eq_true h
    rfl
  | .one a, x, g, h => cells_nums (t := a) h
  | .cons a b, x, g, h => by
    have h' : (Ty.nums a && Ty.nums b) = true := h
    simp only [Bool.and_eq_true] at h'
    show cells a x.1 g.fst ++ cells b x.2 g.snd = (Lb.toI a x.1 ++ Lb.toI b x.2).map _
    rw [cells_nums h'.1, cells_nums h'.2, List.map_append]
  | .bool, _, _, h => by cases h
  | .str, _, _, h => by cases h
  | .unit, _, _, h => by cases h
  | .sl _, _, _, h => by cases h
theorem nums_flat : ∀ {t : Ty}, Ty.nums t = true → t.flat = true
  | .int k, h => rfl
  | .one a, h => nums_flat (t := a) h
  | .cons a b, h => by
    have h' : (Ty.nums a && Ty.nums b) = true := h
    simp only [Bool.and_eq_true] at h'
    simp only [Ty.flat, nums_flat h'.1, nums_flat h'.2, Bool.and_self]
  | .bool, h => by cases h
  | .str, h => by cases h
  | .unit, h => by cases h
  | .sl _, h => by cases h
/-- the square when all ahead of row i, place j has been added -/
def adF (S T : List Int) (x y i j k : Nat) : Int := S.getD k 0 + if x ≤ k / 16 ∧ y ≤ k % 16 ∧ (k / 16 - x < i ∨ (k / 16 - x = i ∧ k % 16 - y < j)) then T.getD ((k / 16 - x) * 16 + (k % 16 - y)) 0 else 0
/-- what lies where while it is added -/
structure AdJ (w : World) (ob oo : Nat) (C T' : Array Value) (te : TypeId) (f : Nat → Int) (W : World) : Prop where
  os : W.os = w.os
  tape : W.tape = w.tape
  output : W.output = w.output
  drawn : w.drawn ≤ W.drawn
  size : W.heap.size = w.heap.size + 1
  tb : W.heap[w.heap.size]? = some (.cells T' 140 (0, 0))
  bx : ∃ C', W.heap[ob]? = some (.cells C' te (0, 0)) ∧ C'.size = C.size ∧ (∀ k, k < 256 → C'[oo + k]? = some (.int .i64 (f k))) ∧ ∀ q, (q < oo ∨ oo + 256 ≤ q) → C'[q]? = C[q]?
  old : ∀ b, b < w.heap.size → b ≠ ob → W.heap[b]? = w.heap[b]?
theorem cell_of {W : World} {b i : Nat} {C : Array Value} {t : TypeId} {fz : Nat × Nat} (h : W.heap[b]? = some (.cells C t fz)) : W.cell? ⟨b, i, none⟩ = C[i]? := by
  simp [World.cell?, h]
theorem frozen_of {W : World} {b i : Nat} {C : Array Value} {t : TypeId} (h : W.heap[b]? = some (.cells C t (0, 0))) : W.frozen? ⟨b, i, none⟩ = false := by
  simp [World.frozen?, h]
theorem getD_le {l : List Int} {B : Int} (h0 : 0 ≤ B) (h : ∀ x ∈ l, -B ≤ x ∧ x ≤ B) (k : Nat) : -B ≤ l.getD k 0 ∧ l.getD k 0 ≤ B := by
  rw [List.getD_eq_getElem?_getD]
  cases hk : l[k]? with
  | none => exact ⟨by show -B ≤ 0; omega, h0⟩
  | some v => exact h v (List.mem_of_getElem? hk)
theorem w64_small {n : Int} (h1 : -1000000000000000 ≤ n) (h2 : n ≤ 1000000000000000) : wrap64 n = n := by
  unfold wrap64
  omega
abbrev QT : Ty := A140
theorem numsQ : Ty.nums QT = true := by decide +kernel
theorem sizeQ : Ty.size QT = 256 := by decide +kernel
theorem adF_at {S T : List Int} {x y i j : Nat} (hi : i + x < 16) (hj : j + y < 16) : adF S T x y i j ((i + x) * 16 + (j + y)) = S.getD ((i + x) * 16 + (j + y)) 0 ∧ adF S T x y i (j + 1) ((i + x) * 16 + (j + y)) = S.getD ((i + x) * 16 + (j + y)) 0 + T.getD (i * 16 + j) 0 := by
  have h1 : ((i + x) * 16 + (j + y)) / 16 = i + x := by omega
  have h2 : ((i + x) * 16 + (j + y)) % 16 = j + y := by omega
  unfold adF
  rw [h1, h2, show i + x - x = i by omega, show j + y - y = j by omega]
  exact ⟨by rw [if_neg (by omega), Int.add_zero], by rw [if_pos (by omega)]⟩
theorem adF_other {S T : List Int} {x y i j k : Nat} (hi : i + x < 16) (hj : j + y < 16) (hk : k < 256) (hne : k ≠ (i + x) * 16 + (j + y)) : adF S T x y i (j + 1) k = adF S T x y i j k := by
  unfold adF
  congr 1
  by_cases c : x ≤ k / 16 ∧ y ≤ k % 16 ∧ (k / 16 - x < i ∨ (k / 16 - x = i ∧ k % 16 - y < j))
  · rw [if_pos c, if_pos (by omega)]
  · rw [if_neg c, if_neg]
    rintro ⟨c1, c2, c3⟩
    exact c ⟨c1, c2, by omega⟩
theorem adF_row {S T : List Int} {x y i j k : Nat} (hj : ¬ j + y < 16) : adF S T x y (i + 1) 0 k = adF S T x y i j k := by
  unfold adF
  congr 1
  by_cases c : x ≤ k / 16 ∧ y ≤ k % 16 ∧ (k / 16 - x < i ∨ (k / 16 - x = i ∧ k % 16 - y < j))
  · rw [if_pos c, if_pos (by omega)]
  · rw [if_neg c, if_neg]
    rintro ⟨c1, c2, c3⟩
    exact c ⟨c1, c2, by omega⟩
theorem adF_end {S T : List Int} {x y i k : Nat} (hi : ¬ i + x < 16) (hk : k < 256) : adF S T x y i 0 k = (Lb.addT S T x y).getD k 0 := by
  unfold Lb.addT adF
  rw [List.getD_eq_getElem?_getD (l := List.map _ _), List.getElem?_map, List.getElem?_range hk]
  simp only [Option.map_some, Option.getD_some]
  congr 1
  by_cases c : x ≤ k / 16 ∧ y ≤ k % 16
  · rw [if_pos c, if_pos (by omega)]
  · rw [if_neg c, if_neg (by omega)]
theorem adF_start {S T : List Int} {x y k : Nat} : adF S T x y 0 0 k = S.getD k 0 := by
  unfold adF
  rw [if_neg (by omega), Int.add_zero]
theorem addTm_holds {a : QT.den × (QT.den × (Int × Int))} {r : QT.den} (hr : Lb.addTm QT a.1 a.2.1 a.2.2.1 a.2.2.2 = some r) : Go.Den.Holds Tryz.prog Γ tau 116 a r := by
  obtain ⟨S, T, x, y⟩ := a
  unfold Lb.addTm at hr
  simp only at hr
  cases hc : (decide (0 ≤ x) && decide (x ≤ 1) && decide (0 ≤ y) && decide (y ≤ 1) && Lb.sqB (Lb.toI QT S) && Lb.sqB (Lb.toI QT T)) with
  | false => rw [hc] at hr; cases hr
  | true =>
  rw [hc, cond_true] at hr
  have hr := (Option.some.inj hr).symm
  simp only [Bool.and_eq_true, decide_eq_true_eq] at hc
  obtain ⟨⟨⟨⟨⟨x0, x1⟩, y0⟩, y1⟩, bS⟩, bT⟩ := hc
  unfold Lb.sqB at bS bT
  simp only [List.all_eq_true, Bool.and_eq_true, decide_eq_true_eq] at bS bT
  obtain ⟨xn, rfl⟩ : ∃ n : Nat, x = n := ⟨x.toNat, by omega⟩
  obtain ⟨yn, rfl⟩ : ∃ n : Nat, y = n := ⟨y.toNat, by omega⟩
  rw [Int.toNat_natCast, Int.toNat_natCast] at hr
  have lS : (Lb.toI QT S).length = 256 := by rw [Lb.toI_len numsQ, sizeQ]
  have lT : (Lb.toI QT T).length = 256 := by rw [Lb.toI_len numsQ, sizeQ]
  have hR : Lb.toI QT r = Lb.addT (Lb.toI QT S) (Lb.toI QT T) xn yn := by
    have lA : (Lb.addT (Lb.toI QT S) (Lb.toI QT T) xn yn).length = 256 := by unfold Lb.addT; rw [List.length_map, List.length_range]
    rw [hr, Lb.toI_of numsQ (by rw [sizeQ, lA]; omega), sizeQ, List.take_of_length_le (by omega)]
  clear hr
  generalize hSS : Lb.toI QT S = SS at *
  generalize hTT : Lb.toI QT T = TT at *
  intro σ hσ w I F L hL hI hK
  obtain rfl : s116 = σ := Option.some.inj hσ
  have hL' : some [SV.val .box QT (Ty.mine QT) S, SV.val .reg QT (.sh false) T, SV.val .reg (.int .i64) (.sh false) (xn : Int), SV.val .reg (.int .i64) (.sh false) (yn : Int)] = some (L.map Item.sv) := hL
  have hL' := Option.some.inj hL'
  match L, hL', hL, hI with
  | [], h, _, _ => cases h
  | [_], h, _, _ => simp at h
  | [_, _], h, _, _ => simp at h
  | [_, _, _], h, _, _ => simp at h
  | _ :: _ :: _ :: _ :: _ :: _, h, _, _ => simp at h
  | [⟨sv0, v0, γ0⟩, ⟨sv1, v1, γ1⟩, ⟨sv2, v2, γ2⟩, ⟨sv3, v3, γ3⟩], hL', hL, hI =>
    simp only [List.map_cons, List.map_nil, List.cons.injEq, and_true] at hL'
    obtain ⟨e0, e1, e2, e3⟩ := hL'
    subst e0; subst e1; subst e2; subst e3
    have m0 : (⟨SV.val .box QT (Ty.mine QT) S, v0, γ0⟩ : Den.Item) ∈ [(⟨SV.val .box QT (Ty.mine QT) S, v0, γ0⟩ : Den.Item), ⟨SV.val .reg QT (.sh false) T, v1, γ1⟩, ⟨SV.val .reg (.int .i64) (.sh false) (xn : Int), v2, γ2⟩, ⟨SV.val .reg (.int .i64) (.sh false) (yn : Int), v3, γ3⟩] := List.mem_cons_self
    obtain ⟨u1, u2, u3, ad, C, te, u4, u5, u6, u7, u8⟩ := hI.ok _ m0
    obtain ⟨q1, _⟩ := hI.ok ⟨SV.val .reg QT (.sh false) T, v1, γ1⟩ (by simp)
    obtain ⟨q2, _⟩ := hI.ok ⟨SV.val .reg (.int .i64) (.sh false) (xn : Int), v2, γ2⟩ (by simp)
    obtain ⟨q3, _⟩ := hI.ok ⟨SV.val .reg (.int .i64) (.sh false) (yn : Int), v3, γ3⟩ (by simp)
    obtain ⟨ob, oo, sp⟩ := ad
    obtain rfl : sp = none := u5
    have hv0 : v0 = .pointer (some ⟨ob, oo, none⟩) := by
      have : v0 = .pointer γ0.b := u1
      rw [this, u4]
    have hv1 : v1 = .agg (TT.map (Value.int .i64)).toArray := by
      have : v1 = .agg (cells QT T γ1.g).toArray := q1
      rw [this, cells_nums numsQ, hTT]
    have hv2 : v2 = .int .i64 xn := q2
    have hv3 : v3 = .int .i64 yn := q3
    subst hv0; subst hv1; subst hv2; subst hv3
    have hob := hI.lv _ m0 ob (OwnS.val.2 (.inl (.inl ⟨rfl, _, u4, rfl⟩)))
    have hat : ∀ k, k < 256 → C[oo + k]? = some (.int .i64 (SS.getD k 0)) := fun k hk => by
      have h1 : At w (some ⟨ob, oo, none⟩) 0 (SS.map (Value.int .i64)) := by
        have u7' := u7
        rw [u4, cells_nums numsQ, hSS] at u7'; exact u7'
      obtain ⟨d, hd, h2⟩ := h1 k _ (by rw [List.getElem?_map, List.getElem?_eq_getElem (by omega)]; rfl)
      cases hd
      rw [Addr.add_mk, Nat.zero_add, cell_of u6] at h2
      rw [h2, List.getD_eq_getElem?_getD, List.getElem?_eq_getElem (by omega)]
      rfl
    have bnd : ∀ k, -1000000000000 ≤ SS.getD k 0 ∧ SS.getD k 0 ≤ 1000000000000 := getD_le (by omega) bS
    have bnd2 : ∀ k, -1000000000000 ≤ TT.getD k 0 ∧ TT.getD k 0 ≤ 1000000000000 := getD_le (by omega) bT
    refine Calls.mono (add_walk ob oo xn yn (by omega) (by omega) (TT.map (Value.int .i64)).toArray (fun i j k => adF SS TT xn yn i j k) (fun i j => TT.getD (i * 16 + j) 0)
      (fun i j W => AdJ w ob oo C (TT.map (Value.int .i64)).toArray te (adF SS TT xn yn i j) W) w ?_ ?_ ?_ ?_ ?_ (fun W => AdJ w ob oo C (TT.map (Value.int .i64)).toArray te (fun k => (Lb.toI QT r).getD k 0) W) ?_) fun e w' he => ?_
    · rintro W rfl
      refine ⟨rfl, rfl, rfl, Nat.le_refl _, by simp, by show (w.heap.push _)[w.heap.size]? = _; simp, ⟨C, ?_, rfl, fun k hk => by rw [adF_start]; exact hat k hk, fun _ _ => rfl⟩, fun b hb _ => ?_⟩
      · show (w.heap.push _)[ob]? = _
        rw [Array.getElem?_push, if_neg (by omega)]; exact u6
      · show (w.heap.push _)[b]? = _
        rw [Array.getElem?_push, if_neg (by omega)]
    · rintro i j W h hi hj
      obtain ⟨C', h1, h2, h3, h4⟩ := h.bx
      refine ⟨?_, ?_, ?_⟩
      · rw [cell_of h1, Nat.add_assoc]
        exact h3 _ (by omega)
      · rw [cell_of h.tb]
        have hlt : i * 16 + j < TT.length := by omega
        rw [List.getElem?_toArray, List.getElem?_map, List.getElem?_eq_getElem hlt, List.getD_eq_getElem?_getD, List.getElem?_eq_getElem hlt]
        rfl
      · rw [frozen_of h1]
    · rintro i j W h n
      exact ⟨h.os, h.tape, h.output, Nat.le_trans h.drawn (Nat.le_add_right _ _), h.size, h.tb, h.bx, h.old⟩
    · rintro i j W h hi hj
      obtain ⟨C', h1, h2, h3, h4⟩ := h.bx
      have hC' : oo + (i + xn) * 16 + (j + yn) < C'.size := by
        have := h3 ((i + xn) * 16 + (j + yn)) (by omega)
        rw [← Nat.add_assoc] at this
        exact (Array.getElem?_eq_some_iff.1 this).1
      have oth : ∀ b, b ≠ ob → (W.setCell ⟨ob, oo + (i + xn) * 16 + (j + yn), none⟩ (.int .i64 (wrap64 (adF SS TT xn yn i j ((i + xn) * 16 + (j + yn)) + TT.getD (i * 16 + j) 0)))).heap[b]? = W.heap[b]? := fun b hb => heap_setCell_other _ _ _ _ hb
      refine ⟨h.os, h.tape, h.output, h.drawn, ?_, (oth _ (by omega)).trans h.tb, ⟨_, heap_setCell_same _ _ _ _ _ _ h1, ?_, fun k hk => ?_, fun q hq => ?_⟩, fun b hb hne => (oth b hne).trans (h.old b hb hne)⟩
      · show (W.heap.modify _ _).size = _
        rw [Array.size_modify]; exact h.size
      · rw [Array.size_setIfInBounds]; exact h2
      · obtain ⟨a1, a2⟩ := adF_at (S := SS) (T := TT) hi hj
        rw [Array.getElem?_setIfInBounds]
        by_cases c : oo + (i + xn) * 16 + (j + yn) = oo + k
        · rw [if_pos c, if_pos (by omega)]
          have hk2 : k = (i + xn) * 16 + (j + yn) := by omega
          subst hk2
          rw [a1, a2, w64_small]
          · have := bnd ((i + xn) * 16 + (j + yn)); have := bnd2 (i * 16 + j); omega
          · have := bnd ((i + xn) * 16 + (j + yn)); have := bnd2 (i * 16 + j); omega
        · rw [if_neg c, adF_other hi hj hk (by omega)]
          exact h3 k hk
      · rw [Array.getElem?_setIfInBounds, if_neg (by omega)]
        exact h4 q hq
    · rintro i j W h hi hj
      obtain ⟨C', h1, h2, h3, h4⟩ := h.bx
      exact ⟨h.os, h.tape, h.output, h.drawn, h.size, h.tb, ⟨C', h1, h2, fun k hk => by rw [adF_row hj]; exact h3 k hk, h4⟩, h.old⟩
    · rintro i W h hi
      obtain ⟨C', h1, h2, h3, h4⟩ := h.bx
      exact ⟨h.os, h.tape, h.output, h.drawn, h.size, h.tb, ⟨C', h1, h2, fun k hk => by rw [hR, ← adF_end hi hk]; exact h3 k hk, h4⟩, h.old⟩
    · obtain ⟨rfl, h⟩ := he
      obtain ⟨C', h1, h2, h3, h4⟩ := h.bx
      have lR : (Lb.toI QT r).length = 256 := by rw [Lb.toI_len numsQ, sizeQ]
      have fl := nums_flat numsQ
      let it : Den.Item := ⟨.val .box QT (Ty.mine QT) r, .pointer (some ⟨ob, oo, none⟩), ⟨some ⟨ob, oo, none⟩, .lf⟩⟩
      have own : ∀ b, OwnS it.z it.γ b → b = ob := fun b hb => by
        rcases OwnS.val.1 hb with (⟨_, a, ha, hab⟩ | ⟨c, _⟩) | hb
        · cases ha; exact hab.symm
        · cases c
        · exact absurd hb (Own.flat fl)
      refine ⟨⟨h.os, h.tape, h.output, by rw [h.size]; omega, fun _ => h.drawn, fun b hb hk => h.old b hb fun c => by subst c; exact hk.elim hob.2.1 fun k => k hob.1⟩, fun _ => False, [], [it], rfl, rfl, ⟨fun i hi => ?_, fun i hi k r v s d p t c => ?_, List.pairwise_singleton _ _, fun i hi b hb => ?_, fun b hb => hb.elim, fun b hb => hI.new b (by have := h.size; omega)⟩, fun b hb => hb.elim, rfl, rfl, fun i hi b hb => ?_⟩
      · obtain rfl : i = it := List.mem_singleton.1 hi
        refine ⟨rfl, Mem.flat fl, Sep.flat fl, ⟨ob, oo, none⟩, C', te, rfl, rfl, h1, ?_, Own.flat fl⟩
        show At w' (some ⟨ob, oo, none⟩) 0 (cells QT r .lf)
        rw [cells_nums numsQ]
        intro k v hk
        refine ⟨_, rfl, ?_⟩
        rw [Addr.add_mk, Nat.zero_add, cell_of h1]
        have hlt : k < (Lb.toI QT r).length := by
          have := (List.getElem?_eq_some_iff.1 hk).1
          rwa [List.length_map] at this
        rw [h3 k (by omega), ← hk, List.getElem?_map, List.getElem?_eq_getElem hlt, List.getD_eq_getElem?_getD, List.getElem?_eq_getElem hlt]
        rfl
      · obtain rfl : i = it := List.mem_singleton.1 hi
        cases c
      · obtain rfl : i = it := List.mem_singleton.1 hi
        obtain rfl := own b hb
        exact ⟨hob.1, fun k => k, by have := h.size; omega⟩
      · obtain rfl : i = it := List.mem_singleton.1 hi
        obtain rfl := own b hb
        exact hob.2.1
end Go.Proofs.YthhogfhffpfkdaaGreatDoor.D
namespace Go.Proofs.YthhogfhffpfkdaaGreatDoor
open Go Go.Den Go.RowKit
set_option linter.unusedVariables false
set_option linter.unusedSimpArgs false
set_option maxRecDepth 100000
set_option maxHeartbeats 4000000 in
theorem tut_walk (n : Int) (ea : Option Addr) (el ec : Nat) (hel : el ≤ 9) (T : Array Value) (R : Nat → Array Value) (w : World) (Post : Ending → World → Prop)
  (J0 : World → Prop) (J : Nat → Value → Nat → World → Prop) (J1 : Nat → Value → Nat → Value → World → Prop) (J2 : Nat → Value → Nat → Option Addr → Nat → Nat → World → Prop)
  (hGO : ∀ W, W = w.alloc (.cells #[.int .i64 n, .slice ea el ec] 33) → Calls Tryz.prog 82 #[.agg #[.int .i64 n, .slice ea el ec]] W fun e w' => e = .returned (.bool true) ∧ J0 w' ∧ w'.cell? ⟨w.heap.size, 0, none⟩ = some (.int .i64 n) ∧ w'.cell? ⟨w.heap.size, 1, none⟩ = some (.slice ea el ec))
  (hTu : ∀ W, J0 W → Calls Tryz.prog 121 #[.slice ea el ec] W fun e w' => e = .returned (.agg T) ∧ J 0 (.slice none 0 0) 0 w')
  (hix : ∀ i : Nat, i < 16 → ∀ W, (Instr.index 140 (.agg T) (.int .i64 i)).run Tryz.prog W = .ok (.agg (R i)) W)
  (hsz : ∀ i, i < 16 → (R i).size = 16) (hone : ∀ i, (R i).all (·.oneCell') = true)
  (hTr : ∀ i o rows W, J i o rows W → i < 16 → Calls Tryz.prog 122 #[.slice (some ⟨W.heap.size, 0, none⟩) 16 16] (W.alloc (.cells (R i) 139)) fun e w' => ∃ v, e = .returned v ∧ J1 i o rows v w')
  (hCp : ∀ i o rows v W, J1 i o rows v W → Calls Tryz.prog 31 #[v] W fun e w' => ∃ a l c, e = .returned (.slice a l c) ∧ J2 i o rows a l c w')
  (hAp : ∀ i o rows a l c W, J2 i o rows a l c W → ∃ v w3, (Builtin.append_ #[71, 71] 71 #[o, .slice (some ⟨W.heap.size, 0, none⟩) 1 1]).run Tryz.prog (W.alloc (.cells #[.slice a l c] 34)) = .ok v w3 ∧ J (i + 1) v (if 0 < l then i + 1 else rows) w3)
  (hEnd : ∀ o rows W, J 16 o rows W → ∃ oa ol oc, o = .slice oa ol oc ∧ rows ≤ oc ∧ Post (.returned (.tuple #[.slice oa rows oc, .bool true])) W)
  : Calls Tryz.prog 53 #[.agg #[.int .i64 n, .slice ea el ec]] w Post := by
  have HGO := Lib.hid hGO
  have HTu := Lib.hid hTu
  have Hix := Lib.hid hix
  have HTr := Lib.hid hTr
  have HCp := Lib.hid hCp
  have HAp := Lib.hid hAp
  have HEnd := Lib.hid hEnd
  clear hGO hTu hix hTr hCp hAp hEnd
  have h9 : ¬ (el : Int) > 9 := by omega
  go_enter Tryz.func53, Tryz.ntmps53
  go_wp2_with (first | (go_at_call 82; refine (HGO.out _ rfl).mono ?_; rintro e w1 ⟨rfl, hw1, hw2, hw3⟩) | (go_at_call 121; refine (HTu.out _ hw1).mono ?_; rintro e w2 ⟨rfl, hJ⟩))
  go_loopw [4, 5, 21] (fun o r s wr => ∃ i rows : Nat, i ≤ 16 ∧ rows ≤ 16 ∧ s = .int .i64 i ∧ r = .int .i64 rows ∧ J i o rows wr) (fun _ _ s _ => 17 - (intOf s).toNat)
  case atStart => exact ⟨0, 0, by omega, by omega, rfl, rfl, hJ⟩
  case round =>
    obtain ⟨i, rows, hi, hrow, rfl, rfl, hJ1⟩ := hrel
    by_cases hlt : i < 16
    · have i16 : (i : Int) < 16 := by omega
      have hx := Hix.out i hlt
      have hs := hsz i hlt
      have hst := run_storeCells_new (P := Tryz.prog) wr 139 #[.int .i64 0, .int .i64 0, .int .i64 0, .int .i64 0, .int .i64 0, .int .i64 0, .int .i64 0, .int .i64 0, .int .i64 0, .int .i64 0, .int .i64 0, .int .i64 0, .int .i64 0, .int .i64 0, .int .i64 0, .int .i64 0] (R i) (by rw [hs]; kernel_rfl) (by rw [hs]; rfl) (hone i)
      go_wp2_with (first
        | (go_at_call 122; refine (HTr.out _ _ _ _ hJ1 hlt).mono ?_; rintro e w3 ⟨v1, rfl, hJ2⟩)
        | (go_at_call 31; refine (HCp.out _ _ _ _ _ hJ2).mono ?_; rintro e w4 ⟨ra, rl, rc, rfl, hJ3⟩)
        | (at_builtin; obtain ⟨v2, w5, hr, hJ4⟩ := HAp.out _ _ _ _ _ _ _ hJ3; refine Lib.wpList_append_run _ rfl _ _ _ _ rfl _ _ rfl rfl _ _ hr ?_; clear hr))
      · refine ⟨⟨i + 1, i + 1, by omega, by omega, by go_num, by go_num, ?_⟩, by simp only [intOf]; omega⟩
        rw [if_pos (by omega)] at hJ4
        exact hJ4
      · refine ⟨⟨i + 1, rows, by omega, by omega, by go_num, rfl, ?_⟩, by simp only [intOf]; omega⟩
        rw [if_neg (by omega)] at hJ4
        exact hJ4
    · obtain rfl : i = 16 := by omega
      obtain ⟨oa, ol, oc, rfl, hro, hP⟩ := HEnd.out _ _ _ hJ1
      have hP := Lib.hid hP
      go_wp2
      exact hP.out
set_option maxHeartbeats 1000000 in
theorem tut_no (n : Int) (ea : Option Addr) (el ec : Nat) (b : Bool) (hb : b = false ∨ 9 < el) (w : World) (J0 : World → Prop) (Post : Ending → World → Prop) (hP : ∀ W, J0 W → Post (.returned (.tuple #[.slice none 0 0, .bool false])) W)
  (hGO : ∀ W, W = w.alloc (.cells #[.int .i64 n, .slice ea el ec] 33) → Calls Tryz.prog 82 #[.agg #[.int .i64 n, .slice ea el ec]] W fun e w' => e = .returned (.bool b) ∧ J0 w' ∧ w'.cell? ⟨w.heap.size, 0, none⟩ = some (.int .i64 n) ∧ w'.cell? ⟨w.heap.size, 1, none⟩ = some (.slice ea el ec))
  : Calls Tryz.prog 53 #[.agg #[.int .i64 n, .slice ea el ec]] w Post := by
  have HGO := Lib.hid hGO
  have HP := Lib.hid hP
  clear hGO hP
  cases b with
  | false =>
    go_enter Tryz.func53, Tryz.ntmps53
    go_wp2_with (go_at_call 82; refine (HGO.out _ rfl).mono ?_; rintro e w1 ⟨rfl, hw1, hw2, hw3⟩)
    exact HP.out _ hw1
  | true =>
    have h9 : (el : Int) > 9 := by rcases hb with c | c; cases c; omega
    clear hb
    go_enter Tryz.func53, Tryz.ntmps53
    go_wp2_with (go_at_call 82; refine (HGO.out _ rfl).mono ?_; rintro e w1 ⟨rfl, hw1, hw2, hw3⟩)
    exact HP.out _ hw1
end Go.Proofs.YthhogfhffpfkdaaGreatDoor
namespace Go.Proofs.YthhogfhffpfkdaaGreatDoor.D
open Go Go.Den Go.Proofs.YthhogfhffpfkdaaGreatDoor
set_option linter.unusedVariables false
set_option linter.unusedSimpArgs false
set_option maxRecDepth 100000
theorem append_new {P : Program} {X : List (List Int)} {T E : TypeId} {eq : Bool} {D : Prop} {w : World} {I F : Nat → Prop} (hT : TyOk P T ⟨RRT, [], eq⟩) (himm : ∀ b, I b → b < w.heap.size) (hnew : ∀ b, w.heap.size ≤ b → F b) {x : List Int} {g gr : G}
    (o2 : Mem w noB noB RRT RRM X g) (o3 : Den.Sep RRT RRM g) (o4 : ∀ b, Own RRT RRM g b → F b ∧ ¬ I b ∧ b < w.heap.size) (r2 : Mem w noB noB RT RM x gr) (r4 : ∀ b, bl' gr b → F b ∧ ¬ I b ∧ b < w.heap.size ∧ ¬ Own RRT RRM g b) (hX : List.length X + 1 ≤ room) :
    ∃ v w', (Builtin.append_ #[T, T] T #[.slice g.addr g.len g.cap, .slice (some ⟨w.heap.size, 0, none⟩) 1 1]).run P (w.alloc (.cells #[.slice gr.addr gr.len gr.cap] E)) = .ok v w' ∧ Wx D I F w w' ∧ ∃ g', v = .slice g'.addr g'.len g'.cap ∧ Mem w' noB noB RRT RRM (X ++ [x]) g' ∧ Den.Sep RRT RRM g' ∧ ∀ b, Own RRT RRM g' b → F b ∧ ¬ I b ∧ b < w'.heap.size := by
  let w2 := w.alloc (.cells #[Value.slice gr.addr gr.len gr.cap] E)
  have hs2 : w2.heap.size = w.heap.size + 1 := by simp [w2]
  have old : ∀ b, b < w.heap.size → w2.heap[b]? = w.heap[b]? := fun b hb => (Wk.alloc noB noB w _).old b hb (.inr id)
  let g1 : G := .hd (some ⟨w.heap.size, 0, none⟩) 1 1 fun _ => gr
  have hat1 : At w2 (some ⟨w.heap.size, 0, none⟩) 0 [Value.slice gr.addr gr.len gr.cap] := At.new (t := RT) (x := x) (g := gr)
  have hC2 : w2.heap[w.heap.size]? = some (.cells #[Value.slice gr.addr gr.len gr.cap] E (0, 0)) := by
    show (w.heap.push _)[w.heap.size]? = _
    simp
  have M1 : Mem w2 I F RRT RRM [x] g1 := by
    refine ⟨rfl, .inr ⟨w.heap.size, 0, #[Value.slice gr.addr gr.len gr.cap], E, rfl, hC2, Nat.le_refl _, Nat.le_refl _, by unfold maxLen; exact Nat.le_of_ble_eq_true rfl⟩, fun i hi => ?_⟩
    have hi0 : i = 0 := by have : i < 1 := hi; omega
    subst hi0
    exact ⟨hat1, mem_row (r2.frame fun b hb => hb.elim (fun hb => old b (r4 b (own_row.1 hb)).2.2.1) fun hb => hb.elim)⟩
  have S1 : Den.Sep RRT RRM g1 := by
    refine ⟨fun i hi => ⟨fun _ _ => trivial, fun _ _ _ _ _ _ k => k.elim, fun _ _ _ _ k => k.elim⟩, fun i j b hi hj hij => ?_, fun a i ha hi c => ?_⟩
    · have h1 : i < 1 := hi
      have h2 : j < 1 := hj
      omega
    · cases ha
      have := (r4 _ (own_row.1 c)).2.2.1
      exact Nat.lt_irrefl _ this
  have O1 : ∀ b, Own RRT RRM g1 b → b = w.heap.size ∨ bl' gr b := fun b hb => by
    rcases hb with ⟨a, ha, hab⟩ | ⟨i, hi, hb⟩
    · cases ha; exact .inl hab.symm
    · exact .inr (own_row.1 hb)
  have M0 : Mem w2 I F RRT RRM X g := mem_rows (o2.frame fun b hb => hb.elim (fun hb => old b (o4 b hb).2.2) fun hb => hb.elim)
  let i0 : Den.Item := ⟨.val .reg RRT RRM X, .slice g.addr g.len g.cap, ⟨none, g⟩⟩
  let i1 : Den.Item := ⟨.val .reg RRT RRM ([x] : List (List Int)), .slice (some ⟨w.heap.size, 0, none⟩) 1 1, ⟨none, g1⟩⟩
  have hI : Items w2 I F [i0, i1] := by
    refine ⟨fun i hi => ?_, fun i hi k r v s d p t c => ?_, ?_, fun i hi b hb => ?_, fun b hb => by have := himm b hb; omega, fun b hb => hnew b (by omega)⟩
    · simp only [List.mem_cons, List.not_mem_nil, or_false] at hi
      rcases hi with rfl | rfl
      · exact ⟨rfl, M0, o3, rfl⟩
      · exact ⟨rfl, M1, S1, rfl⟩
    · simp only [List.mem_cons, List.not_mem_nil, or_false] at hi
      rcases hi with rfl | rfl <;> cases c
    · refine List.pairwise_cons.2 ⟨fun j hj b hb hc => ?_, List.pairwise_singleton _ _⟩
      rw [List.mem_singleton] at hj
      subst hj
      have hb' : Own RRT RRM g b := hb
      have hl := o4 b hb'
      rcases O1 b hc with c | c
      · omega
      · exact (r4 b c).2.2.2 hb'
    · simp only [List.mem_cons, List.not_mem_nil, or_false] at hi
      rcases hi with rfl | rfl
      · have hb' : Own RRT RRM g b := hb
        have hl := o4 b hb'
        exact ⟨hl.1, hl.2.1, by omega⟩
      · rcases O1 b hb with c | c
        · subst c
          exact ⟨hnew _ (Nat.le_refl _), fun c => by have := himm _ c; omega, by omega⟩
        · have hl := r4 b c
          exact ⟨hl.1, hl.2.1, by omega⟩
  let e : Env := [(0, i0.z), (1, i1.z)]
  have he : ∀ n, e.get n = (itemAt [i0, i1] n).z := fun n => by
    match n with
    | 0 => rfl
    | 1 => rfl
    | n + 2 => rfl
  have St0 := hI.st (fun i hi g cs c => by
    simp only [List.mem_cons, List.not_mem_nil, or_false] at hi
    rcases hi with rfl | rfl <;> cases c) (a := appA i0.v i1.v) he (fun n hn => by
    match n with
    | 0 => rfl
    | 1 => rfl
    | n + 2 => have : n + 2 < 2 := hn; omega)
  let Γ0 : Ctx := ⟨[], [], [], false, []⟩
  have hr1 := app_run (O := fun _ _ => none) (X := X) (Y := [x]) hX
  obtain ⟨v, w', a1, a2, e', γ', I', a3, a4, a5, a6⟩ := appendM_ok (P := P) (T := T) (U := T) (ty := T) (i := ⟨RRT, [], eq⟩) (j := ⟨RRT, [], eq⟩) St0 (fun _ => id) hT hT rfl hr1
  cases a3
  have sl := a4.slot 2 id
  obtain ⟨b1, b2, b3⟩ := sl.valMem rfl
  have hv : v = .slice (γ' 2).g.addr (γ' 2).g.len (γ' 2).g.cap := b1
  have hx1 : Wx D I F w w2 := ⟨rfl, rfl, rfl, by omega, fun _ => Nat.le_refl _, fun b hb _ => old b hb⟩
  have hx2 : Wx D I F w2 w' := ⟨a2.os, a2.tape, a2.output, a2.size, fun _ => a2.drawn, fun b hb hk => a2.old b hb hk⟩
  refine ⟨v, w', a1, hx1.trans hx2 fun _ c => c, (γ' 2).g, hv, mem_rows b2, b3, fun b hb => ?_⟩
  have hb2 : OwnS (Env.get [(0, ⟨0, 0, 0, .val .reg RRT .gone X⟩), (1, ⟨0, 0, 0, .val .reg RRT .gone [x]⟩), (2, ⟨1, 0, 0, .val .reg RRT RRM (X ++ [x] : List (List Int))⟩)] 2) (γ' 2) b := hb
  have hl := a4.lv 2 b id hb2
  exact ⟨hl.1, fun c => hl.2.1 (a5 b c), hl.2.2⟩
theorem rowsM_all {f : List Int → Option (List Int)} {T : List Int} : ∀ {m i : Nat} {l : List (List Int)}, Lb.rowsM f T m i = some l → l.length = m ∧ ∀ k, k < m → f ((T.drop ((i + k) * 16)).take 16) = some (l.getD k [])
  | 0, i, l, h => by cases h; exact ⟨rfl, fun k hk => absurd hk (Nat.not_lt_zero _)⟩
  | m + 1, i, l, h => by
    obtain ⟨r, hr, h⟩ := Option.bind_eq_some_iff.1 h
    obtain ⟨s, hs, h⟩ := Option.bind_eq_some_iff.1 h
    cases h
    obtain ⟨h1, h2⟩ := rowsM_all hs
    refine ⟨by simp [h1], fun k hk => ?_⟩
    cases k with
    | zero => exact hr
    | succ k =>
      have := h2 k (by omega)
      rw [show i + (k + 1) = i + 1 + k by omega]
      exact this
/-- one more than the last that is not empty -/
def rcn (l : List (List Int)) : Nat → Nat
  | 0 => 0
  | i + 1 => if 0 < (l.getD i []).length then i + 1 else rcn l i
theorem rcn_le (l : List (List Int)) : ∀ i, rcn l i ≤ i
  | 0 => Nat.le_refl _
  | i + 1 => by
    show (if 0 < (l.getD i []).length then i + 1 else rcn l i) ≤ i + 1
    split
    · exact Nat.le_refl _
    · exact Nat.le_succ_of_le (rcn_le l i)
theorem trimL_take (l : List (List Int)) : ∀ i, i ≤ l.length → Lb.trimL (l.take i) = l.take (rcn l i)
  | 0, _ => rfl
  | i + 1, h => by
    have e : l.take (i + 1) = l.take i ++ [l.getD i []] := by
      rw [List.take_add_one, List.getD_eq_getElem?_getD, List.getElem?_eq_getElem (by omega)]; rfl
    have e2 : Lb.trimL (l.take i ++ [l.getD i []]) = if (l.getD i []).isEmpty = true then Lb.trimL (l.take i) else l.take i ++ [l.getD i []] := by
      unfold Lb.trimL
      rw [List.reverse_append, List.reverse_singleton, List.singleton_append, List.dropWhile_cons]
      split
      · rfl
      · rw [List.reverse_cons, List.reverse_reverse]
    rw [e, e2]
    show _ = l.take (if 0 < (l.getD i []).length then i + 1 else rcn l i)
    by_cases c : (l.getD i []).isEmpty = true
    · have c' : (l.getD i []).length = 0 := by rw [List.isEmpty_iff.1 c]; rfl
      rw [if_pos c, if_neg (by omega)]
      exact trimL_take l i (by omega)
    · have c' : 0 < (l.getD i []).length := by
        rcases Nat.eq_zero_or_pos (l.getD i []).length with q | q
        · exact absurd (by rw [List.eq_nil_of_length_eq_zero q]; rfl) c
        · exact q
      rw [if_neg c, if_pos c', e]
abbrev GT : Ty := .cons (.int .i64) (.sl (.cons (.int .i64) (.int .i64)))
abbrev ET : Ty := .sl (.cons (.int .i64) (.int .i64))
/-- row i of the square, as a value -/
def rowV (TT : List Int) (i : Nat) : List Int := (TT.drop (i * 16)).take 16
theorem cell_of' {W : World} {b i : Nat} {C : Array Value} {t : TypeId} {fz : Nat × Nat} (h : W.heap[b]? = some (.cells C t fz)) : W.cell? ⟨b, i, none⟩ = C[i]? := by
  simp [World.cell?, h]
theorem idxRow {TT : List Int} (lT : TT.length = 256) {i : Nat} (hi : i < 16) (W : World) : (Instr.index 140 (.agg (TT.map (Value.int .i64)).toArray) (.int .i64 i)).run Tryz.prog W = .ok (.agg ((rowV TT i).map (Value.int .i64)).toArray) W := by
  have c1 : Tryz.prog.cellsOf 139 = 16 := by kernel_rfl
  have c2 : (Tryz.prog.info? 139).isSome = true := by kernel_rfl
  obtain ⟨inf, c3⟩ := Option.isSome_iff_exists.1 c2
  have hs := run_sizeOf W c3
  rw [c1] at hs
  have i16 : (i : Int) < 16 := by omega
  simp [Instr.index, asIntOf, run_underlying Tryz.underlying140, i16, hs, part, isAgg, run_underlying Tryz.underlying139, rowV, List.map_take, List.map_drop]
  intro c; omega
theorem mem_take {w : World} {X : List (List Int)} {g : G} {n : Nat} (h : Mem w noB noB RRT RRM X g) (hn : n ≤ X.length) : Mem w noB noB RRT RRM (X.take n) (.hd g.addr n g.cap g.kid) := by
  have hl : g.len = X.length := h.1
  refine ⟨by show n = _; rw [List.length_take]; omega, ?_, fun i hi => ?_⟩
  · rcases h.2.1 with ⟨h1, h2, h3⟩ | ⟨b, o, C, te, h1, h2, h3, h4, h5⟩
    · exact .inl ⟨h1, by show n = 0; omega, h3⟩
    · exact .inr ⟨b, o, C, te, h1, h2, h3, by show n ≤ g.cap; omega, h5⟩
  · have hi' : i < n := hi
    have e : (X.take n).getD i [] = X.getD i [] := by
      rw [List.getD_eq_getElem?_getD, List.getElem?_take_of_lt hi', ← List.getD_eq_getElem?_getD]
    have := h.2.2 i (by omega)
    show At w g.addr (i * RT.size) (cells RT ((X.take n).getD i []) (g.kid i)) ∧ Mem w noB noB RT RM ((X.take n).getD i []) (g.kid i)
    rw [e]
    exact this
theorem tyRR : TyOk Tryz.prog 71 ⟨RRT, [], false⟩ := tySl Tryz.underlying71 (by kernel_rfl) (by kernel_rfl) (by kernel_rfl) (by kernel_rfl) (by kernel_rfl) (by kernel_rfl) trivial
theorem tutOf_holds {O : Fun Γ} (hO : Go.Den.Good Tryz.prog Γ tau O) {a : Lb.GrL} {r : List (List Int) × Bool}
    (hr : Lb.tutOf QT (fun x => (O 25 x : Option Bool)) (fun x => (O 118 x : Option QT.den)) (fun x => (O 119 x : Option (List Int))) (fun x => (O 11 x : Option (List Int))) a = some r) : Go.Den.Holds Tryz.prog Γ tau 120 a r := by
  unfold Lb.tutOf at hr
  obtain ⟨b, hb, hr⟩ := Option.bind_eq_some_iff.1 hr
  intro σ hσ w I F M hM hI hK
  obtain rfl : s120 = σ := Option.some.inj hσ
  have hM' : some [SV.val .reg GT (.sh true) a] = some (M.map Item.sv) := hM
  have hM' := Option.some.inj hM'
  match M, hM', hM, hI with
  | [], h, _, _ => cases h
  | _ :: _ :: _, h, _, _ => simp at h
  | [⟨gsv, gv, gγ⟩], hM', hM, hI =>
    simp only [List.map_cons, List.map_nil, List.cons.injEq, and_true] at hM'
    subst hM'
    let gi : Den.Item := ⟨.val .reg GT (.sh true) a, gv, gγ⟩
    have m0 : gi ∈ [gi] := List.mem_cons_self
    obtain ⟨g1, g2, g3, g4⟩ := hI.ok _ m0
    have g1' : gv = .agg #[.int .i64 a.1, .slice gγ.g.snd.addr gγ.g.snd.len gγ.g.snd.cap] := g1
    subst g1'
    have gno : ∀ b, ¬ OwnS gi.z gi.γ b := fun b hb => Own.sh GT gγ.g true b hb
    have glen : gγ.g.snd.len = a.2.length := g2.2.1
    let D := (tau).dr
    -- an argument that is shared, in a later world
    have items : ∀ (w' : World) (F' : Nat → Prop) (i : Den.Item), i = gi ∨ i = ⟨.val .reg ET (.sh true) a.2, .slice gγ.g.snd.addr gγ.g.snd.len gγ.g.snd.cap, ⟨none, gγ.g.snd⟩⟩ → Wx D I F w w' → (∀ b, w'.heap.size ≤ b → F' b) → Items w' I F' [i] := fun w' F' i hi hx hn => by
      have hf := (hI.ok _ m0).frame (w' := w') fun b hb => hx.old b (hb.elim (fun hb => absurd hb (gno b)) (hI.imm b)) (hb.elim (fun hb => absurd hb (gno b)) .inl)
      have hno : ∀ b, ¬ OwnS i.z i.γ b := fun b => by
        rcases hi with rfl | rfl
        · exact gno b
        · exact fun hb => Own.sh ET gγ.g.snd true b hb
      refine ⟨fun j hj => ?_, fun j hj => ?_, List.pairwise_singleton _ _, fun j hj b hb => ?_, fun b hb => Nat.lt_of_lt_of_le (hI.imm b hb) hx.size, hn⟩
      · rw [List.mem_singleton.1 hj]
        rcases hi with rfl | rfl
        · exact ⟨hf.1, Mem.any hf.2.1, hf.2.2.1, hf.2.2.2⟩
        · exact ⟨rfl, Mem.any hf.2.1.2, Sep.sh ET _ true, rfl⟩
      · rw [List.mem_singleton.1 hj]
        rcases hi with rfl | rfl <;> exact fun _ _ _ _ _ _ _ c => by cases c
      · rw [List.mem_singleton.1 hj] at hb
        exact absurd hb (hno b)
    let W0 := w.alloc (.cells #[.int .i64 a.1, .slice gγ.g.snd.addr gγ.g.snd.len gγ.g.snd.cap] 33)
    have hW0 : Wx D I F w W0 := (Wk.alloc I F w _).x
    have hs0 : W0.heap.size = w.heap.size + 1 := by simp [W0]
    have hC0 : W0.heap[w.heap.size]? = some (.cells #[.int .i64 a.1, .slice gγ.g.snd.addr gγ.g.snd.len gγ.g.snd.cap] 33 (0, 0)) := by
      show (w.heap.push _)[w.heap.size]? = _
      simp
    let J0 : World → Prop := fun w1 => Wx D I F w w1 ∧ TOk (tau) F w1
    have hGO : ∀ W, W = w.alloc (.cells #[.int .i64 a.1, .slice gγ.g.snd.addr gγ.g.snd.len gγ.g.snd.cap] 33) → Calls Tryz.prog 82 #[.agg #[.int .i64 a.1, .slice gγ.g.snd.addr gγ.g.snd.len gγ.g.snd.cap]] W fun e w' => e = .returned (.bool b) ∧ J0 w' ∧ w'.cell? ⟨w.heap.size, 0, none⟩ = some (.int .i64 a.1) ∧ w'.cell? ⟨w.heap.size, 1, none⟩ = some (.slice gγ.g.snd.addr gγ.g.snd.len gγ.g.snd.cap) := by
      rintro W rfl
      let F' : Nat → Prop := fun b => F b ∧ b ≠ w.heap.size
      have hI1 : Items W0 I F' [gi] := items W0 F' gi (.inl rfl) hW0 fun b hb => ⟨hI.new b (by omega), by omega⟩
      have hK1 : TOk (tau) F' W0 := (hK.wk hW0).less fun b hb => hb.1
      refine Calls.mono (hO 25 a b hb s25 rfl W0 I F' [gi] rfl hI1 hK1) fun e w' he => ?_
      cases e with
      | panicked _ => exact he.elim
      | outgrown => exact he.elim
      | returned v =>
        obtain ⟨hw, J, M, N, h1, h2, h3, h4, h5, h6, h7⟩ := he
        have h1' : some [SV.val .reg .bool (.sh false) b] = some (M.map Den.Item.sv) := h1
        have hx1 : Wx D I F W0 w' := ⟨hw.os, hw.tape, hw.output, hw.size, hw.drawn, fun b hb hk => hw.old b hb (hk.imp id fun hk c => hk c.1)⟩
        have hcell : w'.heap[w.heap.size]? = some (.cells #[.int .i64 a.1, .slice gγ.g.snd.addr gγ.g.snd.len gγ.g.snd.cap] 33 (0, 0)) := by
          rw [hw.old _ (by omega) (.inr fun c => c.2 rfl)]
          exact hC0
        refine ⟨?_, ⟨hW0.trans hx1 fun _ c => c, (hK.wk hW0).wk hx1⟩, ?_, ?_⟩
        · match M, Option.some.inj h1' with
          | [], k => cases k
          | _ :: _ :: _, k => simp at k
          | [⟨isv, iv, iγ⟩], k =>
            simp only [List.map_cons, List.map_nil, List.cons.injEq, and_true] at k
            subst k
            have := (h3.ok ⟨_, iv, iγ⟩ (List.mem_append_left _ List.mem_cons_self)).1
            rw [h5]
            exact congrArg Ending.returned this
        · rw [cell_of hcell]; rfl
        · rw [cell_of hcell]; rfl
    -- the end
    have fin : ∀ (W : World) (X : List (List Int)) (bb : Bool) (g' : G), Wx D I F w W → r = (X, bb) → Mem W noB noB RRT RRM X g' → Den.Sep RRT RRM g' → (∀ b, Own RRT RRM g' b → F b ∧ ¬ I b ∧ b < W.heap.size) →
        (Wx D I F w W ∧ ∃ (J : Nat → Prop) (M N : List Den.Item), resSV s120.results ((unProd (Γ.outsL 120) r).take s120.results.length) = some (M.map Item.sv) ∧ backSV s120.params ((unProd (Γ.outsL 120) r).drop s120.results.length) = some (N.map Item.sv) ∧
          Items W J F (M ++ N) ∧ (∀ b, J b → F b ∨ (s120.retain = true ∧ I b)) ∧ Value.tuple #[.slice g'.addr g'.len g'.cap, .bool bb] = retV (M.map Item.v) ∧ N.map Item.v = backOf s120.params ([gi].map Item.v) ∧ (∀ i ∈ M ++ N, ∀ b, OwnS i.z i.γ b → ¬ I b)) := by
      rintro W X bb g' hx rfl hm hs hown
      let i0 : Den.Item := ⟨.val .reg RRT RRM X, .slice g'.addr g'.len g'.cap, ⟨none, g'⟩⟩
      let i1 : Den.Item := ⟨.val .reg .bool (.sh false) bb, .bool bb, ⟨none, .lf⟩⟩
      have mem : ∀ i ∈ [i0, i1] ++ ([] : List Den.Item), i = i0 ∨ i = i1 := fun i hi => by simpa using hi
      refine ⟨hx, fun _ => False, [i0, i1], [], rfl, rfl, ⟨fun i hi => ?_, fun i hi k r v s d p t c => ?_, ?_, fun i hi b hb => ?_, fun b hb => hb.elim, fun b hb => hI.new b (Nat.le_trans hx.size hb)⟩, fun b hb => hb.elim, rfl, rfl, fun i hi b hb => ?_⟩
      · rcases mem i hi with rfl | rfl
        · exact ⟨rfl, mem_rows hm, hs, rfl⟩
        · exact ⟨rfl, trivial, trivial, rfl⟩
      · rcases mem i hi with rfl | rfl <;> cases c
      · exact List.pairwise_cons.2 ⟨fun j hj b _ k => by rw [List.mem_singleton.1 hj] at k; exact k, List.pairwise_singleton _ _⟩
      · rcases mem i hi with rfl | rfl
        · exact ⟨(hown b hb).1, fun k => k, (hown b hb).2.2⟩
        · exact hb.elim
      · rcases mem i hi with rfl | rfl
        · exact (hown b hb).2.1
        · exact hb.elim
    refine (?_ : ∀ Q : Ending → World → Prop, (∀ (W : World) (X : List (List Int)) (bb : Bool) (g' : G), Wx D I F w W → r = (X, bb) → Mem W noB noB RRT RRM X g' → Den.Sep RRT RRM g' → (∀ b, Own RRT RRM g' b → F b ∧ ¬ I b ∧ b < W.heap.size) → Q (.returned (.tuple #[.slice g'.addr g'.len g'.cap, .bool bb])) W) →
      Calls Tryz.prog 53 #[.agg #[.int .i64 a.1, .slice gγ.g.snd.addr gγ.g.snd.len gγ.g.snd.cap]] w Q) _ fun W X bb g' k1 k2 k3 k4 k5 => fin W X bb g' k1 k2 k3 k4 k5
    clear fin
    intro Q fin
    have none_ok : b = false ∨ 9 < gγ.g.snd.len → r = ([], false) → Calls Tryz.prog 53 #[.agg #[.int .i64 a.1, .slice gγ.g.snd.addr gγ.g.snd.len gγ.g.snd.cap]] w Q := fun hbe hr0 =>
      tut_no a.1 gγ.g.snd.addr gγ.g.snd.len gγ.g.snd.cap b hbe w J0 Q (fun W hW => fin W [] false (.hd none 0 0 fun _ => .lf) hW.1 hr0 ⟨rfl, .inl ⟨rfl, rfl, rfl⟩, fun i hi => absurd hi (Nat.not_lt_zero _)⟩ ⟨fun i hi => absurd hi (Nat.not_lt_zero _), fun i _ _ hi => absurd hi (Nat.not_lt_zero _), fun _ i _ hi => absurd hi (Nat.not_lt_zero _)⟩ fun b hb => by
        rcases hb with ⟨a, ha, _⟩ | ⟨i, hi, _⟩
        · cases ha
        · exact absurd hi (Nat.not_lt_zero _)) hGO
    cases b with
    | false => exact none_ok (.inl rfl) (Option.some.inj hr).symm
    | true =>
    rw [cond_true] at hr
    by_cases h9 : a.2.length ≤ 9
    case neg =>
      rw [decide_eq_false h9, cond_false] at hr
      exact none_ok (.inr (by omega)) (Option.some.inj hr).symm
    case pos =>
    rw [decide_eq_true h9, cond_true] at hr
    obtain ⟨T, hT, hr⟩ := Option.bind_eq_some_iff.1 hr
    obtain ⟨l, hl, hr⟩ := Option.bind_eq_some_iff.1 hr
    have hrF := (Option.some.inj hr).symm
    clear hr
    obtain ⟨hl16, hrow⟩ := rowsM_all hl
    generalize hTT : Lb.toI QT T = TT at hl hrow
    have lT : TT.length = 256 := by rw [← hTT, Lb.toI_len numsQ, sizeQ]
    have rlen : ∀ i, i < 16 → (rowV TT i).length = 16 := fun i hi => by unfold rowV; rw [List.length_take, List.length_drop]; omega
    -- the rows that were laid so far
    let OutA : Nat → Value → World → Prop := fun i o W => Wx D I F w W ∧ ∃ g, o = .slice g.addr g.len g.cap ∧ Mem W noB noB RRT RRM (l.take i) g ∧ Den.Sep RRT RRM g ∧ ∀ b, Own RRT RRM g b → F b ∧ ¬ I b ∧ b < W.heap.size
    let J : Nat → Value → Nat → World → Prop := fun i o rows W => OutA i o W ∧ rows = rcn l i
    let J1 : Nat → Value → Nat → Value → World → Prop := fun i o rows v W => OutA i o W ∧ rows = rcn l i ∧ i < 16 ∧ ∃ (K : Nat → Prop) (γ : Gs) (tr : List Int), (O 119 (rowV TT i) : Option (List Int)) = some tr ∧ (O 11 tr : Option (List Int)) = some (l.getD i []) ∧ SlotOk W K F ⟨0, 0, 0, .val .reg RT (.sh true) tr⟩ v γ ∧ ∀ b, K b → b < W.heap.size
    let J2 : Nat → Value → Nat → Option Addr → Nat → Nat → World → Prop := fun i o rows ra rl rc W => rows = rcn l i ∧ i < 16 ∧ Wx D I F w W ∧ ∃ g gr, o = .slice g.addr g.len g.cap ∧ Mem W noB noB RRT RRM (l.take i) g ∧ Den.Sep RRT RRM g ∧ (∀ b, Own RRT RRM g b → F b ∧ ¬ I b ∧ b < W.heap.size) ∧
      ra = gr.addr ∧ rl = gr.len ∧ rc = gr.cap ∧ Mem W noB noB RT RM (l.getD i []) gr ∧ ∀ b, bl' gr b → F b ∧ ¬ I b ∧ b < W.heap.size ∧ ¬ Own RRT RRM g b
    refine tut_walk a.1 gγ.g.snd.addr gγ.g.snd.len gγ.g.snd.cap (by omega) (TT.map (Value.int .i64)).toArray (fun i => ((rowV TT i).map (Value.int .i64)).toArray) w Q J0 J J1 J2 hGO ?_ ?_ ?_ ?_ ?_ ?_ ?_ ?_
    · rintro W ⟨hx, hK1⟩
      refine Calls.mono (hO 118 a.2 T hT s118 rfl W I F [⟨.val .reg ET (.sh true) a.2, .slice gγ.g.snd.addr gγ.g.snd.len gγ.g.snd.cap, ⟨none, gγ.g.snd⟩⟩] rfl (items W F _ (.inr rfl) hx fun b hb => hI.new b (Nat.le_trans hx.size hb)) hK1) fun e w' he => ?_
      cases e with
      | panicked _ => exact he.elim
      | outgrown => exact he.elim
      | returned v =>
        obtain ⟨hw, J', M, N, h1, h2, h3, h4, h5, h6, h7⟩ := he
        have h1' : some [SV.val .reg QT (Ty.mine QT) T] = some (M.map Den.Item.sv) := h1
        have hx' : Wx D I F w w' := hx.trans hw fun _ c => c
        match M, Option.some.inj h1' with
        | [], k => cases k
        | _ :: _ :: _, k => simp at k
        | [⟨isv, iv, iγ⟩], k =>
          simp only [List.map_cons, List.map_nil, List.cons.injEq, and_true] at k
          subst k
          have v1 : iv = .agg (cells QT T iγ.g).toArray := (h3.ok ⟨_, iv, iγ⟩ (List.mem_append_left _ List.mem_cons_self)).1
          rw [cells_nums numsQ, hTT] at v1
          refine ⟨by rw [h5, ← v1]; rfl, ⟨hx', .hd none 0 0 fun _ => .lf, rfl, ⟨rfl, .inl ⟨rfl, rfl, rfl⟩, fun i hi => absurd hi (Nat.not_lt_zero _)⟩, ⟨fun i hi => absurd hi (Nat.not_lt_zero _), fun i _ _ hi => absurd hi (Nat.not_lt_zero _), fun _ i _ hi => absurd hi (Nat.not_lt_zero _)⟩, fun b hb => ?_⟩, rfl⟩
          rcases hb with ⟨a, ha, _⟩ | ⟨i, hi, _⟩
          · cases ha
          · exact absurd hi (Nat.not_lt_zero _)
    · intro i hi W
      exact idxRow lT hi W
    · intro i hi
      simp [rlen i hi]
    · intro i
      simp only [List.all_toArray, List.all_map, List.all_eq_true]
      exact fun v _ => rfl
    · rintro i o rows W ⟨⟨hx, g, rfl, o2, o3, o4⟩, hrc⟩ hi
      have hrw := hrow i hi
      rw [Nat.zero_add] at hrw
      obtain ⟨tr, htr, hcp⟩ := Option.bind_eq_some_iff.1 hrw
      let W' := W.alloc (.cells ((rowV TT i).map (Value.int .i64)).toArray 139)
      let gx : G := .hd (some ⟨W.heap.size, 0, none⟩) 16 16 fun _ => .lf
      have hs1 : W'.heap.size = W.heap.size + 1 := by simp [W']
      have old1 : ∀ b, b < W.heap.size → W'.heap[b]? = W.heap[b]? := fun b hb => (Wk.alloc noB noB W _).old b hb (.inr id)
      have hC : W'.heap[W.heap.size]? = some (.cells ((rowV TT i).map (Value.int .i64)).toArray 139 (0, 0)) := by
        show (W.heap.push _)[W.heap.size]? = _
        simp
      have rl := rlen i hi
      have M0 : Mem W' noB noB RT RM (rowV TT i) gx := by
        refine ⟨rl.symm, .inr ⟨W.heap.size, 0, _, _, rfl, hC, by simp [gx, rl, Ty.size, G.cap], Nat.le_refl _, Nat.le_of_ble_eq_true rfl⟩, fun j hj => ⟨?_, trivial⟩⟩
        have hj16 : j < 16 := hj
        show At W' (some ⟨W.heap.size, 0, none⟩) (j * 1) [.int .i64 ((rowV TT i).getD j 0)]
        rw [Nat.mul_one]
        intro k v hv
        cases k with
        | succ k => simp at hv
        | zero =>
          simp only [List.getElem?_cons_zero, Option.some.injEq] at hv
          subst hv
          refine ⟨_, rfl, ?_⟩
          rw [Addr.add_mk, Nat.add_zero, Nat.zero_add, cell_of' hC]
          simp [List.getD_eq_getElem?_getD, List.getElem?_eq_getElem (show j < (rowV TT i).length by omega)]
      let I' : Nat → Prop := fun b => I b ∨ b = W.heap.size
      let F' : Nat → Prop := fun b => F b ∧ ¬ Own RRT RRM g b
      have okr : Mem W' I' F' RT (.sh true) (rowV TT i) gx := Mem.view M0 rfl (fun _ => rfl) (fun b (hb : False) => hb.elim) fun b hb => ⟨.inr (by
        obtain ⟨a, ha, hab⟩ := own_row.1 hb
        cases ha; exact hab.symm), fun c => by cases c⟩
      have hx1 : Wx D I F w W' := hx.trans (Wk.alloc I F W _).x fun _ c => c
      have hItems : Items W' I' F' [⟨.val .reg RT (.sh true) (rowV TT i), .slice (some ⟨W.heap.size, 0, none⟩) 16 16, ⟨none, gx⟩⟩] := by
        refine ⟨fun j hj => ?_, fun j hj => ?_, List.pairwise_singleton _ _, fun j hj b hb => ?_, fun b hb => ?_, fun b hb => ⟨hI.new b (Nat.le_trans hx1.size hb), fun c => by have := (o4 b c).2.2; omega⟩⟩
        · rw [List.mem_singleton.1 hj]; exact ⟨rfl, okr, Sep.sh RT _ true, rfl⟩
        · rw [List.mem_singleton.1 hj]; exact fun _ _ _ _ _ _ _ c => by cases c
        · rw [List.mem_singleton.1 hj] at hb; exact absurd hb (Own.sh RT gx true b)
        · rcases hb with hb | hb
          · exact Nat.lt_of_lt_of_le (hI.imm b hb) hx1.size
          · omega
      refine Calls.mono (hO 119 (rowV TT i) tr htr s119 rfl W' I' F' [⟨.val .reg RT (.sh true) (rowV TT i), .slice (some ⟨W.heap.size, 0, none⟩) 16 16, ⟨none, gx⟩⟩] rfl hItems ((hK.wk hx1).less fun b hb => hb.1)) fun e w' he => ?_
      cases e with
      | panicked _ => exact he.elim
      | outgrown => exact he.elim
      | returned v =>
        obtain ⟨hw, K, M, N, h1, h2, h3, h4, h5, h6, h7⟩ := he
        have h1' : some [SV.val .reg RT (.sh true) tr] = some (M.map Den.Item.sv) := h1
        have hx' : Wx D I F W' w' := ⟨hw.os, hw.tape, hw.output, hw.size, hw.drawn, fun b hb hk => hw.old b hb (hk.imp .inl fun hk c => hk c.1)⟩
        match M, Option.some.inj h1' with
        | [], k => cases k
        | _ :: _ :: _, k => simp at k
        | [⟨isv, iv, iγ⟩], k =>
          simp only [List.map_cons, List.map_nil, List.cons.injEq, and_true] at k
          subst k
          have hok := h3.ok ⟨_, iv, iγ⟩ (List.mem_append_left _ List.mem_cons_self)
          refine ⟨v, rfl, ⟨hx1.trans hx' fun _ c => c, g, rfl, ?_, o3, fun b hb => ⟨(o4 b hb).1, (o4 b hb).2.1, by have := (o4 b hb).2.2; have := hw.size; omega⟩⟩, hrc, hi, K, iγ, tr, htr, hcp, ?_, h3.imm⟩
          · exact mem_rows (o2.frame (w' := w') fun b hb => hb.elim (fun hb => (hw.old b (by have := (o4 b hb).2.2; omega) (.inr fun c => c.2 hb)).trans (old1 b (o4 b hb).2.2)) fun hb => hb.elim)
          · have hv : v = iv := h5
            rw [hv]
            exact ⟨hok.1, Mem.any hok.2.1, hok.2.2.1, hok.2.2.2⟩
    · rintro i o rows v W ⟨⟨hx, g, rfl, o2, o3, o4⟩, hrc, hi, K, γ, tr, htr, hcp, hok, hKi⟩
      let I' : Nat → Prop := fun b => I b ∨ K b
      let F' : Nat → Prop := fun b => F b ∧ ¬ Own RRT RRM g b
      have hItems : Items W I' F' [⟨.val .reg RT (.sh true) tr, v, γ⟩] := by
        refine ⟨fun j hj => ?_, fun j hj => ?_, List.pairwise_singleton _ _, fun j hj b hb => ?_, fun b hb => ?_, fun b hb => ⟨hI.new b (Nat.le_trans hx.size hb), fun c => by have := (o4 b c).2.2; omega⟩⟩
        · rw [List.mem_singleton.1 hj]; exact ⟨hok.1, Mem.any (hok.2.1.mono (fun b hb => .inr hb) fun _ _ h => h), hok.2.2.1, hok.2.2.2⟩
        · rw [List.mem_singleton.1 hj]; exact fun _ _ _ _ _ _ _ c => by cases c
        · rw [List.mem_singleton.1 hj] at hb; exact absurd hb (Own.sh RT γ.g true b)
        · rcases hb with hb | hb
          · exact Nat.lt_of_lt_of_le (hI.imm b hb) hx.size
          · exact hKi b hb
      refine Calls.mono (hO 11 tr (l.getD i []) hcp s11 rfl W I' F' [⟨.val .reg RT (.sh true) tr, v, γ⟩] rfl hItems ((hK.wk hx).less fun b hb => hb.1)) fun e w' he => ?_
      cases e with
      | panicked _ => exact he.elim
      | outgrown => exact he.elim
      | returned v =>
        obtain ⟨hw, J', M, N, h1, h2, h3, h4, h5, h6, h7⟩ := he
        have h1' : some [SV.val .reg RT RM (l.getD i [])] = some (M.map Den.Item.sv) := h1
        have hx' : Wx D I F W w' := ⟨hw.os, hw.tape, hw.output, hw.size, hw.drawn, fun b hb hk => hw.old b hb (hk.imp .inl fun hk c => hk c.1)⟩
        match M, Option.some.inj h1', h3, h5, h7 with
        | [], k, _, _, _ => cases k
        | _ :: _ :: _, k, _, _, _ => simp at k
        | [⟨isv, iv, iγ⟩], k, h3, h5, h7 =>
          simp only [List.map_cons, List.map_nil, List.cons.injEq, and_true] at k
          subst k
          have mm : (⟨.val .reg RT RM (l.getD i []), iv, iγ⟩ : Den.Item) ∈ [⟨.val .reg RT RM (l.getD i []), iv, iγ⟩] ++ N := List.mem_append_left _ List.mem_cons_self
          obtain ⟨c1, c2, c3, c4⟩ := h3.ok _ mm
          have hv : v = .slice iγ.g.addr iγ.g.len iγ.g.cap := (show v = iv from h5).trans c1
          subst hv
          refine ⟨iγ.g.addr, iγ.g.len, iγ.g.cap, rfl, hrc, hi, hx.trans hx' fun _ c => c, g, iγ.g, rfl, ?_, o3, fun b hb => ⟨(o4 b hb).1, (o4 b hb).2.1, Nat.lt_of_lt_of_le (o4 b hb).2.2 hw.size⟩, rfl, rfl, rfl, mem_row c2, fun b hb => ?_⟩
          · exact mem_rows (o2.frame (w' := w') fun b hb => hb.elim (fun hb => hw.old b (o4 b hb).2.2 (.inr fun c => c.2 hb)) fun hb => hb.elim)
          · have hl := h3.lv _ mm b (own_row.2 hb)
            have hn := h7 _ mm b (own_row.2 hb)
            exact ⟨hl.1.1, fun c => hn (.inl c), hl.2.2, hl.1.2⟩
    · rintro i o rows ra rl rc W ⟨hrc, hi, hx, g, gr, rfl, o2, o3, o4, rfl, rfl, rfl, r2, r4⟩
      have hX : List.length (l.take i) + 1 ≤ room := by rw [List.length_take]; unfold room; omega
      obtain ⟨v, w', k1, k2, g', k3, k4, k5, k6⟩ := append_new (P := Tryz.prog) (T := 71) (E := 34) (D := D) (I := I) (F := F) tyRR (fun b hb => Nat.lt_of_lt_of_le (hI.imm b hb) hx.size) (fun b hb => hI.new b (Nat.le_trans hx.size hb)) o2 o3 o4 r2 r4 hX
      refine ⟨v, w', k1, ⟨hx.trans k2 fun _ c => c, g', k3, ?_, k5, k6⟩, ?_⟩
      · have e : l.take (i + 1) = l.take i ++ [l.getD i []] := by
          rw [List.take_add_one, List.getD_eq_getElem?_getD, List.getElem?_eq_getElem (by omega)]; rfl
        rw [e]; exact k4
      · have hgl : gr.len = (l.getD i []).length := r2.1
        rw [hgl, hrc]
        rfl
    · rintro o rows W ⟨⟨hx, g, rfl, o2, o3, o4⟩, hrc⟩
      have hrle : rows ≤ 16 := by rw [hrc]; exact rcn_le l 16
      rw [List.take_of_length_le (by omega)] at o2
      have hgl : g.len = l.length := o2.1
      have hle : g.len ≤ g.cap := o2.2.1.le
      refine ⟨g.addr, g.len, g.cap, rfl, by omega, ?_⟩
      have hr' : r = (l.take rows, true) := by
        rw [hrF, ← List.take_of_length_le (show l.length ≤ 16 by omega), trimL_take l 16 (by omega), hrc, List.take_of_length_le (show l.length ≤ 16 by omega)]
      have own' : ∀ b, Own RRT RRM (.hd g.addr rows g.cap g.kid) b → Own RRT RRM g b := fun b hb => by
        rcases hb with hb | ⟨k, hk, hb⟩
        · exact .inl hb
        · exact .inr ⟨k, Nat.lt_of_lt_of_le hk (by show rows ≤ g.len; omega), hb⟩
      exact fin W (l.take rows) true (.hd g.addr rows g.cap g.kid) hx hr' (mem_take o2 (by omega)) ⟨fun i hi => o3.1 i (Nat.lt_of_lt_of_le hi (by show rows ≤ g.len; omega)), fun i j b hi hj => o3.2.1 i j b (Nat.lt_of_lt_of_le hi (by show rows ≤ g.len; omega)) (Nat.lt_of_lt_of_le hj (by show rows ≤ g.len; omega)), fun a i ha hi => o3.2.2 a i ha (Nat.lt_of_lt_of_le hi (by show rows ≤ g.len; omega))⟩ fun b hb => o4 b (own' b hb)
end Go.Proofs.YthhogfhffpfkdaaGreatDoor.D

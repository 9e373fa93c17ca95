/-
  Several texts, one behind the other.
-/
import Derived.Test.YthhogfhffpfkdaaGreatDoorCtx
import Derived.WalkKit
import Derived.BigCall
import Derived.BigGuard
import Derived.Lib.Hide
import Derived.OneCell
import Derived.Lib.AppendZeros
import Derived.Deep.RegionLaw
import Derived.StillTailTactics
import Derived.Deep.QuietTactic
import Derived.BigQuiet
import Derived.Laws.EntriesVeiled
import Derived.Test.YthhogfhffpfkdaaGreatDoorDnC
import Derived.Test.YthhogfhffpfkdaaGreatDoorRd
import Derived.Deep.AppendLies
import Derived.Test.YthhogfhffpfkdaaGreatDoorTuh
namespace Go.Proofs.YthhogfhffpfkdaaGreatDoor
open Go Go.Den Go.RowKit
set_option linter.unusedVariables false
set_option linter.unusedSimpArgs false
set_option maxRecDepth 100000
theorem step_append_run {P : Program} {ops : Array Oper} {o : Oper} {a : Act} {w : World} {K : Act → World → Prop} {Q : Exit → Act → World → Prop} {E : Prop} (hg : o.guard = none) (s x : Operand) (t tn : TypeId)
    (ho : o.op = .call { callee := .builtin .append, args := #[s, x], argTypes := #[t, tn] }) (vs vx : Value) (hs : a.eval s = vs) (hx : a.eval x = vx)
    (v' : Value) (w' : World) (hr : (Builtin.append_ #[t, tn] o.type #[vs, vx]).run P w = .ok v' w') (h : K (a.put o.dst v') w') : if Region.wanted o (yielded ops a.tmps) = true then Oper.wp P o a w K Q else E := by
  have hw : Region.wanted o (yielded ops a.tmps) = true := by simp [Region.wanted, hg]
  rw [if_pos hw]
  exact Lib.wp_append_run w s x t tn ho vs vx hs hx v' w' hr h
set_option maxHeartbeats 2000000 in
theorem trA_walk (n : Int) (ga : Option Addr) (gl gc : Nat) (gb ob pb : Nat) (need : Nat) (hn : n = (need : Int) + 1) (hneed : need ≤ 5) (hgl : gl ≤ 12) (isT : List Int → Option Bool) (cp : List Int → Option (List Int))
  (J : List (List Int) → Value → World → Prop) (J1 : List (List Int) → Value → List Int → Option Addr → Nat → Nat → World → Prop) (J2 : List (List Int) → Value → List Int → World → World → Prop)
  (TR : List Int → Option Addr → Nat → Nat → World → Prop) (Kp : World → World → Prop)
  (hcells : ∀ o ov w, J o ov w → w.cell? ⟨gb, 0, none⟩ = some (.int .i64 n) ∧ w.cell? ⟨gb, 1, none⟩ = some (.slice ga gl gc) ∧ w.cell? ⟨ob, 0, none⟩ = some ov ∧ w.cell? ⟨pb, 0, none⟩ = some (.func (.func 92) #[] #[.pointer (some ⟨gb, 0, none⟩), .pointer (some ⟨ob, 0, none⟩), .pointer (some ⟨pb, 0, none⟩)]))
  (hJ1c : ∀ o ov t a l c w, J1 o ov t a l c w → w.cell? ⟨ob, 0, none⟩ = some ov)
  (htr : ∀ t a l c w, TR t a l c w → l = t.length ∧ l ≤ c ∧ (a = none → c = 0) ∧ (∀ x, a = some x → x.spot = none))
  (hkt : ∀ t a l c w w', Kp w w' → TR t a l c w → TR t a l c w') (hk0 : ∀ w, Kp w w) (hk2 : ∀ w w' w'', Kp w w' → Kp w' w'' → Kp w w'')
  (hdr : ∀ o ov w, J o ov w → ∀ m, J o ov (w.drewN m) ∧ Kp w (w.drewN m))
  (hIs : ∀ o ov t a l c w, J o ov w → TR t a l c w → ∀ b, isT t = some b → Calls Tryz.prog 93 #[.agg #[.int .i64 n, .slice ga gl gc], .slice a l c] w fun e w' => e = .returned (.bool b) ∧ J o ov w' ∧ Kp w w')
  (hCp : ∀ o ov t a l c w cc, o.length ≤ 100000 → J o ov w → TR t a l c w → cp t = some cc → Calls Tryz.prog 31 #[.slice a l c] w fun e w' => ∃ a' l' c', e = .returned (.slice a' l' c') ∧ J1 o ov cc a' l' c' w' ∧ Kp w w')
  (hAo : ∀ o ov t a l c w, J1 o ov t a l c w → ∃ a3 l3 c3 w3, (Builtin.append_ #[71, 71] 71 #[ov, .slice (some ⟨w.heap.size, 0, none⟩) 1 1]).run Tryz.prog (w.alloc (.cells #[.slice a l c] 34)) = .ok (.slice a3 l3 c3) w3 ∧ J2 o (.slice a3 l3 c3) t w w3)
  (hSt : ∀ o v t w0 w, J2 o v t w0 w → (∃ old, w.cell? ⟨ob, 0, none⟩ = some old) ∧ w.frozen? ⟨ob, 0, none⟩ = false ∧ J (o ++ [t]) v (w.setCell ⟨ob, 0, none⟩ v) ∧ Kp w0 (w.setCell ⟨ob, 0, none⟩ v))
  (hAt : ∀ o ov t a l c w (k : Nat), k < gl → t.length ≤ 12 → J o ov w → TR t a l c w → ∃ a' l' c' w3, (Builtin.append_ #[34, 34] 34 #[.slice a l l, .slice (some ⟨w.heap.size, 0, none⟩) 1 1]).run Tryz.prog (w.alloc (.cells #[.int .i64 k] 3)) = .ok (.slice a' l' c') w3 ∧ J o ov w3 ∧ TR (t ++ [(k : Int)]) a' l' c' w3 ∧ Kp w w3)
  (d : Nat) (hd : d ≤ gl)
  (hrec : ∀ d', d' < d → ∀ t a l c o ov w r, t.length + d' ≤ gl → J o ov w → TR t a l c w → Lb.trP isT cp need gl d' t o = some r → Calls Tryz.prog 92 #[.int .i64 ((gl - d' : Nat) : Int), .slice a l c, .pointer (some ⟨gb, 0, none⟩), .pointer (some ⟨ob, 0, none⟩), .pointer (some ⟨pb, 0, none⟩)] w fun e w' => e = .returned (.tuple #[]) ∧ (∃ v, J r v w') ∧ Kp w w')
  (t : List Int) (a : Option Addr) (l c : Nat) (o : List (List Int)) (ov : Value) (w : World) (r : List (List Int)) (htl : t.length + d ≤ gl) (hJ : J o ov w) (hT : TR t a l c w) (hr : Lb.trP isT cp need gl d t o = some r)
  : Calls Tryz.prog 92 #[.int .i64 ((gl - d : Nat) : Int), .slice a l c, .pointer (some ⟨gb, 0, none⟩), .pointer (some ⟨ob, 0, none⟩), .pointer (some ⟨pb, 0, none⟩)] w fun e w' => e = .returned (.tuple #[]) ∧ (∃ v, J r v w') ∧ Kp w w' := by
  have HC := Lib.hid hcells
  have HJ1c := Lib.hid hJ1c
  have Hkt := Lib.hid hkt
  have Hk2 := Lib.hid hk2
  have Hk0 := Lib.hid hk0
  have Hdr := Lib.hid hdr
  have HIs := Lib.hid hIs
  have HCp := Lib.hid hCp
  have HAo := Lib.hid hAo
  have HSt := Lib.hid hSt
  have HAt := Lib.hid hAt
  have Hrec := Lib.hid hrec
  have Htr := Lib.hid htr
  have Hr := Lib.hid hr
  obtain ⟨t1, t2, t3, t5⟩ := htr _ _ _ _ _ hT
  obtain ⟨c1, c2, c3, c4⟩ := hcells _ _ _ hJ
  have T1 := Lib.hid t1
  have HTL := Lib.hid htl
  clear htl
  clear hcells hJ1c hkt hk2 hk0 hdr hIs hCp hAo hSt hAt hrec htr hr
  subst hn
  by_cases hl : l = need
  · have hl' : (l : Int) = (need : Int) + 1 - 1 := by omega
    obtain ⟨b, hb, hr, ho⟩ : ∃ b, isT t = some b ∧ cond b ((cp t).bind fun c => some (o ++ [c])) (some o) = some r ∧ o.length ≤ 100000 := by
      have h0 : Lb.trLeaf isT cp t o = some r := by
        have := Hr.out
        cases d with
        | zero =>
          unfold Lb.trP at this
          rw [if_pos (by omega)] at this
          exact this
        | succ d =>
          unfold Lb.trP at this
          rw [if_pos (by omega)] at this
          exact this
      unfold Lb.trLeaf at h0
      by_cases q : o.length ≤ 100000
      · rw [decide_eq_true q, cond_true] at h0
        obtain ⟨b, hb, h⟩ := Option.bind_eq_some_iff.1 h0
        exact ⟨b, hb, h, q⟩
      · rw [decide_eq_false q] at h0
        cases h0
    have HI := Lib.hid (HIs.out _ _ _ _ _ _ _ hJ hT b hb)
    have HL := Lib.hid hl
    have HO := Lib.hid ho
    clear HIs Hr hb hl t1 ho
    cases b with
    | false =>
      obtain rfl : o = r := Option.some.inj hr
      go_enter Tryz.func92, Tryz.ntmps92
      go_wp2_with (go_at_call 93; refine (HI.out).mono ?_; rintro e w1 ⟨rfl, hJ1, hK1⟩)
      refine bodyPost_ret (results_none rfl _ _ _) rfl ?_; exact ⟨rfl, ⟨_, hJ1⟩, hK1⟩
    | true =>
      obtain ⟨cc, hcc, hr⟩ := Option.bind_eq_some_iff.1 hr
      obtain rfl : o ++ [cc] = r := Option.some.inj hr
      go_enter Tryz.func92, Tryz.ntmps92
      go_wp2_with (go_at_call 93; refine (HI.out).mono ?_; rintro e w1 ⟨rfl, hJ1, hK1⟩)
      have hJ1d := (Hdr.out _ _ _ hJ1 1).1
      have hT1d := Hkt.out _ _ _ _ _ _ (Hk2.out _ _ _ hK1 (Hdr.out _ _ _ hJ1 1).2) hT
      have HCq := Lib.hid (HCp.out _ _ _ _ _ _ _ _ HO.out hJ1d hT1d hcc)
      have c5 := (HC.out _ _ _ hJ1).2.2.1
      clear c1 c2 c3 c4
      go_region_law (first
        | (refine step_append_run rfl _ _ _ _ rfl _ _ rfl rfl _ _ hr3 ?_)
        | (go_simp; go_at_call 31; refine (HCq.out).mono ?_; rintro e w2 ⟨a2, l2, c2, rfl, hJ2, hK2⟩; obtain ⟨a3, l3, c3, w3, hr3, hJ3⟩ := HAo.out _ _ _ _ _ _ _ hJ2; have c6 := HJ1c.out _ _ _ _ _ _ _ hJ2; have c7 := (World.cell?_alloc_lt w2 (.cells #[.slice a2 l2 c2] 34) _ (World.block_lt_of_cell? w2 _ c6)).trans c6; obtain ⟨⟨old, d1⟩, d2, hJ4, hK4⟩ := HSt.out _ _ _ _ _ hJ3))
      all_goals (go_wp2; refine bodyPost_ret (results_none rfl _ _ _) rfl ?_; exact ⟨rfl, ⟨_, hJ4⟩, Hk2.out _ _ _ hK1 (Hk2.out _ _ _ (Hdr.out _ _ _ hJ1 1).2 (Hk2.out _ _ _ hK2 hK4))⟩)
  · have hl' : ¬ (l : Int) = (need : Int) := by omega
    have hlt : ¬ t.length = need := by omega
    have hbq : ((l : Int) == (need : Int)) = false := by
      rw [beq_eq_false_iff_ne]
      omega
    have T2 : (l : Int) ≤ (c : Int) := by omega
    have HL := Lib.hid hlt
    clear hl hlt t1 HIs HCp HAo HSt HJ1c
    go_enter Tryz.func92, Tryz.ntmps92
    go_wp2
    go_loopw [7] (fun k wr => ∃ j : Nat, gl - d ≤ j ∧ j ≤ gl ∧ k = .int .i64 j ∧ ∃ o' ov', J o' ov' wr ∧ Kp w wr ∧ Hid (Lb.trP isT cp need gl (gl - j) t o' = some r)) (fun k _ => gl - (intOf k).toNat)
    case atStart => exact ⟨gl - d, Nat.le_refl _, by omega, rfl, o, ov, hJ, Hk0.out _, Lib.hid (by rw [show gl - (gl - d) = d by omega]; exact Hr.out)⟩
    case round =>
      obtain ⟨j, hj0, hj1, rfl, o', ov', hJ', hK', hr'⟩ := hrel
      clear c1 c2 c3 c4
      obtain ⟨c1, c2, c3, c4⟩ := HC.out _ _ _ hJ'
      by_cases hjl : j < gl
      · have hjI : (j : Int) < (gl : Int) := by omega
        obtain ⟨d', o2, hd', e2, h1, h2⟩ : ∃ d' o2, d' < d ∧ gl - j = d' + 1 ∧ Lb.trP isT cp need gl d' (t ++ [(j : Int)]) o' = some o2 ∧ Lb.trP isT cp need gl d' t o2 = some r := by
          have := hr'.out
          obtain ⟨d', hd'⟩ : ∃ d', gl - j = d' + 1 := ⟨gl - j - 1, by omega⟩
          rw [hd'] at this
          unfold Lb.trP at this
          rw [if_neg HL.out] at this
          obtain ⟨o2, h1, h2⟩ := Option.bind_eq_some_iff.1 this
          rw [show gl - (d' + 1) = j by omega] at h1
          exact ⟨d', o2, by omega, hd', h1, h2⟩
        have hw : IntKind.i64.wrap ((j : Int) + 1) = (j : Int) + 1 := by
          simp [IntKind.wrap, IntKind.bits, IntKind.signed]
          omega
        have hJd : J o' ov' wr.drew := (Hdr.out _ _ _ hJ' 1).1
        have hKd : Kp w wr.drew := Hk2.out _ _ _ hK' (Hdr.out _ _ _ hJ' 1).2
        have hTd := Hkt.out _ _ _ _ _ _ hKd hT
        obtain ⟨a3, l3, c3, w3, hr3, hJ3, hT3, hK3⟩ := HAt.out _ _ _ _ _ _ _ j hjl (by have := HTL.out; omega) hJd hTd
        have HR := Hrec.out d' hd' _ _ _ _ _ _ _ _ (by rw [List.length_append, List.length_singleton]; have := HTL.out; omega) hJ3 hT3 h1
        rw [show ((gl - d' : Nat) : Int) = (j : Int) + 1 by omega] at HR
        have HR := Lib.hid HR
        have c5 := (HC.out _ _ _ hJ3).2.2.2
        have c6 := (World.cell?_alloc_lt wr (.cells #[.int .i64 j] 3) _ (World.block_lt_of_cell? wr _ c4)).trans c4
        go_wp2
        go_region_law (first
          | (refine step_append_run rfl _ _ _ _ rfl _ _ rfl rfl _ _ hr3 ?_)
          | (go_simp; go_at_call 92; refine (HR.out).mono ?_; rintro e w4 ⟨rfl, ⟨v5, hJ5⟩, hK5⟩))
        all_goals (go_wp2; first | exact ⟨⟨j + 1, by omega, by omega, rfl, o2, v5, hJ5, Hk2.out _ _ _ hKd (Hk2.out _ _ _ hK3 hK5), Lib.hid (by rw [show gl - (j + 1) = d' by omega]; exact h2)⟩, by simp only [intOf]; omega⟩ | exact ⟨⟨.int .i64 ((j : Int) + 1), _, _, _, _, _, _, _, _, _, _, _, _, _, _, _, _, _, _, _, _, ⟨j + 1, by omega, by omega, rfl, o2, v5, hJ5, Hk2.out _ _ _ hKd (Hk2.out _ _ _ hK3 hK5), Lib.hid (by rw [show gl - (j + 1) = d' by omega]; exact h2)⟩, rfl⟩, by simp only [intOf]; omega⟩)
      · obtain rfl : j = gl := by omega
        have he : o' = r := by
          have := hr'.out
          rw [Nat.sub_self] at this
          unfold Lb.trP at this
          rw [if_neg HL.out] at this
          exact Option.some.inj this
        subst he
        go_wp2
        go_end0
        exact ⟨rfl, ⟨_, hJ'⟩, hK'⟩
end Go.Proofs.YthhogfhffpfkdaaGreatDoor
namespace Go.Proofs.YthhogfhffpfkdaaGreatDoor
open Go Go.Den Go.RowKit
set_option linter.unusedVariables false
set_option linter.unusedSimpArgs false
set_option maxRecDepth 100000
set_option maxHeartbeats 1000000 in
theorem trB_walk (n : Int) (ea : Option Addr) (el ec : Nat) (c : Int) (hc : c ≤ 400) (w : World) (Post : Ending → World → Prop) (J0 J1 : World → Prop)
  (hGO : ∀ W, W = w.alloc (.cells #[.int .i64 n, .slice ea el ec] 33) → Calls Tryz.prog 82 #[.agg #[.int .i64 n, .slice ea el ec]] W fun e w' => e = .returned (.bool true) ∧ J0 w' ∧ w'.cell? ⟨w.heap.size, 0, none⟩ = some (.int .i64 n) ∧ w'.cell? ⟨w.heap.size, 1, none⟩ = some (.slice ea el ec))
  (hCT : ∀ W, J0 W → Calls Tryz.prog 89 #[.agg #[.int .i64 n, .slice ea el ec]] W fun e w' => e = .returned (.int .i64 c) ∧ J1 w')
  (hPk : ∀ W, J1 W → Calls Tryz.prog 92 #[.int .i64 0, .slice none 0 0, .pointer (some ⟨w.heap.size, 0, none⟩), .pointer (some ⟨W.heap.size, 0, none⟩), .pointer (some ⟨W.heap.size + 1, 0, none⟩)]
    ((W.alloc (.cells #[.slice none 0 0] 71)).alloc (.cells #[.func (.func 92) #[] #[.pointer (some ⟨w.heap.size, 0, none⟩), .pointer (some ⟨W.heap.size, 0, none⟩), .pointer (some ⟨W.heap.size + 1, 0, none⟩)]] 118)) fun e w' => e = .returned (.tuple #[]) ∧ ∃ a l c, w'.cell? ⟨W.heap.size, 0, none⟩ = some (.slice a l c) ∧ Post (.returned (.tuple #[.slice a l c, .bool true])) w')
  : Calls Tryz.prog 38 #[.agg #[.int .i64 n, .slice ea el ec]] w Post := by
  have HGO := Lib.hid hGO
  have HCT := Lib.hid hCT
  have HPk := Lib.hid hPk
  clear hGO hCT hPk
  have h4 : ¬ c > 400 := by omega
  go_enter Tryz.func38, Tryz.ntmps38
  go_wp2_with (first
    | (go_at_call 82; refine (HGO.out _ rfl).mono ?_; rintro e w1 ⟨rfl, hw1, hw2, hw3⟩)
    | (go_at_call 89; refine (HCT.out _ hw1).mono ?_; rintro e w2 ⟨rfl, hw4⟩)
    | (go_at_call 92; refine (HPk.out _ hw4).mono ?_; rintro e w3 ⟨rfl, a3, l3, c3, hw5, hw6⟩))
  exact hw6
set_option maxHeartbeats 1000000 in
theorem trB_no (n : Int) (ea : Option Addr) (el ec : Nat) (b : Bool) (c : Int) (hb : b = false ∨ 400 < c) (w : World) (Post : Ending → World → Prop) (J0 J1 : World → Prop)
  (hGO : ∀ W, W = w.alloc (.cells #[.int .i64 n, .slice ea el ec] 33) → Calls Tryz.prog 82 #[.agg #[.int .i64 n, .slice ea el ec]] W fun e w' => e = .returned (.bool b) ∧ J0 w' ∧ w'.cell? ⟨w.heap.size, 0, none⟩ = some (.int .i64 n) ∧ w'.cell? ⟨w.heap.size, 1, none⟩ = some (.slice ea el ec))
  (hCT : b = true → ∀ W, J0 W → Calls Tryz.prog 89 #[.agg #[.int .i64 n, .slice ea el ec]] W fun e w' => e = .returned (.int .i64 c) ∧ J1 w')
  (hP0 : ∀ W, J0 W → Post (.returned (.tuple #[.slice none 0 0, .bool false])) W) (hP1 : ∀ W, J1 W → Post (.returned (.tuple #[.slice none 0 0, .bool false])) W)
  : Calls Tryz.prog 38 #[.agg #[.int .i64 n, .slice ea el ec]] w Post := by
  have HGO := Lib.hid hGO
  have HP0 := Lib.hid hP0
  have HP1 := Lib.hid hP1
  cases b with
  | false =>
    clear hGO hP0 hP1 hCT
    go_enter Tryz.func38, Tryz.ntmps38
    go_wp2_with (go_at_call 82; refine (HGO.out _ rfl).mono ?_; rintro e w1 ⟨rfl, hw1, hw2, hw3⟩)
    exact HP0.out _ hw1
  | true =>
    have HCT := Lib.hid (hCT rfl)
    have h4 : c > 400 := by rcases hb with k | k; cases k; omega
    clear hb hGO hP0 hP1 hCT
    go_enter Tryz.func38, Tryz.ntmps38
    go_wp2_with (first
      | (go_at_call 82; refine (HGO.out _ rfl).mono ?_; rintro e w1 ⟨rfl, hw1, hw2, hw3⟩)
      | (go_at_call 89; refine (HCT.out _ hw1).mono ?_; rintro e w2 ⟨rfl, hw4⟩))
    exact HP1.out _ hw4
end Go.Proofs.YthhogfhffpfkdaaGreatDoor
namespace Go.Proofs.YthhogfhffpfkdaaGreatDoor.D
open Go Go.Den Go.Proofs.YthhogfhffpfkdaaGreatDoor
set_option linter.unusedVariables false
set_option linter.unusedSimpArgs false
set_option maxRecDepth 100000
theorem row_cell {V : World} {t : List Int} {g : G} (hM : Mem V noB noB RT RM t g) {j : Nat} (hj : j < t.length) : ∃ d, g.addr = some d ∧ V.cell? (d.add j) = some (.int .i64 (t.getD j 0)) := by
  have hl : g.len = t.length := hM.1
  have h := (hM.2.2 j (by omega)).1
  have h' : At V g.addr (j * 1) [.int .i64 (t.getD j 0)] := h
  obtain ⟨d, hd, hv⟩ := h' 0 _ rfl
  exact ⟨d, hd, by simpa using hv⟩
theorem mem_of_row {w : World} {B : Nat} {E : TypeId} {v : Value} {t : List Int} {n : Nat} (hn : n = t.length) (h0 : 0 < n) (h : w.ownsRow B E 1 v n (t.map (Value.int .i64))) :
    ∃ g c, v = .slice (some ⟨g, 0, none⟩) n c ∧ B ≤ g ∧ g < w.heap.size ∧ Mem w noB noB RT RM t (.hd (some ⟨g, 0, none⟩) n c fun _ => .lf) := by
  obtain ⟨h1, h2⟩ := h
  rcases h2 with ⟨_, h2⟩ | ⟨g, cap, cur, h2, h3, h4, h5, h6, h7, h8⟩
  · omega
  have hlt : g < w.heap.size := by
    rcases Nat.lt_or_ge g w.heap.size with k | k
    · exact k
    · rw [Array.getElem?_eq_none k] at h4; cases h4
  refine ⟨g, cap, h2, h3, hlt, hn, .inr ⟨g, 0, cur, E, rfl, h4, ?_, h5, h6⟩, fun i hi => ⟨?_, trivial⟩⟩
  · show 0 + cap * 1 ≤ cur.size
    omega
  · have hi' : i < n := hi
    show At w (some ⟨g, 0, none⟩) (i * 1) [.int .i64 (t.getD i 0)]
    intro k u hu
    cases k with
    | succ k => simp at hu
    | zero =>
      simp only [List.getElem?_cons_zero, Option.some.injEq] at hu
      subst hu
      refine ⟨_, rfl, ?_⟩
      have e : cur.toList[i]? = some (.int .i64 (t.getD i 0)) := by
        have e1 : (cur.toList.take (n * 1))[i]? = cur.toList[i]? := List.getElem?_take_of_lt (show i < n * 1 by omega)
        rw [← e1, h8, List.getElem?_map, List.getElem?_eq_getElem (by omega), List.getD_eq_getElem?_getD, List.getElem?_eq_getElem (by omega)]
        rfl
      simp only [Addr.add_mk, Nat.zero_add, Nat.mul_one, Nat.add_zero]
      simp [World.cell?, h4]
      simpa using e
/-- a number put behind a row whose capacity is its length: a new row is laid -/
theorem tree_append {P : Program} {T E3 : TypeId} {eq : Bool} (hT : TyOk P T ⟨RT, [], eq⟩) {V : World} {t : List Int} {a : Option Addr} {l c : Nat} (hM : Mem V noB noB RT RM t (.hd a l c fun _ => .lf)) (hl : t.length ≤ 1000) (k : Int) :
    ∃ a' l' c' w3, (Builtin.append_ #[T, T] T #[.slice a l l, .slice (some ⟨V.heap.size, 0, none⟩) 1 1]).run P (V.alloc (.cells #[.int .i64 k] E3)) = .ok (.slice a' l' c') w3 ∧
      Mem w3 noB noB RT RM (t ++ [k]) (.hd a' l' c' fun _ => .lf) ∧ (∀ b, bl' (.hd a' l' c' fun _ => .lf) b → V.heap.size < b ∧ b < w3.heap.size) ∧ (V.alloc (.cells #[.int .i64 k] E3)).grownBy w3 none := by
  have hlen : l = t.length := hM.1
  obtain ⟨E, d, u1, u2, u3, u4, u5, u6, u7⟩ := hT.under
  have hs : (V.alloc (.cells #[.int .i64 k] E3)).heap.size = V.heap.size + 1 := by simp
  have hnew : ∀ j u, [Value.int .i64 k][j]? = some u → (V.alloc (.cells #[.int .i64 k] E3)).cell? ((⟨V.heap.size, 0, none⟩ : Addr).add j) = some u := fun j u hu => by
    cases j with
    | succ j => simp at hu
    | zero =>
      simp only [List.getElem?_cons_zero, Option.some.injEq] at hu
      subst hu
      simp [Addr.add_mk]
  have fin : ∀ (v' : Value) (w3 : World), w3.ownsRow (V.alloc (.cells #[.int .i64 k] E3)).heap.size E 1 v' (l + 1) ((t ++ [k]).map (Value.int .i64)) →
      ∃ g c', v' = .slice (some ⟨g, 0, none⟩) (l + 1) c' ∧ Mem w3 noB noB RT RM (t ++ [k]) (.hd (some ⟨g, 0, none⟩) (l + 1) c' fun _ => .lf) ∧ ∀ b, bl' (.hd (some ⟨g, 0, none⟩) (l + 1) c' fun _ => .lf) b → V.heap.size < b ∧ b < w3.heap.size := fun v' w3 h => by
    obtain ⟨g, c', h1, h2, h3, h4⟩ := mem_of_row (by rw [List.length_append, List.length_singleton, hlen]) (by omega) h
    refine ⟨g, c', h1, h4, fun b hb => ?_⟩
    obtain ⟨ad, ha, hab⟩ := hb
    have ha' : some (⟨g, 0, none⟩ : Addr) = some ad := ha
    cases ha'
    have : g = b := hab
    omega
  have hmax : l + 1 ≤ maxLen := by unfold maxLen; have : (1001 : Nat) ≤ 9223372036854775807 := by decide
                                   omega
  have hby : (l + 1) * d.bytes ≤ 140737488355328 := by
    have := Nat.mul_le_mul (show l + 1 ≤ 1001 by omega) u6
    omega
  cases a with
  | none =>
    have hl0 : l = 0 := by
      rcases hM.2.1 with ⟨_, h, _⟩ | ⟨b, o, C, te, h, _⟩
      · exact h
      · cases h
    subst hl0
    have ht : t = [] := List.eq_nil_of_length_eq_zero hlen.symm
    subst ht
    obtain ⟨v', w3, r1, r2, r3, _⟩ := run_append_own (P := P) (V.alloc (.cells #[.int .i64 k] E3)) (V.alloc (.cells #[.int .i64 k] E3)).heap.size T T E d _ 1 d.bytes u1 u2 u4 u3 rfl rfl (by decide) (.slice none 0 0) 0 [] (World.ownsRow_nil _ _ E 1) ⟨V.heap.size, 0, none⟩ 1 1 [.int .i64 k] rfl hnew (fun u hu => by rw [List.mem_singleton.1 hu]; rfl) hmax hby (Nat.le_refl _)
    obtain ⟨g, c', e1, e2, e3⟩ := fin v' w3 r2
    subst e1
    exact ⟨_, _, _, w3, r1, e2, e3, r3⟩
  | some ad =>
    obtain ⟨v', w3, r1, r2, r3⟩ := run_append_arg_grows (P := P) (V.alloc (.cells #[.int .i64 k] E3)) T T E d _ 1 d.bytes u1 u2 u4 u3 rfl rfl (by decide) ad l l (t.map (Value.int .i64)) (by rw [List.length_map, hlen, Nat.mul_one]) (fun j u hu => by
      have hj : j < t.length := by
        rcases Nat.lt_or_ge j t.length with q | q
        · exact q
        · rw [List.getElem?_eq_none (by rw [List.length_map]; exact q)] at hu; cases hu
      obtain ⟨d', hd', hv⟩ := row_cell hM hj
      have hd'' : some ad = some d' := hd'
      cases hd''
      rw [List.getElem?_map, List.getElem?_eq_getElem hj] at hu
      have hu' : Value.int .i64 t[j] = u := Option.some.inj hu
      subst hu'
      rw [World.cell?_alloc_lt _ _ _ (World.block_lt_of_cell? _ _ hv), hv, List.getD_eq_getElem?_getD, List.getElem?_eq_getElem hj]
      rfl) ⟨V.heap.size, 0, none⟩ 1 1 [.int .i64 k] rfl hnew (by omega) hmax hby
    have r2' : w3.ownsRow (V.alloc (.cells #[.int .i64 k] E3)).heap.size E 1 v' (l + 1) ((t ++ [k]).map (Value.int .i64)) := by
      rw [List.map_append]
      exact r2
    obtain ⟨g, c', e1, e2, e3⟩ := fin v' w3 r2'
    subst e1
    exact ⟨_, _, _, w3, r1, e2, e3, r3⟩
theorem tree_append2 {P : Program} {T E3 : TypeId} {eq : Bool} (hT : TyOk P T ⟨RT, [], eq⟩) {V : World} {t : List Int} {a : Option Addr} {l c : Nat} (hM : Mem V noB noB RT RM t (.hd a l c fun _ => .lf)) (hl : t.length ≤ 1000) (k : Int) :
    ∃ a' l' c' w3, (Builtin.append_ #[T, T] T #[.slice a l l, .slice (some ⟨V.heap.size, 0, none⟩) 1 1]).run P (V.alloc (.cells #[.int .i64 k] E3)) = .ok (.slice a' l' c') w3 ∧
      Mem w3 noB noB RT RM (t ++ [k]) (.hd a' l' c' fun _ => .lf) ∧ (∀ b, bl' (.hd a' l' c' fun _ => .lf) b → V.heap.size < b ∧ b < w3.heap.size) ∧
      (w3.os = V.os ∧ w3.tape = V.tape ∧ w3.output = V.output ∧ V.heap.size ≤ w3.heap.size ∧ V.drawn ≤ w3.drawn) ∧ ∀ b, b < V.heap.size → w3.heap[b]? = V.heap[b]? := by
  obtain ⟨a', l', c', w3, k1, k2, k3, k4⟩ := tree_append (E3 := E3) hT hM hl k
  let V1 := V.alloc (.cells #[Value.int .i64 k] E3)
  have hs1 : V1.heap.size = V.heap.size + 1 := by simp [V1]
  have old : ∀ b, b < V.heap.size → V1.heap[b]? = V.heap[b]? := fun b hb => (Wk.alloc noB noB V _).old b hb (.inr id)
  have hlen : l = t.length := hM.1
  obtain ⟨E', d, u1, u2, u3, u4, u5, u6, u7⟩ := hT.under
  have hat : At V1 a 0 (t.map (Value.int .i64)) := fun j u hu => by
    have hj : j < t.length := by
      rcases Nat.lt_or_ge j t.length with q | q
      · exact q
      · rw [List.getElem?_eq_none (by rw [List.length_map]; exact q)] at hu; cases hu
    obtain ⟨d', hd', hv⟩ := row_cell hM hj
    rw [List.getElem?_map, List.getElem?_eq_getElem hj] at hu
    have hu' : Value.int .i64 t[j] = u := Option.some.inj hu
    subst hu'
    refine ⟨d', hd', ?_⟩
    show V1.cell? (d'.add (0 + j)) = _
    rw [Nat.zero_add, World.cell?_alloc_lt _ _ _ (World.block_lt_of_cell? _ _ hv), hv, List.getD_eq_getElem?_getD, List.getElem?_eq_getElem hj]
    rfl
  have hrow : Row V1 1 (.hd a l l fun _ => .lf) := by
    rcases hM.2.1 with ⟨h1, h2, h3⟩ | ⟨b, o, C, te, h1, h2, h3, h4, h5⟩
    · exact .inl ⟨h1, h2, h2⟩
    · have h3' : o + c * 1 ≤ C.size := h3
      have h4' : l ≤ c := h4
      have h5' : c ≤ maxLen := h5
      exact .inr ⟨b, o, C, te, h1, by rw [old b (lt_of_block h2)]; exact h2, by show o + l * 1 ≤ C.size; omega, Nat.le_refl _, by show l ≤ maxLen; omega⟩
  obtain ⟨ad', c2, w2, hrun, hRow, hAt, q1, q2, q3, q4, q5, q6⟩ := append_run (P := P) (w := V1) (ty := T) (m := 1) (c := 1) (sz := 1) (g := .hd a l l fun _ => .lf) u1 u1 u2 u4 zero_size u3 u5 u6 hrow
    (olds := t.map (Value.int .i64)) (by rw [List.length_map, Nat.mul_one]; exact hlen.symm) hat
    (ba := some ⟨V.heap.size, 0, none⟩) (news := [Value.int .i64 k]) rfl (fun j u hu => by
      cases j with
      | succ j => simp at hu
      | zero =>
        simp only [List.getElem?_cons_zero, Option.some.injEq] at hu
        subst hu
        exact ⟨_, rfl, by simp [V1, Addr.add_mk]⟩) (fun v hv => by rw [List.mem_singleton.1 hv]; rfl) (by show l + 1 ≤ room; unfold room; omega)
  have e := k1.symm.trans hrun
  obtain ⟨_, rfl⟩ := Result.ok.inj e
  have z1 : V1.os = V.os := rfl
  refine ⟨a', l', c', w3, k1, k2, k3, ⟨k4.os, k4.tape, k4.output, by have := k4.size; have : V1.heap.size ≤ w3.heap.size := this; omega, q4.2⟩, fun b hb => (k4.block b (by show b < V1.heap.size; omega) (by simp)).trans (old b hb)⟩
end Go.Proofs.YthhogfhffpfkdaaGreatDoor.D
namespace Go.Proofs.YthhogfhffpfkdaaGreatDoor.D
open Go Go.Den Go.Proofs.YthhogfhffpfkdaaGreatDoor
set_option linter.unusedVariables false
set_option linter.unusedSimpArgs false
set_option maxRecDepth 100000
theorem append_new2 {P : Program} {X : List (List Int)} {T E : TypeId} {eq : Bool} {w : World} (hT : TyOk P T ⟨RRT, [], eq⟩) {x : List Int} {g gr : G}
    (o2 : Mem w noB noB RRT RRM X g) (o3 : Den.Sep RRT RRM g) (o4 : ∀ b, Own RRT RRM g b → b < w.heap.size) (r2 : Mem w noB noB RT RM x gr) (r4 : ∀ b, bl' gr b → b < w.heap.size ∧ ¬ Own RRT RRM g b) (hX : List.length X + 1 ≤ room) :
    ∃ a l c w', (Builtin.append_ #[T, T] T #[.slice g.addr g.len g.cap, .slice (some ⟨w.heap.size, 0, none⟩) 1 1]).run P (w.alloc (.cells #[.slice gr.addr gr.len gr.cap] E)) = .ok (.slice a l c) w' ∧
      (w'.os = w.os ∧ w'.tape = w.tape ∧ w'.output = w.output ∧ w.heap.size ≤ w'.heap.size ∧ w.drawn ≤ w'.drawn) ∧ (∀ b, b < w.heap.size → (∀ d, g.addr = some d → d.block ≠ b) → w'.heap[b]? = w.heap[b]?) ∧
      ∃ g', a = g'.addr ∧ l = g'.len ∧ c = g'.cap ∧ Mem w' noB noB RRT RRM (X ++ [x]) g' ∧ Den.Sep RRT RRM g' ∧ (∀ b, Own RRT RRM g' b → (Own RRT RRM g b ∨ bl' gr b ∨ w.heap.size ≤ b) ∧ b < w'.heap.size) ∧ ∀ d, g'.addr = some d → w.heap.size ≤ d.block ∨ ∃ e, g.addr = some e ∧ e.block = d.block := by
  obtain ⟨v, w', k1, k2, g', k3, k4, k5, k6⟩ := append_new (E := E) (D := True) (I := noB) (F := fun b => Own RRT RRM g b ∨ bl' gr b ∨ w.heap.size ≤ b) hT (fun b hb => hb.elim) (fun b hb => .inr (.inr hb)) o2 o3 (fun b hb => ⟨.inl hb, id, o4 b hb⟩) r2 (fun b hb => ⟨.inr (.inl hb), id, (r4 b hb).1, (r4 b hb).2⟩) hX
  subst k3
  let w1 := w.alloc (.cells #[Value.slice gr.addr gr.len gr.cap] E)
  have hs1 : w1.heap.size = w.heap.size + 1 := by simp [w1]
  have old : ∀ b, b < w.heap.size → w1.heap[b]? = w.heap[b]? := fun b hb => (Wk.alloc noB noB w _).old b hb (.inr id)
  have o2' : Mem w1 noB noB RRT RRM X g := o2.frame fun b hb => hb.elim (fun hb => old b (o4 b hb)) fun hb => hb.elim
  have hlen : g.len = X.length := o2.1
  obtain ⟨E', d, u1, u2, u3, u4, u5, u6, u7⟩ := hT.under
  obtain ⟨ad', c', w2, hrun, hRow, hAt, q1, q2, q3, q4, q5, q6⟩ := append_run (P := P) (w := w1) (ty := T) (m := 1) (c := 1) u1 u1 u2 u4 zero_size u3 u5 u6 o2'.2.1
    (olds := rowC RT X g.kid g.len) (rowC_len _ _ _ _) (At_row.1 fun q hq => by rw [Nat.zero_add]; exact (o2'.2.2 q hq).1)
    (ba := some ⟨w.heap.size, 0, none⟩) (news := [Value.slice gr.addr gr.len gr.cap]) rfl (At.new (t := RT) (x := x) (g := gr)) (fun v hv => by rw [List.mem_singleton.1 hv]; rfl) (by rw [hlen]; exact hX)
  have e := k1.symm.trans hrun
  have e1 := Result.ok.inj e
  obtain ⟨ev, rfl⟩ := e1
  injection ev with ea _ _
  refine ⟨_, _, _, w', k1, ⟨k2.os, k2.tape, k2.output, k2.size, k2.drawn trivial⟩, fun b hb hd => (q5 b (by omega) hd).trans (old b hb), g', rfl, rfl, rfl, k4, k5, fun b hb => ⟨(k6 b hb).1, (k6 b hb).2.2⟩, fun d hd => (q6 d (ea ▸ hd)).imp (fun h => by have := h.1; omega) id⟩
end Go.Proofs.YthhogfhffpfkdaaGreatDoor.D
namespace Go.Proofs.YthhogfhffpfkdaaGreatDoor.D
open Go Go.Den Go.Proofs.YthhogfhffpfkdaaGreatDoor
set_option linter.unusedVariables false
set_option linter.unusedSimpArgs false
/-- the block of the outer row that the list's box names -/
def outB (ob : Nat) (V : World) (b : Nat) : Prop := ∃ a l c, V.cell? ⟨ob, 0, none⟩ = some (.slice (some a) l c) ∧ a.block = b
/-- new blocks stay as they are, but for the outer row -/
structure TK (ob pb : Nat) (V V' : World) : Prop where
  size : V.heap.size ≤ V'.heap.size
  old : ∀ b, pb < b → b < V.heap.size → ¬ outB ob V b → V'.heap[b]? = V.heap[b]? ∧ ¬ outB ob V' b
theorem TK.refl (ob pb : Nat) (V : World) : TK ob pb V V := ⟨Nat.le_refl _, fun b _ _ h => ⟨rfl, h⟩⟩
theorem TK.trans {ob pb : Nat} {V V' V'' : World} (h : TK ob pb V V') (k : TK ob pb V' V'') : TK ob pb V V'' := ⟨Nat.le_trans h.size k.size, fun b h1 h2 h3 => by
  obtain ⟨a1, a2⟩ := h.old b h1 h2 h3
  obtain ⟨b1, b2⟩ := k.old b h1 (Nat.lt_of_lt_of_le h2 h.size) a2
  exact ⟨b1.trans a1, b2⟩⟩
/-- a tree's slice -/
structure TT (ob pb : Nat) (t : List Int) (a : Option Addr) (l c : Nat) (V : World) : Prop where
  mem : Mem V noB noB RT RM t (.hd a l c fun _ => .lf)
  blk : ∀ b, bl' (.hd a l c fun _ => .lf) b → pb < b ∧ b < V.heap.size ∧ ¬ outB ob V b
theorem TT.keep {ob pb : Nat} {t : List Int} {a : Option Addr} {l c : Nat} {V V' : World} (h : TT ob pb t a l c V) (k : TK ob pb V V') : TT ob pb t a l c V' :=
  ⟨mem_row (h.mem.frame (w' := V') fun b hb => hb.elim (fun hb => by
    obtain ⟨h1, h2, h3⟩ := h.blk b (own_row.1 hb)
    exact (k.old b h1 h2 h3).1) fun hb => hb.elim), fun b hb => by
    obtain ⟨h1, h2, h3⟩ := h.blk b hb
    exact ⟨h1, Nat.lt_of_lt_of_le h2 k.size, (k.old b h1 h2 h3).2⟩⟩
theorem TT.nil (ob pb : Nat) (V : World) : TT ob pb [] none 0 0 V := ⟨⟨rfl, .inl ⟨rfl, rfl, rfl⟩, fun i hi => absurd hi (Nat.not_lt_zero _)⟩, fun b hb => by
  obtain ⟨a, ha, _⟩ := hb
  cases ha⟩
/-- the boxes, and the list so far -/
structure TJ (D : Prop) (I F : Nat → Prop) (w : World) (gb ob pb : Nat) (gc pc : Array Value) (gt ot pt : TypeId) (G : G) (o : List (List Int)) (ov : Value) (V : World) : Prop where
  wx : Wx D I F w V
  hg : V.heap[gb]? = some (.cells gc gt (0, 0))
  hp : V.heap[pb]? = some (.cells pc pt (0, 0))
  ho : V.heap[ob]? = some (.cells #[ov] ot (0, 0))
  lt : gb < ob ∧ ob < pb ∧ pb < V.heap.size ∧ w.heap.size ≤ gb
  val : ov = .slice G.addr G.len G.cap
  mem : Mem V noB noB RRT RRM o G
  sep : Den.Sep RRT RRM G
  own : ∀ b, Own RRT RRM G b → pb < b ∧ b < V.heap.size
section
variable {D : Prop} {I F : Nat → Prop} {w : World} {gb ob pb : Nat} {gc pc : Array Value} {gt ot pt : TypeId} {G : G} {o : List (List Int)} {ov : Value} {V : World}
theorem TJ.cellO (h : TJ D I F w gb ob pb gc pc gt ot pt G o ov V) : V.cell? ⟨ob, 0, none⟩ = some ov := by
  rw [cell_of' h.ho]; rfl
theorem TJ.blkO (h : TJ D I F w gb ob pb gc pc gt ot pt G o ov V) {b : Nat} (hb : outB ob V b) : Own RRT RRM G b := by
  obtain ⟨a, l, c, h1, h2⟩ := hb
  rw [h.cellO, h.val] at h1
  have e := Option.some.inj h1
  injection e with e1 e2 e3
  exact .inl ⟨a, e1, h2⟩
/-- another world in which nothing that lay has turned -/
theorem TJ.call (h : TJ D I F w gb ob pb gc pc gt ot pt G o ov V) {V' : World} (hx : Wx D I (fun b => V.heap.size ≤ b) V V') : TJ D I F w gb ob pb gc pc gt ot pt G o ov V' ∧ TK ob pb V V' := by
  obtain ⟨l1, l2, l3, l4⟩ := h.lt
  have old : ∀ b, b < V.heap.size → V'.heap[b]? = V.heap[b]? := fun b hb => hx.old b hb (.inr fun c => Nat.lt_irrefl _ (Nat.lt_of_lt_of_le hb c))
  have eo : V'.cell? ⟨ob, 0, none⟩ = V.cell? ⟨ob, 0, none⟩ := World.cell?_of_block (old ob (by omega))
  refine ⟨⟨h.wx.trans ⟨hx.os, hx.tape, hx.output, hx.size, hx.drawn, fun b hb _ => old b hb⟩ fun _ c => c, (old gb (by omega)).trans h.hg, (old pb l3).trans h.hp, (old ob (by omega)).trans h.ho, ⟨l1, l2, Nat.lt_of_lt_of_le l3 hx.size, l4⟩, h.val,
    mem_rows (h.mem.frame (w' := V') fun b hb => hb.elim (fun hb => old b (h.own b hb).2) fun hb => hb.elim), h.sep, fun b hb => ⟨(h.own b hb).1, Nat.lt_of_lt_of_le (h.own b hb).2 hx.size⟩⟩, hx.size, fun b h1 h2 h3 => ⟨old b h2, fun c => h3 ?_⟩⟩
  obtain ⟨a, l, c, e1, e2⟩ := c
  exact ⟨a, l, c, by rw [← eo]; exact e1, e2⟩
/-- a number put behind a tree -/
theorem TJ.treeApp {P : Program} {T E3 : TypeId} {eq : Bool} (hT : TyOk P T ⟨RT, [], eq⟩) (h : TJ D I F w gb ob pb gc pc gt ot pt G o ov V) {t : List Int} {a : Option Addr} {l c : Nat} (ht : TT ob pb t a l c V) (hl : t.length ≤ 12) (k : Int) :
    ∃ a' l' c' w3, (Builtin.append_ #[T, T] T #[.slice a l l, .slice (some ⟨V.heap.size, 0, none⟩) 1 1]).run P (V.alloc (.cells #[.int .i64 k] E3)) = .ok (.slice a' l' c') w3 ∧ TJ D I F w gb ob pb gc pc gt ot pt G o ov w3 ∧ TT ob pb (t ++ [k]) a' l' c' w3 ∧ TK ob pb V w3 := by
  obtain ⟨a', l', c', w3, k1, k2, k3, ⟨q1, q2, q3, q4, q5⟩, k5⟩ := tree_append2 (E3 := E3) hT ht.mem (by omega) k
  obtain ⟨j1, j2⟩ := h.call (V' := w3) ⟨q1, q2, q3, q4, fun _ => q5, fun b hb _ => k5 b hb⟩
  refine ⟨a', l', c', w3, k1, j1, ⟨k2, fun b hb => ?_⟩, j2⟩
  obtain ⟨h1, h2⟩ := k3 b hb
  have l3 := h.lt.2.2.1
  refine ⟨by omega, h2, fun x => ?_⟩
  have := (h.own b (j1.blkO x)).2
  omega
/-- a row put behind the list, and the list's box told of it -/
theorem TJ.rowApp {P : Program} {T E : TypeId} {eq : Bool} (hT : TyOk P T ⟨RRT, [], eq⟩) (h : TJ D I F w gb ob pb gc pc gt ot pt G o ov V) (hl : o.length ≤ 100000) (hF : ∀ b, w.heap.size ≤ b → F b) (hI : ∀ b, I b → b < w.heap.size) {t : List Int} {gr : Den.G} (r2 : Mem V noB noB RT RM t gr) (r4 : ∀ b, bl' gr b → pb < b ∧ b < V.heap.size ∧ ¬ Own RRT RRM G b) :
    ∃ a l c W, (Builtin.append_ #[T, T] T #[ov, .slice (some ⟨V.heap.size, 0, none⟩) 1 1]).run P (V.alloc (.cells #[.slice gr.addr gr.len gr.cap] E)) = .ok (.slice a l c) W ∧
      (∃ old, W.cell? ⟨ob, 0, none⟩ = some old) ∧ W.frozen? ⟨ob, 0, none⟩ = false ∧ (∃ G', TJ D I F w gb ob pb gc pc gt ot pt G' (o ++ [t]) (.slice a l c) (W.setCell ⟨ob, 0, none⟩ (.slice a l c))) ∧ TK ob pb V (W.setCell ⟨ob, 0, none⟩ (.slice a l c)) := by
  obtain ⟨l1, l2, l3, l4⟩ := h.lt
  obtain ⟨a, l, c, W, k1, ⟨q1, q2, q3, q4, q5⟩, k2, g', rfl, rfl, rfl, k3, k4, k5, k6⟩ := append_new2 (E := E) hT h.mem h.sep (fun b hb => (h.own b hb).2) r2 (fun b hb => ⟨(r4 b hb).2.1, (r4 b hb).2.2⟩) (by show o.length + 1 ≤ room; unfold room; omega)
  have own' : ∀ b, Own RRT RRM g' b → pb < b ∧ b < W.heap.size := fun b hb => ⟨by
    rcases (k5 b hb).1 with x | x | x
    · exact (h.own b x).1
    · exact (r4 b x).1
    · omega, (k5 b hb).2⟩
  have far : ∀ b, b ≤ pb → ∀ d, G.addr = some d → d.block ≠ b := fun b hb d hd c => by
    have := (h.own d.block (.inl ⟨d, hd, rfl⟩)).1
    omega
  have ho : W.heap[ob]? = some (.cells #[ov] ot (0, 0)) := (k2 ob (by omega) (far ob (by omega))).trans h.ho
  have hset : (W.setCell ⟨ob, 0, none⟩ (.slice g'.addr g'.len g'.cap)).heap[ob]? = some (.cells (#[ov].setIfInBounds 0 (.slice g'.addr g'.len g'.cap)) ot (0, 0)) := heap_setCell_same _ _ _ _ _ _ ho
  have hoth : ∀ b, b ≠ ob → (W.setCell ⟨ob, 0, none⟩ (.slice g'.addr g'.len g'.cap)).heap[b]? = W.heap[b]? := fun b hb => heap_setCell_other _ _ _ _ hb
  have hsz : (W.setCell ⟨ob, 0, none⟩ (.slice g'.addr g'.len g'.cap)).heap.size = W.heap.size := by
    show (W.heap.modify _ _).size = _
    rw [Array.size_modify]
  have nb : ∀ b, Own RRT RRM G b ∨ V.heap.size ≤ b → w.heap.size ≤ b := fun b hb => by
    rcases hb with x | x
    · have := (h.own b x).1; omega
    · omega
  have hx : Wx D I F V W := ⟨q1, q2, q3, q4, fun _ => q5, fun b hb hk => k2 b hb fun d hd c => by
    have hw := nb d.block (.inl (.inl ⟨d, hd, rfl⟩))
    rcases hk with x | x
    · have := hI b x; omega
    · exact x (hF b (by omega))⟩
  refine ⟨_, _, _, W, by rw [h.val]; exact k1, ⟨ov, by rw [cell_of' ho]; rfl⟩, by simp [World.frozen?, ho], ⟨g', ⟨?_, ?_, ?_, ?_, ⟨l1, l2, by omega, l4⟩, rfl, ?_, k4, fun b hb => ⟨(own' b hb).1, by rw [hsz]; exact (own' b hb).2⟩⟩⟩, by rw [hsz]; exact q4, fun b h1 h2 h3 => ?_⟩
  · refine (h.wx.trans hx fun _ c => c).trans ⟨rfl, rfl, rfl, by rw [hsz]; exact Nat.le_refl _, fun _ => Nat.le_refl _, fun b hb hk => hoth b fun c => ?_⟩ fun _ c => c
    subst c
    rcases hk with x | x
    · have := hI _ x; omega
    · exact x (hF _ (by omega))
  · rw [hoth gb (by omega), k2 gb (by omega) (far gb (by omega))]; exact h.hg
  · rw [hoth pb (by omega), k2 pb l3 (far pb (Nat.le_refl _))]; exact h.hp
  · rw [hset]; rfl
  · exact mem_rows (k3.frame fun b hb => hb.elim (fun hb => hoth b (by have := (own' b hb).1; omega)) fun hb => hb.elim)
  · have ne : ∀ d, G.addr = some d → d.block ≠ b := fun d hd c => h3 ⟨d, G.len, G.cap, by rw [h.cellO, h.val, hd], c⟩
    refine ⟨(hoth b (by omega)).trans (k2 b h2 ne), fun x => ?_⟩
    obtain ⟨d, l', c', e1, e2⟩ := x
    rw [cell_of' hset] at e1
    have e3 : Value.slice g'.addr g'.len g'.cap = .slice (some d) l' c' := Option.some.inj e1
    injection e3 with e4 _ _
    rcases k6 d e4 with y | ⟨e, y1, y2⟩
    · omega
    · exact ne e y1 (by omega)
end
end Go.Proofs.YthhogfhffpfkdaaGreatDoor.D
namespace Go.Proofs.YthhogfhffpfkdaaGreatDoor.D
open Go Go.Den Go.Proofs.YthhogfhffpfkdaaGreatDoor
set_option linter.unusedVariables false
set_option linter.unusedSimpArgs false
set_option maxRecDepth 100000
theorem tyRT' : TyOk Tryz.prog 34 ⟨RT, [], false⟩ := tySl Tryz.underlying34 (by kernel_rfl) (by kernel_rfl) (by kernel_rfl) (by kernel_rfl) (by kernel_rfl) (by kernel_rfl) Tryz.underlying3
theorem tyRR' : TyOk Tryz.prog 71 ⟨RRT, [], false⟩ := tySl Tryz.underlying71 (by kernel_rfl) (by kernel_rfl) (by kernel_rfl) (by kernel_rfl) (by kernel_rfl) (by kernel_rfl) trivial
/-- every block is as it was -/
theorem wx_same {D : Prop} {I F : Nat → Prop} {V V' : World} (h : Wx D I (fun b => V.heap.size ≤ b) V V') : ∀ b, b < V.heap.size → V'.heap[b]? = V.heap[b]? := fun b hb => h.old b hb (.inr fun c => Nat.lt_irrefl _ (Nat.lt_of_lt_of_le hb c))
theorem wx_weak {D : Prop} {I I' F : Nat → Prop} {V V' : World} (h : Wx D I (fun b => V.heap.size ≤ b) V V') : Wx D I' F V V' := ⟨h.os, h.tape, h.output, h.size, h.drawn, fun b hb _ => wx_same (F := F) h b hb⟩
theorem noT {t : List Int} {ta : Option Addr} {l c b : Nat} : ¬ OwnS ⟨0, 0, 0, .val .reg RT (.sh true) t⟩ ⟨none, .hd ta l c fun _ => .lf⟩ b := fun hb => Own.sh RT (.hd ta l c fun _ => .lf) true b hb
theorem itemsT {V : World} {I' F' : Nat → Prop} {gi : Den.Item} {t : List Int} {ta : Option Addr} {l c : Nat} (hg : SlotOk V I' F' gi.z gi.v gi.γ) (hr : ∀ k r v s d p t, gi.sv ≠ .ref k r v s d p t) (gno : ∀ b, ¬ OwnS gi.z gi.γ b)
    (s1 : SlotOk V I' F' ⟨0, 0, 0, .val .reg RT (.sh true) t⟩ (.slice ta l c) ⟨none, .hd ta l c fun _ => .lf⟩) (s2 : ∀ b, I' b → b < V.heap.size) (s3 : ∀ b, V.heap.size ≤ b → F' b) :
    Items V I' F' [gi, ⟨.val .reg RT (.sh true) t, .slice ta l c, ⟨none, .hd ta l c fun _ => .lf⟩⟩] := by
  have mem : ∀ i ∈ [gi, (⟨.val .reg RT (.sh true) t, .slice ta l c, ⟨none, .hd ta l c fun _ => .lf⟩⟩ : Den.Item)], i = gi ∨ i = ⟨.val .reg RT (.sh true) t, .slice ta l c, ⟨none, .hd ta l c fun _ => .lf⟩⟩ := fun i hi => by simpa using hi
  refine ⟨fun j hj => ?_, fun j hj => ?_, ?_, fun j hj b hb => ?_, s2, s3⟩
  · rcases mem j hj with h | h
    · rw [h]; exact hg
    · rw [h]; exact s1
  · rcases mem j hj with h | h
    · rw [h]; exact hr
    · rw [h]; exact fun _ _ _ _ _ _ _ c => by cases c
  · exact List.pairwise_cons.2 ⟨fun j hj b hb => absurd hb (gno b), List.pairwise_singleton _ _⟩
  · rcases mem j hj with h | h
    · rw [h] at hb; exact absurd hb (gno b)
    · rw [h] at hb; exact absurd hb (noT (t := t) (ta := ta) (l := l) (c := c) (b := b))
theorem itemsT1 {V : World} {I' F' : Nat → Prop} {t : List Int} {ta : Option Addr} {l c : Nat}
    (s1 : SlotOk V I' F' ⟨0, 0, 0, .val .reg RT (.sh true) t⟩ (.slice ta l c) ⟨none, .hd ta l c fun _ => .lf⟩) (s2 : ∀ b, I' b → b < V.heap.size) (s3 : ∀ b, V.heap.size ≤ b → F' b) :
    Items V I' F' [⟨.val .reg RT (.sh true) t, .slice ta l c, ⟨none, .hd ta l c fun _ => .lf⟩⟩] := by
  refine ⟨fun j hj => ?_, fun j hj => ?_, List.pairwise_singleton _ _, fun j hj b hb => ?_, s2, s3⟩
  · rw [List.mem_singleton.1 hj]; exact s1
  · rw [List.mem_singleton.1 hj]; exact fun _ _ _ _ _ _ _ c => by cases c
  · rw [List.mem_singleton.1 hj] at hb; exact absurd hb (noT (t := t) (ta := ta) (l := l) (c := c) (b := b))
set_option maxHeartbeats 1000000 in
theorem treesOf_holds {O : Fun Γ} (hO : Go.Den.Good Tryz.prog Γ tau O) {a : Lb.GrL} {r : List (List Int) × Bool}
    (hr : Lb.treesOf (fun x => (O 25 x : Option Bool)) (fun x => (O 44 x : Option Int)) (fun x y => (O 52 (x, y) : Option Bool)) (fun x => (O 11 x : Option (List Int))) a = some r) : Go.Den.Holds Tryz.prog Γ tau 53 a r := by
  unfold Lb.treesOf at hr
  obtain ⟨b, hb, hr⟩ := Option.bind_eq_some_iff.1 hr
  intro σ hσ w I F M hM hI hK
  obtain rfl : s53 = σ := Option.some.inj hσ
  have hM' : some [SV.val .reg GT (.sh true) a] = some (M.map Item.sv) := hM
  have hM' := Option.some.inj hM'
  match M, hM', hM, hI with
  | [], h, _, _ => cases h
  | _ :: _ :: _, h, _, _ => simp at h
  | [⟨gsv, gv, gγ⟩], hM', hM, hI =>
    simp only [List.map_cons, List.map_nil, List.cons.injEq, and_true] at hM'
    subst hM'
    let gi : Den.Item := ⟨.val .reg GT (.sh true) a, gv, gγ⟩
    have m0 : gi ∈ [gi] := List.mem_cons_self
    obtain ⟨g1, g2, g3, g4⟩ := hI.ok _ m0
    have g1' : gv = .agg #[.int .i64 a.1, .slice gγ.g.snd.addr gγ.g.snd.len gγ.g.snd.cap] := g1
    subst g1'
    have gno : ∀ b, ¬ OwnS gi.z gi.γ b := fun b hb => Own.sh GT gγ.g true b hb
    have glen : gγ.g.snd.len = a.2.length := g2.2.1
    let D := (tau).dr
    let gcv : Array Value := #[.int .i64 a.1, .slice gγ.g.snd.addr gγ.g.snd.len gγ.g.snd.cap]
    have okG : ∀ (w' : World) (I' F' : Nat → Prop), Wx D I F w w' → (∀ b, I b → I' b) → SlotOk w' I' F' gi.z gi.v gi.γ := fun w' I' F' hx hii => by
      have hf := (hI.ok _ m0).frame (w' := w') fun b hb => hx.old b (hb.elim (fun hb => absurd hb (gno b)) (hI.imm b)) (hb.elim (fun hb => absurd hb (gno b)) .inl)
      exact ⟨hf.1, Mem.any (hf.2.1.mono (fun b hb => hii b hb) fun _ _ h => h), hf.2.2.1, hf.2.2.2⟩
    have itG : ∀ (w' : World) (F' : Nat → Prop), Wx D I F w w' → (∀ b, w'.heap.size ≤ b → F' b) → Items w' I F' [gi] := fun w' F' hx hn => by
      refine ⟨fun j hj => ?_, fun j hj => ?_, List.pairwise_singleton _ _, fun j hj b hb => ?_, fun b hb => Nat.lt_of_lt_of_le (hI.imm b hb) hx.size, hn⟩
      · rw [List.mem_singleton.1 hj]
        exact okG w' I F' hx fun _ h => h
      · rw [List.mem_singleton.1 hj]
        exact fun _ _ _ _ _ _ _ c => by cases c
      · rw [List.mem_singleton.1 hj] at hb
        exact absurd hb (gno b)
    let W0 := w.alloc (.cells gcv 33)
    have hW0 : Wx D I F w W0 := (Wk.alloc I F w _).x
    have hs0 : W0.heap.size = w.heap.size + 1 := by simp [W0]
    have hC0 : W0.heap[w.heap.size]? = some (.cells gcv 33 (0, 0)) := by
      show (w.heap.push _)[w.heap.size]? = _
      simp
    let J0 : World → Prop := fun w1 => Wx D I F w w1 ∧ w1.heap[w.heap.size]? = some (.cells gcv 33 (0, 0))
    have tok : ∀ w1, Wx D I F w w1 → TOk (tau) (fun b => w1.heap.size ≤ b) w1 := fun w1 hx => (hK.wk hx).less fun b hb => hI.new b (Nat.le_trans hx.size hb)
    -- a call that is told a number or a truth
    have callG : ∀ W, J0 W → ∀ w', Wx D I (fun b => W.heap.size ≤ b) W w' → J0 w' := fun W hW w' hx =>
      ⟨hW.1.trans (wx_weak hx) fun _ c => c, (wx_same (F := F) hx _ (lt_of_block hW.2)).trans hW.2⟩
    have hGO : ∀ W, W = w.alloc (.cells gcv 33) → Calls Tryz.prog 82 #[.agg #[.int .i64 a.1, .slice gγ.g.snd.addr gγ.g.snd.len gγ.g.snd.cap]] W fun e w' => e = .returned (.bool b) ∧ J0 w' ∧ w'.cell? ⟨w.heap.size, 0, none⟩ = some (.int .i64 a.1) ∧ w'.cell? ⟨w.heap.size, 1, none⟩ = some (.slice gγ.g.snd.addr gγ.g.snd.len gγ.g.snd.cap) := by
      rintro W rfl
      refine Calls.mono (hO 25 a b hb s25 rfl W0 I (fun b => W0.heap.size ≤ b) [gi] rfl (itG W0 _ hW0 fun _ h => h) (tok W0 hW0)) fun e w' he => ?_
      cases e with
      | panicked _ => exact he.elim
      | outgrown => exact he.elim
      | returned v =>
        obtain ⟨hw, J, M, N, h1, h2, h3, h4, h5, h6, h7⟩ := he
        have h1' : some [SV.val .reg .bool (.sh false) b] = some (M.map Den.Item.sv) := h1
        have hJ := callG W0 ⟨hW0, hC0⟩ w' hw
        refine ⟨?_, hJ, ?_, ?_⟩
        · match M, Option.some.inj h1' with
          | [], k => cases k
          | _ :: _ :: _, k => simp at k
          | [⟨isv, iv, iγ⟩], k =>
            simp only [List.map_cons, List.map_nil, List.cons.injEq, and_true] at k
            subst k
            have := (h3.ok ⟨_, iv, iγ⟩ (List.mem_append_left _ List.mem_cons_self)).1
            rw [h5]
            exact congrArg Ending.returned this
        · rw [cell_of' hJ.2]; rfl
        · rw [cell_of' hJ.2]; rfl
    have hCT : ∀ c, (O 44 a : Option Int) = some c → ∀ W, J0 W → Calls Tryz.prog 89 #[.agg #[.int .i64 a.1, .slice gγ.g.snd.addr gγ.g.snd.len gγ.g.snd.cap]] W fun e w' => e = .returned (.int .i64 c) ∧ J0 w' := by
      intro c hc W hW
      refine Calls.mono (hO 44 a c hc s44 rfl W I (fun b => W.heap.size ≤ b) [gi] rfl (itG W _ hW.1 fun _ h => h) (tok W hW.1)) fun e w' he => ?_
      cases e with
      | panicked _ => exact he.elim
      | outgrown => exact he.elim
      | returned v =>
        obtain ⟨hw, J, M, N, h1, h2, h3, h4, h5, h6, h7⟩ := he
        have h1' : some [SV.val .reg (.int .i64) (.sh false) c] = some (M.map Den.Item.sv) := h1
        refine ⟨?_, callG W hW w' hw⟩
        match M, Option.some.inj h1' with
        | [], k => cases k
        | _ :: _ :: _, k => simp at k
        | [⟨isv, iv, iγ⟩], k =>
          simp only [List.map_cons, List.map_nil, List.cons.injEq, and_true] at k
          subst k
          have := (h3.ok ⟨_, iv, iγ⟩ (List.mem_append_left _ List.mem_cons_self)).1
          rw [h5]
          exact congrArg Ending.returned this
    -- the end
    have fin : ∀ (W : World) (X : List (List Int)) (bb : Bool) (g' : G), Wx D I F w W → r = (X, bb) → Mem W noB noB RRT RRM X g' → Den.Sep RRT RRM g' → (∀ b, Own RRT RRM g' b → F b ∧ ¬ I b ∧ b < W.heap.size) →
        (Wx D I F w W ∧ ∃ (J : Nat → Prop) (M N : List Den.Item), resSV s53.results ((unProd (Γ.outsL 53) r).take s53.results.length) = some (M.map Item.sv) ∧ backSV s53.params ((unProd (Γ.outsL 53) r).drop s53.results.length) = some (N.map Item.sv) ∧
          Items W J F (M ++ N) ∧ (∀ b, J b → F b ∨ (s53.retain = true ∧ I b)) ∧ Value.tuple #[.slice g'.addr g'.len g'.cap, .bool bb] = retV (M.map Item.v) ∧ N.map Item.v = backOf s53.params ([gi].map Item.v) ∧ (∀ i ∈ M ++ N, ∀ b, OwnS i.z i.γ b → ¬ I b)) := by
      rintro W X bb g' hx rfl hm hs hown
      let i0 : Den.Item := ⟨.val .reg RRT RRM X, .slice g'.addr g'.len g'.cap, ⟨none, g'⟩⟩
      let i1 : Den.Item := ⟨.val .reg .bool (.sh false) bb, .bool bb, ⟨none, .lf⟩⟩
      have mem : ∀ i ∈ [i0, i1] ++ ([] : List Den.Item), i = i0 ∨ i = i1 := fun i hi => by simpa using hi
      refine ⟨hx, fun _ => False, [i0, i1], [], rfl, rfl, ⟨fun i hi => ?_, fun i hi k r v s d p t c => ?_, ?_, fun i hi b hb => ?_, fun b hb => hb.elim, fun b hb => hI.new b (Nat.le_trans hx.size hb)⟩, fun b hb => hb.elim, rfl, rfl, fun i hi b hb => ?_⟩
      · rcases mem i hi with rfl | rfl
        · exact ⟨rfl, mem_rows hm, hs, rfl⟩
        · exact ⟨rfl, trivial, trivial, rfl⟩
      · rcases mem i hi with rfl | rfl <;> cases c
      · exact List.pairwise_cons.2 ⟨fun j hj b _ k => by rw [List.mem_singleton.1 hj] at k; exact k, List.pairwise_singleton _ _⟩
      · rcases mem i hi with rfl | rfl
        · exact ⟨(hown b hb).1, fun k => k, (hown b hb).2.2⟩
        · exact hb.elim
      · rcases mem i hi with rfl | rfl
        · exact (hown b hb).2.1
        · exact hb.elim
    refine (?_ : ∀ Q : Ending → World → Prop, (∀ (W : World) (X : List (List Int)) (bb : Bool) (g' : G), Wx D I F w W → r = (X, bb) → Mem W noB noB RRT RRM X g' → Den.Sep RRT RRM g' → (∀ b, Own RRT RRM g' b → F b ∧ ¬ I b ∧ b < W.heap.size) → Q (.returned (.tuple #[.slice g'.addr g'.len g'.cap, .bool bb])) W) →
      Calls Tryz.prog 38 #[.agg #[.int .i64 a.1, .slice gγ.g.snd.addr gγ.g.snd.len gγ.g.snd.cap]] w Q) _ fun W X bb g' k1 k2 k3 k4 k5 => fin W X bb g' k1 k2 k3 k4 k5
    clear fin
    intro Q fin
    have none_ok : r = ([], false) → ∀ W, J0 W → Q (.returned (.tuple #[.slice none 0 0, .bool false])) W := fun hr0 W hW => fin W [] false (.hd none 0 0 fun _ => .lf) hW.1 hr0 ⟨rfl, .inl ⟨rfl, rfl, rfl⟩, fun i hi => absurd hi (Nat.not_lt_zero _)⟩ ⟨fun i hi => absurd hi (Nat.not_lt_zero _), fun i _ _ hi => absurd hi (Nat.not_lt_zero _), fun _ i _ hi => absurd hi (Nat.not_lt_zero _)⟩ fun b hb => by
        rcases hb with ⟨a, ha, _⟩ | ⟨i, hi, _⟩
        · cases ha
        · exact absurd hi (Nat.not_lt_zero _)
    cases b with
    | false =>
      have hr0 : r = ([], false) := (Option.some.inj hr).symm
      exact trB_no a.1 _ _ _ false 0 (.inl rfl) w Q J0 J0 hGO (fun c => by cases c) (none_ok hr0) (none_ok hr0)
    | true =>
    rw [cond_true] at hr
    obtain ⟨c, hc, hr⟩ := Option.bind_eq_some_iff.1 hr
    by_cases h4 : c > 400
    case pos =>
      rw [decide_eq_true h4, cond_true] at hr
      have hr0 : r = ([], false) := (Option.some.inj hr).symm
      exact trB_no a.1 _ _ _ true c (.inr h4) w Q J0 J0 hGO (fun _ => hCT c hc) (none_ok hr0) (none_ok hr0)
    case neg =>
    rw [decide_eq_false h4, cond_false] at hr
    by_cases h5 : 1 ≤ a.1 ∧ a.1 ≤ 6 ∧ a.2.length ≤ 12
    case neg =>
      have e : (decide (1 ≤ a.1) && decide (a.1 ≤ 6) && decide (a.2.length ≤ 12)) = false := by
        rw [Bool.eq_false_iff]
        intro k
        simp only [Bool.and_eq_true, decide_eq_true_eq] at k
        exact h5 ⟨k.1.1, k.1.2, k.2⟩
      rw [e] at hr
      cases hr
    case pos =>
    obtain ⟨h51, h52, h53⟩ := h5
    rw [decide_eq_true h51, decide_eq_true h52, decide_eq_true h53, Bool.and_self, Bool.and_self, cond_true] at hr
    obtain ⟨o, ho, hr⟩ := Option.bind_eq_some_iff.1 hr
    obtain rfl : (o, true) = r := Option.some.inj hr
    refine trB_walk a.1 _ _ _ c (by omega) w Q J0 J0 hGO (hCT c hc) fun W hW => ?_
    -- the closure
    have hgW : w.heap.size < W.heap.size := lt_of_block hW.2
    let pcv : Array Value := #[.func (.func 92) #[] #[.pointer (some ⟨w.heap.size, 0, none⟩), .pointer (some ⟨W.heap.size, 0, none⟩), .pointer (some ⟨W.heap.size + 1, 0, none⟩)]]
    let V1 := W.alloc (.cells #[.slice none 0 0] 71)
    let V0 := V1.alloc (.cells pcv 118)
    have hs1 : V1.heap.size = W.heap.size + 1 := by simp [V1]
    have hs2 : V0.heap.size = W.heap.size + 2 := by simp [V0, V1]
    let TJ' := fun (G : Den.G) (o : List (List Int)) (ov : Value) (V : World) => TJ D I F w w.heap.size W.heap.size (W.heap.size + 1) gcv pcv 33 71 118 G o ov V
    let J : List (List Int) → Value → World → Prop := fun o ov V => ∃ G, TJ' G o ov V
    let J1 : List (List Int) → Value → List Int → Option Addr → Nat → Nat → World → Prop := fun o ov t a l c V => ∃ G' : Den.G, TJ' G' o ov V ∧ o.length ≤ 100000 ∧ ∃ gr : Den.G, a = gr.addr ∧ l = gr.len ∧ c = gr.cap ∧ Mem V noB noB RT RM t gr ∧ ∀ b, bl' gr b → W.heap.size + 1 < b ∧ b < V.heap.size ∧ ¬ Own RRT RRM G' b
    let J2 : List (List Int) → Value → List Int → World → World → Prop := fun o v t w0 V => (∃ old, V.cell? ⟨W.heap.size, 0, none⟩ = some old) ∧ V.frozen? ⟨W.heap.size, 0, none⟩ = false ∧ J (o ++ [t]) v (V.setCell ⟨W.heap.size, 0, none⟩ v) ∧ TK W.heap.size (W.heap.size + 1) w0 (V.setCell ⟨W.heap.size, 0, none⟩ v)
    let TR := fun (t : List Int) (a : Option Addr) (l c : Nat) (V : World) => TT W.heap.size (W.heap.size + 1) t a l c V
    let Kp := TK W.heap.size (W.heap.size + 1)
    have hJ0 : J [] (.slice none 0 0) V0 := by
      refine ⟨.hd none 0 0 fun _ => .lf, (hW.1.trans (Wk.alloc I F W _).x fun _ c => c).trans (Wk.alloc I F V1 _).x fun _ c => c, ?_, ?_, ?_, ⟨hgW, by omega, by omega, Nat.le_refl _⟩, rfl, ⟨rfl, .inl ⟨rfl, rfl, rfl⟩, fun i hi => absurd hi (Nat.not_lt_zero _)⟩, ⟨fun i hi => absurd hi (Nat.not_lt_zero _), fun i _ _ hi => absurd hi (Nat.not_lt_zero _), fun _ i _ hi => absurd hi (Nat.not_lt_zero _)⟩, fun b hb => ?_⟩
      · rw [(Wk.alloc noB noB V1 _).old _ (by omega) (.inr id), (Wk.alloc noB noB W _).old _ hgW (.inr id)]
        exact hW.2
      · show (V1.heap.push _)[W.heap.size + 1]? = _
        rw [← hs1]
        simp
      · rw [(Wk.alloc noB noB V1 _).old _ (by omega) (.inr id)]
        show (W.heap.push _)[W.heap.size]? = _
        simp
      · rcases hb with ⟨a, ha, _⟩ | ⟨i, hi, _⟩
        · cases ha
        · exact absurd hi (Nat.not_lt_zero _)
    -- what an argument and a tree are, in a world
    have itT : ∀ (G : Den.G) (o : List (List Int)) (ov : Value) (t : List Int) (ta : Option Addr) (l c : Nat) (V : World), TJ' G o ov V → TR t ta l c V →
        let I' : Nat → Prop := fun b => I b ∨ bl' (.hd ta l c fun _ => .lf) b
        SlotOk V I' (fun b => V.heap.size ≤ b) ⟨0, 0, 0, .val .reg RT (.sh true) t⟩ (.slice ta l c) ⟨none, .hd ta l c fun _ => .lf⟩ ∧ (∀ b, I' b → b < V.heap.size) := fun G o ov t ta l c V hj ht => by
      intro I'
      refine ⟨⟨rfl, Mem.view ht.mem rfl (fun _ => rfl) (fun b (hb : False) => hb.elim) fun b hb => ⟨.inr (own_row.1 hb), fun c => by cases c⟩, Sep.sh RT (.hd ta l c fun _ => .lf) true, rfl⟩, fun b hb => ?_⟩
      rcases hb with hb | hb
      · exact Nat.lt_of_lt_of_le (hI.imm b hb) hj.wx.size
      · exact (ht.blk b hb).2.1
    have hF : ∀ b, w.heap.size ≤ b → F b := hI.new
    have hII : ∀ b, I b → b < w.heap.size := hI.imm
    have main : ∀ d, d ≤ gγ.g.snd.len → ∀ t ta l c o ov V r, t.length + d ≤ gγ.g.snd.len → J o ov V → TR t ta l c V → Lb.trP (fun t => (O 52 (a, t) : Option Bool)) (fun x => (O 11 x : Option (List Int))) (a.1 - 1).toNat gγ.g.snd.len d t o = some r →
        Calls Tryz.prog 92 #[.int .i64 ((gγ.g.snd.len - d : Nat) : Int), .slice ta l c, .pointer (some ⟨w.heap.size, 0, none⟩), .pointer (some ⟨W.heap.size, 0, none⟩), .pointer (some ⟨W.heap.size + 1, 0, none⟩)] V fun e w' => e = .returned (.tuple #[]) ∧ (∃ v, J r v w') ∧ Kp V w' := by
      intro d
      induction d using Nat.strongRecOn with
      | ind d ih =>
      intro hd t ta l c o ov V r htl hJ hT hr
      refine trA_walk a.1 gγ.g.snd.addr gγ.g.snd.len gγ.g.snd.cap w.heap.size W.heap.size (W.heap.size + 1) (a.1 - 1).toNat (by omega) (by omega) (by omega) (fun t => (O 52 (a, t) : Option Bool)) (fun x => (O 11 x : Option (List Int))) J J1 J2 TR Kp ?_ ?_ ?_ ?_ (fun V => TK.refl _ _ V) (fun _ _ _ h k => h.trans k) ?_ ?_ ?_ ?_ ?_ ?_ d hd (fun d' hd' t ta l c o ov V r h1 h2 h3 h4 => ih d' hd' (by omega) t ta l c o ov V r h1 h2 h3 h4) t ta l c o ov V r htl hJ hT hr
      · rintro o ov V ⟨G, h⟩
        exact ⟨by rw [cell_of' h.hg]; rfl, by rw [cell_of' h.hg]; rfl, h.cellO, by rw [cell_of' h.hp]; rfl⟩
      · rintro o ov t a l c V ⟨G, h, _⟩
        exact h.cellO
      · intro t ta l c V ht
        have h1 : l = t.length := ht.mem.1
        refine ⟨h1, ht.mem.2.1.le, fun e => ?_, fun x e => ?_⟩
        · subst e
          rcases ht.mem.2.1 with ⟨_, _, k⟩ | ⟨b, o, C, te, k, _⟩
          · exact k
          · cases k
        · subst e
          rcases ht.mem.2.1 with ⟨k, _⟩ | ⟨b, o, C, te, k, _⟩
          · cases k
          · have k' : some x = some (⟨b, o, none⟩ : Addr) := k
            cases k'
            rfl
      · intro t ta l c V V' hk ht
        exact ht.keep hk
      · rintro o ov V ⟨G, h⟩ m
        obtain ⟨k1, k2⟩ := h.call (V' := V.drewN m) ⟨rfl, rfl, rfl, Nat.le_refl _, fun _ => Nat.le_add_right _ _, fun _ _ _ => rfl⟩
        exact ⟨⟨G, k1⟩, k2⟩
      · rintro o ov t ta l c V ⟨G, h⟩ ht bb hbb
        obtain ⟨s1, s2⟩ := itT G o ov t ta l c V h ht
        have hItems := itemsT (okG V (fun b => I b ∨ bl' (.hd ta l c fun _ => .lf) b) (fun b => V.heap.size ≤ b) h.wx fun _ h => .inl h) (fun _ _ _ _ _ _ _ c => by cases c) gno s1 s2 (fun _ h => h)
        refine Calls.mono (hO 52 (a, t) bb hbb s52 rfl V (fun b => I b ∨ bl' (.hd ta l c fun _ => .lf) b) (fun b => V.heap.size ≤ b) [gi, ⟨.val .reg RT (.sh true) t, .slice ta l c, ⟨none, .hd ta l c fun _ => .lf⟩⟩] rfl hItems (tok V h.wx)) fun e w' he => ?_
        cases e with
        | panicked _ => exact he.elim
        | outgrown => exact he.elim
        | returned v =>
          obtain ⟨hw, J', M, N, h1, h2, h3, h4, h5, h6, h7⟩ := he
          have h1' : some [SV.val .reg .bool (.sh false) bb] = some (M.map Den.Item.sv) := h1
          obtain ⟨k1, k2⟩ := h.call (V' := w') (wx_weak hw)
          refine ⟨?_, ⟨G, k1⟩, k2⟩
          match M, Option.some.inj h1' with
          | [], k => cases k
          | _ :: _ :: _, k => simp at k
          | [⟨isv, iv, iγ⟩], k =>
            simp only [List.map_cons, List.map_nil, List.cons.injEq, and_true] at k
            subst k
            have := (h3.ok ⟨_, iv, iγ⟩ (List.mem_append_left _ List.mem_cons_self)).1
            rw [h5]
            exact congrArg Ending.returned this
      · rintro o ov t ta l c V cc hol ⟨G, h⟩ ht hcc
        obtain ⟨s1, s2⟩ := itT G o ov t ta l c V h ht
        have hItems := itemsT1 s1 s2 (fun _ h => h)
        refine Calls.mono (hO 11 t cc hcc s11 rfl V (fun b => I b ∨ bl' (.hd ta l c fun _ => .lf) b) (fun b => V.heap.size ≤ b) [⟨.val .reg RT (.sh true) t, .slice ta l c, ⟨none, .hd ta l c fun _ => .lf⟩⟩] rfl hItems (tok V h.wx)) fun e w' he => ?_
        cases e with
        | panicked _ => exact he.elim
        | outgrown => exact he.elim
        | returned v =>
          obtain ⟨hw, J', M, N, h1, h2, h3, h4, h5, h6, h7⟩ := he
          have h1' : some [SV.val .reg RT RM cc] = some (M.map Den.Item.sv) := h1
          obtain ⟨k1, k2⟩ := h.call (V' := w') (wx_weak hw)
          match M, Option.some.inj h1', h3, h5, h7 with
          | [], k, _, _, _ => cases k
          | _ :: _ :: _, k, _, _, _ => simp at k
          | [⟨isv, iv, iγ⟩], k, h3, h5, h7 =>
            simp only [List.map_cons, List.map_nil, List.cons.injEq, and_true] at k
            subst k
            have mm : (⟨.val .reg RT RM cc, iv, iγ⟩ : Den.Item) ∈ [⟨.val .reg RT RM cc, iv, iγ⟩] ++ N := List.mem_append_left _ List.mem_cons_self
            obtain ⟨c1, c2, c3, c4⟩ := h3.ok _ mm
            have hv : v = .slice iγ.g.addr iγ.g.len iγ.g.cap := (show v = iv from h5).trans c1
            subst hv
            refine ⟨iγ.g.addr, iγ.g.len, iγ.g.cap, rfl, ⟨G, k1, hol, iγ.g, rfl, rfl, rfl, mem_row c2, fun b hb => ?_⟩, k2⟩
            have hl := h3.lv _ mm b (own_row.2 hb)
            have hl1 : V.heap.size ≤ b := hl.1
            have l3 := h.lt.2.2.1
            exact ⟨by omega, hl.2.2, fun c => by have := (h.own b c).2; omega⟩
      · rintro o ov t ta l c V ⟨G, h, hol, gr, rfl, rfl, rfl, r2, r4⟩
        obtain ⟨a3, l3, c3, V3, k1, k2, k3, k4, k5⟩ := h.rowApp (E := 34) tyRR' hol hF hII r2 r4
        exact ⟨a3, l3, c3, V3, k1, k2, k3, k4, k5⟩
      · rintro o v t w0 V h
        exact h
      · rintro o ov t ta l c V k hk htl ⟨G, h⟩ ht
        obtain ⟨a', l', c', w3, q1, q2, q3, q4⟩ := h.treeApp (E3 := 3) tyRT' ht htl k
        exact ⟨a', l', c', w3, q1, ⟨G, q2⟩, q3, q4⟩
    have hm := main gγ.g.snd.len (Nat.le_refl _) [] none 0 0 [] (.slice none 0 0) V0 o (by simp) hJ0 (TT.nil _ _ _) (by rw [glen]; exact ho)
    rw [Nat.sub_self] at hm
    refine hm.mono ?_
    rintro e w' ⟨rfl, ⟨v, G, h⟩, hk⟩
    have hv := h.val
    subst hv
    refine ⟨rfl, G.addr, G.len, G.cap, h.cellO, fin w' o true G h.wx rfl h.mem h.sep fun b hb => ?_⟩
    have hl := h.own b hb
    exact ⟨hF b (by omega), fun c => by have := hII b c; omega, hl.2⟩
end Go.Proofs.YthhogfhffpfkdaaGreatDoor.D

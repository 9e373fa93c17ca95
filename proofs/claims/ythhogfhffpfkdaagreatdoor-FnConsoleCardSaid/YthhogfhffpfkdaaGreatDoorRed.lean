/-
  The reduced Laplacian of the program, by its own walk: slices.Delete strikes a place out of each row while the rows are taken out of their list.
-/
import Derived.Test.YthhogfhffpfkdaaGreatDoorRd
import Derived.Test.YthhogfhffpfkdaaGreatDoorCtx
import Derived.Test.YthhogfhffpfkdaaGreatDoorLaid
import Derived.Test.YthhogfhffpfkdaaGreatDoorLaidW
import Derived.WalkKit
import Derived.BigCall
import Derived.BigGuard
import Derived.Lib.Hide
import Derived.Lib.AppendZeros
namespace Go.Proofs.YthhogfhffpfkdaaGreatDoor
open Go Go.Den Go.RowKit Go.Shelf
set_option linter.unusedVariables false
set_option linter.unusedSimpArgs false
set_option maxRecDepth 100000
set_option maxHeartbeats 1000000 in
theorem redLap_walk (n : Int) (ea : Option Addr) (el ec : Nat) (q : Int) (hq0 : 0 ≤ q) (hq1 : q ≤ 1000000) (w : World) (Post : Ending → World → Prop)
  (J0 : World → Prop) (hIV : ∀ W, W = w.alloc (.cells #[.int .i64 n, .slice ea el ec] 33) → Calls Tryz.prog 99 #[.agg #[.int .i64 n, .slice ea el ec], .int .i64 q] W fun e w' => e = .returned (.bool true) ∧ J0 w' ∧ w'.cell? ⟨w.heap.size, 0, none⟩ = some (.int .i64 n) ∧ w'.cell? ⟨w.heap.size, 1, none⟩ = some (.slice ea el ec))
  (l : Nat) (hl : l ≤ 1000000) (J : G → Nat → Nat → Nat → Value → World → Prop) (J1 : G → Nat → Nat → Nat → Value → Value → World → Prop)
  (hLap : ∀ W, J0 W → Calls Tryz.prog 243 #[.agg #[.int .i64 n, .slice ea el ec]] W fun e w' => ∃ g hb ho c, e = .returned (.slice (some ⟨hb, ho, none⟩) l c) ∧ J g hb ho 0 (.slice none 0 0) w')
  (H1 : ∀ g hb ho k o wr, J g hb ho k o wr → k < l → wr.cell? ⟨hb, ho + k, none⟩ = some (.slice (g.kid k).addr (g.kid k).len (g.kid k).cap))
  (H2 : ∀ g hb ho k o wr, J g hb ho k o wr → k < l → (k : Int) ≠ q → Calls Tryz.prog 244 #[.slice (g.kid k).addr (g.kid k).len (g.kid k).cap, .int .i64 q, .int .i64 (q + 1)] wr fun e w1 => ∃ a' l' c', e = .returned (.slice a' l' c') ∧ J1 g hb ho k (.slice a' l' c') o w1)
  (H3 : ∀ g hb ho k a' l' c' o w1, J1 g hb ho k (.slice a' l' c') o w1 → ∃ v w3, (Builtin.append_ #[71, 71] 71 #[o, .slice (some ⟨w1.heap.size, 0, none⟩) 1 1]).run Tryz.prog (w1.alloc (.cells #[.slice a' l' c'] 34)) = .ok v w3 ∧ J g hb ho (k + 1) v w3)
  (H4 : ∀ g hb ho k o wr, J g hb ho k o wr → (k : Int) = q → J g hb ho (k + 1) o wr)
  (H5 : ∀ g hb ho o wr, J g hb ho l o wr → Post (.returned o) wr)
  : Calls Tryz.prog 165 #[.agg #[.int .i64 n, .slice ea el ec], .int .i64 q] w Post := by
  have HIV := Lib.hid hIV
  have HLap := Lib.hid hLap
  have K1 := Lib.hid H1
  have K2 := Lib.hid H2
  have K3 := Lib.hid H3
  have K4 := Lib.hid H4
  have K5 := Lib.hid H5
  clear hIV hLap H1 H2 H3 H4 H5
  go_enter Tryz.func165, Tryz.ntmps165
  go_wp2_with (first | (go_at_call 99; refine (HIV.out _ rfl).mono ?_; rintro e w1 ⟨rfl, hw1, hw2, hw3⟩) | (go_at_call 243; refine (HLap.out _ hw1).mono ?_; rintro e w2 ⟨g, hb, ho, c, rfl, hj⟩))
  go_loopw [5, 15] (fun o i wr => ∃ k : Nat, k ≤ l ∧ i = .int .i64 k ∧ J g hb ho k o wr) (fun _ i _ => l - (intOf i).toNat)
  case atStart => exact ⟨0, Nat.zero_le _, rfl, hj⟩
  case round =>
    obtain ⟨k, hk, rfl, hJ⟩ := hrel
    by_cases hlt : k < l
    · have hc := K1.out g hb ho k _ _ hJ hlt
      by_cases hkq : (k : Int) = q
      · have hJ' := K4.out g hb ho k _ _ hJ hkq
        subst hkq
        go_wp2
        go_roundw
        case rel => exact ⟨k + 1, by omega, by go_num, hJ'⟩
        case measure => simp [intOf]; omega
      · have HD := Lib.hid (K2.out g hb ho k _ _ hJ hlt hkq)
        go_wp2_with (first | (go_at_call 244; refine (HD.out).mono ?_; rintro e w3 ⟨a', l', c', rfl, hJ1⟩) | (at_builtin; obtain ⟨v, w4, hr, hJ2⟩ := K3.out _ _ _ _ _ _ _ _ _ hJ1; refine Lib.wpList_append_run _ rfl _ _ _ _ rfl _ _ rfl rfl _ _ hr ?_; clear hr))
        go_roundw
        case rel => exact ⟨k + 1, by omega, by go_num, hJ2⟩
        case measure => simp [intOf]; omega
    · have he : k = l := by omega
      subst he
      have hP := K5.out _ _ _ _ _ hJ
      go_wp2
      exact hP
end Go.Proofs.YthhogfhffpfkdaaGreatDoor
namespace Go.Proofs.YthhogfhffpfkdaaGreatDoor.D
open Go Go.Den
set_option linter.unusedVariables false
set_option linter.unusedSimpArgs false
abbrev GrT : Ty := .cons (.int .i64) (.sl (.cons (.int .i64) (.int .i64)))
theorem redLap_holds {O : Fun Γ} (hO : Go.Den.Good Tryz.prog Γ tau O) (hTy : TyOk Tryz.prog 71 ⟨.sl (.sl (.int .i64)), [], false⟩) {a : (Int × List (Int × Int)) × Int} {r : List (List Int)}
    (hr : Lb.redLap (fun x y => (O 28 (x, y) : Option Bool)) (fun x => (O 31 x : Option (List (List Int)))) a.1 a.2 = some r) : Go.Den.Holds Tryz.prog Γ tau 32 a r := by
  obtain ⟨x, q⟩ := a
  unfold Lb.redLap at hr
  simp only at hr
  obtain ⟨b, hb, hr⟩ := Option.bind_eq_some_iff.1 hr
  cases b with
  | false => cases hr
  | true =>
  rw [cond_true] at hr
  obtain ⟨L, hL, hr⟩ := Option.bind_eq_some_iff.1 hr
  unfold Lb.redOf at hr
  have hc : 0 < L.length ∧ L.length ≤ 1000000 ∧ 0 ≤ q ∧ q ≤ 1000000 ∧ (∀ r ∈ L, q < (r.length : Int)) := by
    by_cases h : 0 < L.length ∧ L.length ≤ 1000000 ∧ 0 ≤ q ∧ q ≤ 1000000 ∧ (∀ r ∈ L, q < (r.length : Int))
    · exact h
    · rw [if_neg h] at hr; cases hr
  rw [if_pos hc] at hr
  obtain ⟨hl0, hl1, hq0, hq1, hrow⟩ := hc
  have hr := (Option.some.inj hr).symm
  subst hr
  obtain ⟨qn, rfl⟩ : ∃ qn : Nat, q = qn := ⟨q.toNat, by omega⟩
  rw [Int.toNat_natCast]
  intro σ hσ w I F M hM hI hK
  obtain rfl : s32 = σ := Option.some.inj hσ
  have hM' : some [SV.val .reg GrT (.sh true) x, SV.val .reg (.int .i64) (.sh false) (qn : Int)] = some (M.map Item.sv) := hM
  have hM' := Option.some.inj hM'
  match M, hM', hM, hI with
  | [], hM', _, _ => cases hM'
  | [_], hM', _, _ => simp at hM'
  | _ :: _ :: _ :: _, hM', _, _ => simp at hM'
  | [⟨gsv, gv, gγ⟩, ⟨qsv, qv, qγ⟩], hM', hM, hI =>
    simp only [List.map_cons, List.map_nil, List.cons.injEq, and_true] at hM'
    obtain ⟨e1, e2⟩ := hM'
    subst e1; subst e2
    obtain ⟨g1, g2, g3, g4⟩ := hI.ok ⟨_, gv, gγ⟩ List.mem_cons_self
    obtain ⟨q1, q2, q3, q4⟩ := hI.ok ⟨_, qv, qγ⟩ (List.mem_cons_of_mem _ List.mem_cons_self)
    have g1' : gv = .agg #[.int .i64 x.1, .slice gγ.g.snd.addr gγ.g.snd.len gγ.g.snd.cap] := g1
    have q1' : qv = .int .i64 qn := q1
    subst g1'; subst q1'
    let gi : Den.Item := ⟨.val .reg GrT (.sh true) x, .agg #[.int .i64 x.1, .slice gγ.g.snd.addr gγ.g.snd.len gγ.g.snd.cap], gγ⟩
    let qi : Den.Item := ⟨.val .reg (.int .i64) (.sh false) (qn : Int), .int .i64 qn, qγ⟩
    have no : ∀ i ∈ [gi, qi], ∀ b, ¬ OwnS i.z i.γ b := fun i hi b hb => by
      simp only [List.mem_cons, List.not_mem_nil, or_false] at hi
      rcases hi with rfl | rfl
      · exact Own.sh GrT gγ.g true b hb
      · exact hb
    have items : ∀ (w' : World) (F' : Nat → Prop), Wx (tau).dr I F w w' → (∀ b, w'.heap.size ≤ b → F' b) → ∀ N, N.Sublist [gi, qi] → Items w' I F' N := fun w' F' hx hn N hN =>
      ⟨fun i hi => by
        have hi := hN.subset hi
        have hf := (hI.ok i hi).frame (w' := w') fun b hb => hx.old b (hb.elim (fun hb => absurd hb (no i hi b)) (hI.imm b)) (hb.elim (fun hb => absurd hb (no i hi b)) .inl)
        simp only [List.mem_cons, List.not_mem_nil, or_false] at hi
        rcases hi with rfl | rfl
        · exact ⟨hf.1, Mem.any hf.2.1, hf.2.2.1, hf.2.2.2⟩
        · exact ⟨hf.1, trivial, trivial, hf.2.2.2⟩,
      fun i hi => hI.noref i (hN.subset hi), hI.sep.sublist hN, fun i hi b hb => absurd hb (no i (hN.subset hi) b), fun b hb => Nat.lt_of_lt_of_le (hI.imm b hb) hx.size, hn⟩
    let W0 := w.alloc (.cells #[.int .i64 x.1, .slice gγ.g.snd.addr gγ.g.snd.len gγ.g.snd.cap] 33)
    have hW0 : Wx (tau).dr I F w W0 := (Wk.alloc I F w _).x
    have hs0 : W0.heap.size = w.heap.size + 1 := by simp [W0]
    have hC0 : W0.heap[w.heap.size]? = some (.cells #[.int .i64 x.1, .slice gγ.g.snd.addr gγ.g.snd.len gγ.g.snd.cap] 33 (0, 0)) := by
      show (w.heap.push _)[w.heap.size]? = _
      simp
    let D := (tau).dr
    let J0 : World → Prop := fun w1 => Wx D I F w w1 ∧ TOk (tau) F w1
    let J : G → Nat → Nat → Nat → Value → World → Prop := fun g hb ho k o wr => gAddr g hb ho L.length ∧ ListOk D w I F L g k wr ∧ OutOk wr I F g k (Lb.redUp qn L k) o
    let J1 : G → Nat → Nat → Nat → Value → Value → World → Prop := fun g hb ho k s o wr => gAddr g hb ho L.length ∧ k < L.length ∧ k ≠ qn ∧ ListOk D w I F L g (k + 1) wr ∧ OutOk wr I F g k (Lb.redUp qn L k) o ∧ RowOk wr g k (Lb.delAt qn (L.getD k [])) s
    refine redLap_walk x.1 gγ.g.snd.addr gγ.g.snd.len gγ.g.snd.cap qn hq0 hq1 w _ J0 ?_ L.length hl1 J J1 ?_ ?_ ?_ ?_ ?_ ?_
    · rintro W rfl
      let F' : Nat → Prop := fun b => F b ∧ b ≠ w.heap.size
      have hI1 : Items W0 I F' [gi, qi] := items W0 F' hW0 (fun b hb => ⟨hI.new b (by omega), by omega⟩) _ (List.Sublist.refl _)
      have hK1 : TOk (tau) F' W0 := (hK.wk hW0).less fun b hb => hb.1
      refine Calls.mono (hO 28 (x, (qn : Int)) true hb s28 rfl W0 I F' [gi, qi] rfl hI1 hK1) fun e w' he => ?_
      cases e with
      | panicked _ => exact he.elim
      | outgrown => exact he.elim
      | returned v =>
        obtain ⟨hw, J, M, N, h1, h2, h3, h4, h5, h6, h7⟩ := he
        have h1' : some [SV.val .reg .bool (.sh false) true] = some (M.map Den.Item.sv) := h1
        have hx1 : Wx (tau).dr I F W0 w' := ⟨hw.os, hw.tape, hw.output, hw.size, hw.drawn, fun b hb hk => hw.old b hb (hk.imp id fun hk c => hk c.1)⟩
        have hcell : w'.heap[w.heap.size]? = some (.cells #[.int .i64 x.1, .slice gγ.g.snd.addr gγ.g.snd.len gγ.g.snd.cap] 33 (0, 0)) := by
          rw [hw.old _ (by omega) (.inr fun c => c.2 rfl)]
          exact hC0
        refine ⟨?_, ⟨hW0.trans hx1 fun _ c => c, (hK.wk hW0).wk hx1⟩, ?_, ?_⟩
        · have h1'' := Option.some.inj h1'
          match M, h1'' with
          | [], k => cases k
          | _ :: _ :: _, k => simp at k
          | [⟨isv, iv, iγ⟩], k =>
            simp only [List.map_cons, List.map_nil, List.cons.injEq, and_true] at k
            subst k
            have := (h3.ok ⟨_, iv, iγ⟩ (List.mem_append_left _ List.mem_cons_self)).1
            rw [h5]
            exact congrArg Ending.returned this
        · unfold World.cell?
          simp [hcell]
        · unfold World.cell?
          simp [hcell]
    · rintro W ⟨hx, hK1⟩
      refine Calls.mono (hO 31 x L hL s31 rfl W I F [gi] rfl (items W F hx (fun b hb => hI.new b (Nat.le_trans hx.size hb)) _ (List.Sublist.cons_cons _ (List.nil_sublist _))) hK1) fun e w' he => ?_
      cases e with
      | panicked _ => exact he.elim
      | outgrown => exact he.elim
      | returned v =>
        obtain ⟨hw, J, M, N, h1, h2, h3, h4, h5, h6, h7⟩ := he
        have h1' : some [SV.val .reg RRT RRM L] = some (M.map Den.Item.sv) := h1
        have h1'' := Option.some.inj h1'
        match M, h1'', h3, h5, h7 with
        | [], k, _, _, _ => cases k
        | _ :: _ :: _, k, _, _, _ => simp at k
        | [⟨isv, iv, iγ⟩], k, h3, h5, h7 =>
          simp only [List.map_cons, List.map_nil, List.cons.injEq, and_true] at k
          subst k
          have hm : (⟨.val .reg RRT RRM L, iv, iγ⟩ : Den.Item) ∈ [(⟨.val .reg RRT RRM L, iv, iγ⟩ : Den.Item)] ++ N := List.mem_append_left _ List.mem_cons_self
          obtain ⟨v1, v2, v3, v4⟩ := h3.ok _ hm
          have v1' : iv = .slice iγ.g.addr iγ.g.len iγ.g.cap := v1
          have own : ∀ b, Own RRT RRM iγ.g b → F b ∧ ¬ I b ∧ b < w'.heap.size := fun b hb => ⟨(h3.lv _ hm b hb).1, h7 _ hm b hb, (h3.lv _ hm b hb).2.2⟩
          have hlen : iγ.g.len = L.length := v2.1
          rcases v2.2.1 with ⟨_, h0, _⟩ | ⟨hb, ho, C, te, ha, _⟩
          · have h0' : iγ.g.len = 0 := h0
            omega
          refine ⟨iγ.g, hb, ho, iγ.g.cap, ?_, ⟨ha, hlen⟩, ⟨hx.trans hw fun _ c => c, fun j hj => ?_, fun j _ hj => mem_row (v2.2.2 j hj).2, fun b hb => own b ?_, fun b hb => Nat.lt_of_lt_of_le (hI.imm b hb) (Nat.le_trans hx.size hw.size), fun b hb => hI.new b (Nat.le_trans (Nat.le_trans hx.size hw.size) hb), v3⟩, ⟨.hd none 0 0 fun _ => .lf, rfl, ⟨rfl, .inl ⟨rfl, rfl, rfl⟩, fun i hi => absurd hi (Nat.not_lt_zero _)⟩, ⟨fun i hi => absurd hi (Nat.not_lt_zero _), fun i _ _ hi => absurd hi (Nat.not_lt_zero _), fun _ i _ hi => absurd hi (Nat.not_lt_zero _)⟩, fun b hb => ?_⟩⟩
          · rw [h5]
            show Ending.returned iv = _
            rw [v1', ha, hlen]
          · have := (v2.2.2 j hj).1
            rwa [show j * Ty.size RT = j from Nat.mul_one j] at this
          · rcases hb with hb | ⟨j, _, hj, hb⟩
            · exact .inl hb
            · exact .inr ⟨j, hj, own_row.2 hb⟩
          · rcases hb with ⟨a, ha, _⟩ | ⟨i, hi, _⟩
            · cases ha
            · exact absurd hi (Nat.not_lt_zero _)
    · rintro g hb ho k o wr ⟨ha, hl, _⟩ hk
      exact hl.cell ha.1 (by rw [ha.2]; exact hk)
    · rintro g hb ho k o wr ⟨ha, hl, hout⟩ hk hkq
      have hq : qn < (L.getD k []).length := by
        have hm : L.getD k [] ∈ L := by
          rw [List.getD_eq_getElem?_getD, List.getElem?_eq_getElem hk]; exact List.getElem_mem _
        have := hrow _ hm
        omega
      exact Calls.mono (strike_ok Tryz.gSlLaysN45 hl hout (by rw [ha.2]; exact hk) hq) fun e w' ⟨a, l, c, h1, h2, h3, h4⟩ => ⟨a, l, c, h1, ha, hk, (by omega), h2, h3, h4⟩
    · rintro g hb ho k a' l' c' o w1 ⟨ha, hk, hkq, hl, hout, hrw⟩
      have hlen : (Lb.redUp qn L k).length ≤ k := by
        unfold Lb.redUp
        rw [List.length_map]
        exact Nat.le_trans (List.length_filter_le _ _) (by rw [List.length_range]; exact Nat.le_refl _)
      obtain ⟨v, w3, h1, h2, h3⟩ := append_ok (E := 34) hTy hl hout hrw (by rw [ha.2]; exact hk) (by unfold room; omega)
      refine ⟨v, w3, h1, ha, h2, ?_⟩
      rw [redUp_succ hkq]
      exact h3
    · rintro g hb ho k o wr ⟨ha, hl, hout⟩ hkq
      obtain rfl : k = qn := by omega
      refine ⟨ha, hl.succ, ?_⟩
      rw [redUp_skip]
      obtain ⟨g', o1, o2, o3, o4⟩ := hout.out
      exact ⟨g', o1, o2, o3, fun b hb => ⟨(o4 b hb).1, (o4 b hb).2.1, (o4 b hb).2.2.1, fun c => (o4 b hb).2.2.2 (c.le (Nat.le_succ k))⟩⟩
    · rintro g hb ho o wr ⟨ha, hl, hout⟩
      obtain ⟨g', rfl, o2, o3, o4⟩ := hout.out
      refine ⟨hl.wx, fun _ => False, [⟨.val .reg RRT RRM (Lb.redUp qn L L.length), .slice g'.addr g'.len g'.cap, ⟨none, g'⟩⟩], [], rfl, rfl, ⟨fun i hi => ?_, fun i hi k r v s d p t c => ?_, List.pairwise_singleton _ _, fun i hi b hb => ?_, fun b hb => hb.elim, hl.new⟩, fun b hb => hb.elim, rfl, rfl, fun i hi b hb => ?_⟩
      · rw [List.append_nil, List.mem_singleton] at hi
        subst hi
        exact ⟨rfl, mem_rows o2, o3, rfl⟩
      · rw [List.append_nil, List.mem_singleton] at hi
        subst hi
        cases c
      · rw [List.append_nil, List.mem_singleton] at hi
        subst hi
        exact ⟨(o4 b hb).1, id, (o4 b hb).2.2.1⟩
      · rw [List.append_nil, List.mem_singleton] at hi
        subst hi
        exact (o4 b hb).2.1
end Go.Proofs.YthhogfhffpfkdaaGreatDoor.D

/-
  Several texts, one behind the other.
-/
import Derived.Test.YthhogfhffpfkdaaGreatDoorCtx
import Derived.WalkKit
import Derived.BigCall
import Derived.BigGuard
import Derived.Lib.Hide
import Derived.OneCell
import Derived.Deep.QuietTactic
import Derived.BigQuiet
import Derived.Test.YthhogfhffpfkdaaGreatDoorDnC
import Derived.Test.YthhogfhffpfkdaaGreatDoorRd
import Derived.Test.YthhogfhffpfkdaaGreatDoorLaidW
import Derived.Lib.SliceRun
namespace Go.Proofs.YthhogfhffpfkdaaGreatDoor
open Go Go.Den Go.RowKit
set_option linter.unusedVariables false
set_option linter.unusedSimpArgs false
set_option maxRecDepth 100000
set_option maxHeartbeats 2000000 in
theorem idx_walk (ha : Option Addr) (hb ho l c : Nat) (hha : 0 < l → ha = some ⟨hb, ho, none⟩) (hl : l ≤ 1099511627776) (A : Nat → Option Addr) (N C : Nat → Nat) (p : Nat → Bool) (p1 p2 : Value) (J : World → Prop)
  (hc : ∀ W, J W → ∀ k, k < l → W.cell? ⟨hb, ho + k, none⟩ = some (.slice (A k) (N k) (C k)))
  (hp : ∀ W, J W → ∀ k, k < l → Calls Tryz.prog 186 #[.slice (A k) (N k) (C k), p1, p2] W fun e w' => e = .returned (.bool (p k)) ∧ J w')
  (w : World) (hJ : J w) : Calls Tryz.prog 257 #[.slice ha l c, .func (.func 186) #[] #[p1, p2]] w fun e w' => ∃ R : Int, e = .returned (.int .i64 R) ∧ J w' ∧ ((R = -1 ∧ ∀ k, k < l → p k = false) ∨ ∃ k0 : Nat, R = k0 ∧ k0 < l ∧ p k0 = true ∧ ∀ k, k < k0 → p k = false) := by
  have HC := Lib.hid hc
  have HP := Lib.hid hp
  have HA := Lib.hid hha
  clear hc hp hha
  go_enter Tryz.func257, Tryz.ntmps257
  go_wp2
  go_loopw [8] (fun s wr => ∃ k : Nat, k ≤ l ∧ s = .int .i64 k ∧ J wr ∧ Hid (∀ q, q < k → p q = false)) (fun s _ => l - (intOf s).toNat)
  case atStart => exact ⟨0, by omega, rfl, hJ, Lib.hid fun q hq => absurd hq (Nat.not_lt_zero _)⟩
  case round =>
    obtain ⟨k, hk, rfl, hJ1, hq⟩ := hrel
    by_cases hlt : k < l
    · obtain rfl := HA.out (by omega)
      have c1 := HC.out _ hJ1 k hlt
      have HK := Lib.hid (HP.out _ hJ1 k hlt)
      cases hpk : p k with
      | true =>
        rw [hpk] at HK
        have hpk' := Lib.hid hpk
        clear hpk
        go_wp2_with (go_at_call 186; refine (HK.out).mono ?_; rintro e w2 ⟨rfl, hJ2⟩)
        go_ret
        exact ⟨_, rfl, hJ2, .inr ⟨k, rfl, hlt, hpk'.out, hq.out⟩⟩
      | false =>
        rw [hpk] at HK
        have hpk' := Lib.hid hpk
        clear hpk
        have hq' : Hid (∀ q, q < k + 1 → p q = false) := Lib.hid fun q h => (Nat.lt_succ_iff_lt_or_eq.1 h).elim (hq.out q) fun h => h ▸ hpk'.out
        go_wp2_with (go_at_call 186; refine (HK.out).mono ?_; rintro e w2 ⟨rfl, hJ2⟩)
        go_roundw
        case rel => exact ⟨k + 1, by omega, by go_num, hJ2, hq'⟩
        case measure => simp [intOf]; omega
    · obtain rfl : k = l := by omega
      go_wp2
      go_ret
      exact ⟨_, rfl, hJ1, .inl ⟨rfl, hq.out⟩⟩
theorem first_hit (p : Nat → Bool) : ∀ l : Nat, (∀ k, k < l → p k = false) ∨ ∃ k0, k0 < l ∧ p k0 = true ∧ ∀ q, q < k0 → p q = false
  | 0 => .inl fun k hk => absurd hk (Nat.not_lt_zero _)
  | l + 1 => by
    rcases first_hit p l with h | ⟨k0, h1, h2, h3⟩
    · cases hp : p l with
      | true => exact .inr ⟨l, Nat.lt_succ_self _, hp, h⟩
      | false => exact .inl fun k hk => (Nat.lt_succ_iff_lt_or_eq.1 hk).elim (h k) fun c => c ▸ hp
    · exact .inr ⟨k0, Nat.lt_succ_of_lt h1, h2, h3⟩
set_option maxHeartbeats 4000000 in
theorem del_walk (ha : Option Addr) (hb ho l c : Nat) (hha : 0 < l → ha = some ⟨hb, ho, none⟩) (hl : l ≤ 1099511627776) (hlc : l ≤ c) (A : Nat → Option Addr) (N C : Nat → Nat) (p : Nat → Bool) (p1 p2 : Value) (J : World → Prop) (JD : Nat → Nat → World → Prop)
  (hc : ∀ W, J W → ∀ k, k < l → W.cell? ⟨hb, ho + k, none⟩ = some (.slice (A k) (N k) (C k)))
  (hp : ∀ W, J W → ∀ k, k < l → Calls Tryz.prog 186 #[.slice (A k) (N k) (C k), p1, p2] W fun e w' => e = .returned (.bool (p k)) ∧ J w')
  (hst : ∀ W k, J W → k < l → p k = true → (∀ q, q < k → p q = false) → JD k (k + 1) W)
  (hcd : ∀ i j W, JD i j W → i < j ∧ j ≤ l ∧ (j < l → W.cell? ⟨hb, ho + j, none⟩ = some (.slice (A j) (N j) (C j))) ∧ (∃ old, W.cell? ⟨hb, ho + i, none⟩ = some old) ∧ W.frozen? ⟨hb, ho + i, none⟩ = false)
  (hpd : ∀ i j W, JD i j W → j < l → Calls Tryz.prog 186 #[.slice (A j) (N j) (C j), p1, p2] W fun e w' => e = .returned (.bool (p j)) ∧ JD i j w')
  (hkp : ∀ i j W, JD i j W → j < l → p j = false → JD (i + 1) (j + 1) (W.setCell ⟨hb, ho + i, none⟩ (.slice (A j) (N j) (C j))))
  (hsk : ∀ i j W, JD i j W → j < l → p j = true → JD i (j + 1) W)
  (Post : Ending → World → Prop)
  (hall : ∀ W, J W → (∀ k, k < l → p k = false) → Post (.returned (.slice ha l c)) W)
  (hcl : ∀ i W, JD i l W → ∃ W2, (∀ ty, (Builtin.clear_ #[71] ty #[.slice (some ⟨hb, ho + i, none⟩) (l - i) (c - i)]).run Tryz.prog W = .ok (.tuple #[]) W2) ∧ Post (.returned (.slice ha i c)) W2)
  (w : World) (hJ : J w) : Calls Tryz.prog 185 #[.slice ha l c, .func (.func 186) #[] #[p1, p2]] w Post := by
  have HI := Lib.hid (idx_walk ha hb ho l c hha hl A N C p p1 p2 J hc hp w hJ)
  have HA := Lib.hid hha
  have HS := Lib.hid hst
  have HCD := Lib.hid hcd
  have HPD := Lib.hid hpd
  have HKP := Lib.hid hkp
  have HSK := Lib.hid hsk
  have HAL := Lib.hid hall
  have HCL := Lib.hid hcl
  clear hc hp hha hst hcd hpd hkp hsk hall hcl hJ
  rcases first_hit p l with hn | ⟨k0, hk0, hp0, hq0⟩
  · have HI2 : Hid _ := Lib.hid ((HI.out).mono (R' := fun e w' => e = .returned (.int .i64 (-1)) ∧ J w') (by
      rintro e w' ⟨R, rfl, hJ1, ⟨rfl, _⟩ | ⟨k0, _, h1, h2, _⟩⟩
      · exact ⟨rfl, hJ1⟩
      · rw [hn k0 h1] at h2; cases h2))
    have HN := Lib.hid hn
    clear HI hn
    go_enter Tryz.func185, Tryz.ntmps185
    go_wp2_with (go_at_call 257; refine (HI2.out).mono ?_; rintro e w1 ⟨rfl, hJ1⟩)
    exact HAL.out _ hJ1 HN.out
  · have HI2 : Hid _ := Lib.hid ((HI.out).mono (R' := fun e w' => e = .returned (.int .i64 (k0 : Int)) ∧ J w') (by
      rintro e w' ⟨R, rfl, hJ1, ⟨rfl, h1⟩ | ⟨k1, rfl, h1, h2, h3⟩⟩
      · rw [h1 k0 hk0] at hp0; cases hp0
      · have : k1 = k0 := by
          rcases Nat.lt_trichotomy k1 k0 with c | c | c
          · rw [hq0 k1 c] at h2; cases h2
          · exact c
          · rw [h3 k0 c] at hp0; cases hp0
        subst this
        exact ⟨rfl, hJ1⟩))
    have HQ := Lib.hid hq0
    have HP0 := Lib.hid hp0
    clear HI hq0 hp0
    obtain rfl := HA.out (by omega)
    have hne : ((k0 : Int) == -1) = false := beq_eq_false_iff_ne.2 (by omega)
    go_enter Tryz.func185, Tryz.ntmps185
    go_wp2_with (go_at_call 257; refine (HI2.out).mono ?_; rintro e w1 ⟨rfl, hJ1⟩)
    go_loopw [5, 6] (fun s5 s6 wr => ∃ i j : Nat, s5 = .int .i64 i ∧ s6 = .int .i64 j ∧ j ≤ l ∧ JD i j wr) (fun _ s6 _ => l - (intOf s6).toNat)
    case atStart => exact ⟨k0, k0 + 1, rfl, by go_num, by omega, HS.out _ _ hJ1 hk0 HP0.out HQ.out⟩
    case round =>
      obtain ⟨i, j, rfl, rfl, hjl, hJ2⟩ := hrel
      obtain ⟨hij, _, c1, ⟨old, c2⟩, c3⟩ := HCD.out i j _ hJ2
      by_cases hlt : j < l
      · have c1 := c1 hlt
        have HK := Lib.hid (HPD.out i j _ hJ2 hlt)
        cases hpj : p j with
        | true =>
          rw [hpj] at HK
          have hpj' := Lib.hid hpj
          clear hpj
          go_wp2_with (go_at_call 186; refine (HK.out).mono ?_; rintro e w2 ⟨rfl, hJ3⟩)
          have hJ4 := HSK.out i j _ hJ3 hlt hpj'.out
          go_roundw
          case rel => exact ⟨i, j + 1, rfl, by go_num, by omega, hJ4⟩
          case measure => simp [intOf]; omega
        | false =>
          rw [hpj] at HK
          have hpj' := Lib.hid hpj
          clear hpj c2 c3
          have il : (i : Int) < (l : Int) := by omega
          go_wp2_with (go_at_call 186; refine (HK.out).mono ?_; rintro e w2 ⟨rfl, hJ3⟩; obtain ⟨_, _, _, ⟨old2, d2⟩, d3⟩ := HCD.out i j _ hJ3; have hJ4 := HKP.out i j _ hJ3 hlt hpj'.out; clear c1)
          go_roundw
          case rel => exact ⟨i + 1, j + 1, by go_num, by go_num, by omega, hJ4⟩
          case measure => simp [intOf]; omega
      · obtain rfl : j = l := by omega
        obtain ⟨W2, hclr, hpost⟩ := HCL.out i _ hJ2
        have hpost := Lib.hid hpost
        have hic : i ≤ j := by omega
        have hne2 : ¬ c = i := by omega
        clear c1 c2 c3
        go_wp2
        exact hpost.out
end Go.Proofs.YthhogfhffpfkdaaGreatDoor
namespace Go.Proofs.YthhogfhffpfkdaaGreatDoor.D
open Go Go.Den Go.Proofs.YthhogfhffpfkdaaGreatDoor
set_option linter.unusedVariables false
set_option linter.unusedSimpArgs false
set_option maxRecDepth 100000
abbrev GrT' : Ty := .cons (.int .i64) (.sl (.cons (.int .i64) (.int .i64)))
theorem delR_all {c : List Int → Option Bool} : ∀ {L r : List (List Int)}, Lb.delR c L = some r → (∀ d ∈ L, ∃ b, c d = some b) ∧ r = L.filter fun d => !(c d).getD false
  | [], r, h => by cases h; exact ⟨fun d hd => absurd hd List.not_mem_nil, rfl⟩
  | d :: L, r, h => by
    obtain ⟨b, hb, h⟩ := Option.bind_eq_some_iff.1 h
    obtain ⟨s, hs, h⟩ := Option.bind_eq_some_iff.1 h
    obtain ⟨h1, h2⟩ := delR_all hs
    refine ⟨fun e he => ?_, ?_⟩
    · rcases List.mem_cons.1 he with rfl | he
      · exact ⟨b, hb⟩
      · exact h1 e he
    · cases h
      rw [List.filter_cons, hb, h2]
      cases b <;> rfl
/-- the places kept so far -/
def ksp (p : Nat → Bool) (j : Nat) : List Nat := (List.range j).filter fun k => !p k
theorem ksp_keep {p : Nat → Bool} {j : Nat} (h : p j = false) : ksp p (j + 1) = ksp p j ++ [j] := by
  unfold ksp
  rw [List.range_succ, List.filter_append]
  simp [h]
theorem ksp_skip {p : Nat → Bool} {j : Nat} (h : p j = true) : ksp p (j + 1) = ksp p j := by
  unfold ksp
  rw [List.range_succ, List.filter_append]
  simp [h]
theorem ksp_len (p : Nat → Bool) (j : Nat) : (ksp p j).length ≤ j := Nat.le_trans (List.length_filter_le _ _) (by rw [List.length_range]; exact Nat.le_refl _)
theorem ksp_all {p : Nat → Bool} {j : Nat} (h : ∀ k, k < j → p k = false) : ksp p j = List.range j := by
  unfold ksp
  rw [List.filter_eq_self]
  intro k hk
  rw [h k (List.mem_range.1 hk)]
  rfl
theorem filter_ksp {L : List (List Int)} {q : List Int → Bool} : L.filter (fun d => !q d) = (ksp (fun k => q (L.getD k [])) L.length).map fun k => L.getD k [] := by
  have e : L = (List.range L.length).map fun k => L.getD k [] := by
    refine List.ext_getElem? fun i => ?_
    rw [List.getElem?_map]
    by_cases h : i < L.length
    · rw [List.getElem?_range h, List.getElem?_eq_getElem h, Option.map_some, List.getD_eq_getElem?_getD, List.getElem?_eq_getElem h]; rfl
    · rw [List.getElem?_eq_none (by omega), List.getElem?_eq_none (by rw [List.length_range]; omega)]; rfl
  conv => lhs; rw [e]
  rw [List.filter_map]
  rfl
theorem setCells_blk (b : Nat) : ∀ (vs : List Value) (o : Nat) (w : World) {C : Array Value} {te : TypeId}, w.heap[b]? = some (.cells C te (0, 0)) →
    (∃ C', (w.setCells b o vs).heap[b]? = some (.cells C' te (0, 0)) ∧ C'.size = C.size ∧ ∀ q, q < o → C'[q]? = C[q]?) ∧ (∀ c, c ≠ b → (w.setCells b o vs).heap[c]? = w.heap[c]?) ∧ (w.setCells b o vs).heap.size = w.heap.size ∧ (w.setCells b o vs).os = w.os ∧ (w.setCells b o vs).tape = w.tape ∧ (w.setCells b o vs).output = w.output ∧ (w.setCells b o vs).drawn = w.drawn
  | [], o, w, C, te, h => ⟨⟨C, h, rfl, fun _ _ => rfl⟩, fun _ _ => rfl, rfl, rfl, rfl, rfl, rfl⟩
  | v :: vs, o, w, C, te, h => by
    obtain ⟨⟨C', h1, h2, h3⟩, h4, h5, h6, h7, h8, h9⟩ := setCells_blk b vs (o + 1) (w.setCell ⟨b, o, none⟩ v) (heap_setCell_same _ _ _ _ _ _ h)
    rw [World.setCells]
    refine ⟨⟨C', h1, by rw [h2, Array.size_setIfInBounds], fun q hq => ?_⟩, fun c hc => (h4 c hc).trans (heap_setCell_other _ _ _ _ hc), by rw [h5]; show (w.heap.modify _ _).size = _; rw [Array.size_modify], h6, h7, h8, h9⟩
    rw [h3 q (by omega), Array.getElem?_setIfInBounds, if_neg (by omega)]
/-- what lies where while rows are struck: f tells which row's place lies where -/
structure DeJ (D : Prop) (I F : Nat → Prop) (w : World) (gL : G) (l hb ho : Nat) (sz : Nat) (te : TypeId) (f : Nat → Nat) (W : World) : Prop where
  wx : Wx D I F w W
  rows : ∀ k, k < l → ∀ b, bl' (gL.kid k) b → W.heap[b]? = w.heap[b]?
  blk : ∃ C, W.heap[hb]? = some (.cells C te (0, 0)) ∧ C.size = sz ∧ ∀ q, q < l → C[ho + q]? = some (.slice (gL.kid (f q)).addr (gL.kid (f q)).len (gL.kid (f q)).cap)
theorem cellAt {W : World} {b i : Nat} {C : Array Value} {t : TypeId} {fz : Nat × Nat} (h : W.heap[b]? = some (.cells C t fz)) : W.cell? ⟨b, i, none⟩ = C[i]? := by
  simp [World.cell?, h]
theorem frozenAt {W : World} {b i : Nat} {C : Array Value} {t : TypeId} (h : W.heap[b]? = some (.cells C t (0, 0))) : W.frozen? ⟨b, i, none⟩ = false := by
  simp [World.frozen?, h]
theorem delRows_holds {O : Fun Γ} (hO : Go.Den.Good Tryz.prog Γ tau O) {a : List (List Int) × (Lb.GrL × Int)} {r : List (List Int)}
    (hr : Lb.delRows (fun x y z => (O 111 (x, y, z) : Option Bool)) a.1 a.2.1 a.2.2 = some r) : Go.Den.Holds Tryz.prog Γ tau 112 a r := by
  obtain ⟨L, g, q⟩ := a
  unfold Lb.delRows at hr
  simp only at hr
  have hl : L.length ≤ 1099511627776 := by
    by_cases h : L.length ≤ 1099511627776
    · exact h
    · rw [if_neg h] at hr; cases hr
  rw [if_pos hl] at hr
  obtain ⟨hc, hrr⟩ := delR_all hr
  clear hr
  let qq : List Int → Bool := fun d => (O 111 (d, g, q) : Option Bool).getD false
  let p : Nat → Bool := fun k => qq (L.getD k [])
  have hrk : r = (ksp p L.length).map fun k => L.getD k [] := hrr.trans (filter_ksp (q := qq))
  have hpk : ∀ k, k < L.length → (O 111 (L.getD k [], g, q) : Option Bool) = some (p k) := fun k hk => by
    obtain ⟨b, hb⟩ := hc (L.getD k []) (by rw [List.getD_eq_getElem?_getD, List.getElem?_eq_getElem hk]; exact List.getElem_mem _)
    show _ = some ((O 111 (L.getD k [], g, q) : Option Bool).getD false)
    rw [show (O 111 (L.getD k [], g, q) : Option Bool) = some b from hb]; rfl
  clear hrr hc
  intro σ hσ w I F M hM hI hK
  obtain rfl : s112 = σ := Option.some.inj hσ
  have hM' : some [SV.val .reg RRT RRM L, SV.val (.pin none) GrT' (.sh true) g, SV.val (.pin none) (.int .i64) (.sh false) q] = some (M.map Item.sv) := hM
  have hM' := Option.some.inj hM'
  match M, hM', hM, hI with
  | [], h, _, _ => cases h
  | [_], h, _, _ => simp at h
  | [_, _], h, _, _ => simp at h
  | _ :: _ :: _ :: _ :: _, h, _, _ => simp at h
  | [⟨sv0, v0, γ0⟩, ⟨sv1, v1, γ1⟩, ⟨sv2, v2, γ2⟩], hM', hM, hI =>
    simp only [List.map_cons, List.map_nil, List.cons.injEq, and_true] at hM'
    obtain ⟨e0, e1, e2⟩ := hM'
    subst e0; subst e1; subst e2
    let i0 : Den.Item := ⟨.val .reg RRT RRM L, v0, γ0⟩
    let i1 : Den.Item := ⟨.val (.pin none) GrT' (.sh true) g, v1, γ1⟩
    let i2 : Den.Item := ⟨.val (.pin none) (.int .i64) (.sh false) q, v2, γ2⟩
    have m0 : i0 ∈ [i0, i1, i2] := List.mem_cons_self
    have m1 : i1 ∈ [i0, i1, i2] := List.mem_cons_of_mem _ List.mem_cons_self
    have m2 : i2 ∈ [i0, i1, i2] := List.mem_cons_of_mem _ (List.mem_cons_of_mem _ List.mem_cons_self)
    obtain ⟨u1, u2, u3, u4⟩ := hI.ok _ m0
    have hv0 : v0 = .slice γ0.g.addr γ0.g.len γ0.g.cap := u1
    subst hv0
    have hlen : γ0.g.len = L.length := u2.1
    have own0 : ∀ b, Own RRT RRM γ0.g b → F b ∧ ¬ I b ∧ b < w.heap.size := fun b hb => hI.lv _ m0 b hb
    have rowOwn : ∀ k, k < L.length → ∀ b, bl' (γ0.g.kid k) b → F b ∧ ¬ I b ∧ b < w.heap.size := fun k hk b hb => own0 b (.inr ⟨k, by rw [hlen]; exact hk, own_row.2 hb⟩)
    have no1 : ∀ b, ¬ OwnS i1.z i1.γ b := fun b hb => Own.sh GrT' γ1.g true b hb
    have no2 : ∀ b, ¬ OwnS i2.z i2.γ b := fun b hb => hb
    have hle : γ0.g.len ≤ γ0.g.cap := u2.2.1.le
    -- the rows' place
    have hna : 0 < L.length → γ0.g.addr ≠ none := fun h c => by
      rcases u2.2.1 with ⟨_, h0, _⟩ | ⟨hb, ho, C, te, ha, hC, h1, h2, h3⟩
      · have h0' : γ0.g.len = 0 := h0
        omega
      · have ha' : γ0.g.addr = some ⟨hb, ho, none⟩ := ha
        rw [ha'] at c; cases c
    obtain ⟨hb, ho, te, sz, hha, hC0, hbo⟩ : ∃ hb ho te sz, (γ0.g.addr ≠ none → γ0.g.addr = some ⟨hb, ho, none⟩) ∧ (γ0.g.addr ≠ none → ∃ C, w.heap[hb]? = some (.cells C te (0, 0)) ∧ C.size = sz ∧ ho + γ0.g.cap ≤ C.size ∧ ∀ k, k < L.length → C[ho + k]? = some (.slice (γ0.g.kid k).addr (γ0.g.kid k).len (γ0.g.kid k).cap)) ∧ (γ0.g.addr ≠ none → F hb ∧ ¬ I hb ∧ hb < w.heap.size ∧ γ0.g.cap ≤ maxLen) := by
      rcases u2.2.1 with ⟨h, _, _⟩ | ⟨hb, ho, C, te, ha, hC, h1, h2, h3⟩
      · exact ⟨0, 0, 0, 0, fun c => absurd h c, fun c => absurd h c, fun c => absurd h c⟩
      · refine ⟨hb, ho, te, C.size, fun _ => ha, fun _ => ⟨C, hC, rfl, by have h1' : ho + γ0.g.cap * 1 ≤ C.size := h1; omega, fun k hk => ?_⟩, fun _ => ?_⟩
        · have := (u2.2.2 k (by rw [hlen]; exact hk)).1
          obtain ⟨d, hd, hv⟩ := this 0 _ rfl
          rw [ha] at hd; cases hd
          rw [Addr.add_mk, cellAt hC] at hv
          rw [show ho + (k * Ty.size RT + 0) = ho + k by rw [Nat.add_zero]; show ho + k * 1 = ho + k; rw [Nat.mul_one]] at hv
          exact hv
        · have := own0 hb (.inl ⟨_, ha, rfl⟩)
          exact ⟨this.1, this.2.1, this.2.2, h3⟩
    have hbrow : ∀ k, k < L.length → ¬ bl' (γ0.g.kid k) hb := fun k hk hb' => by
      have ha := hha (hna (by omega))
      exact u3.2.2 _ k ha (by rw [hlen]; exact hk) (own_row.2 hb')
    let D := (tau).dr
    let J : (Nat → Nat) → World → Prop := fun f W => (γ0.g.addr ≠ none → DeJ D I F w γ0.g L.length hb ho sz te f W) ∧ Wx D I F w W
    -- a call of the predicate
    have callOk : ∀ f W, J f W → ∀ k, k < L.length → Calls Tryz.prog 186 #[.slice (γ0.g.kid k).addr (γ0.g.kid k).len (γ0.g.kid k).cap, v1, v2] W fun e w' => e = .returned (.bool (p k)) ∧ J f w' := by
      intro f W hJ k hk
      have hd := hJ.1 (hna (by omega))
      obtain ⟨C, c1, c2, c3⟩ := hd.blk
      have hbF := hbo (hna (by omega))
      have hwx := hd.wx
      let I' : Nat → Prop := fun b => I b ∨ ∃ k, k < L.length ∧ bl' (γ0.g.kid k) b
      let F' : Nat → Prop := fun b => F b ∧ b ≠ hb
      let ri : Den.Item := ⟨.val .reg RT (.sh true) (L.getD k []), .slice (γ0.g.kid k).addr (γ0.g.kid k).len (γ0.g.kid k).cap, ⟨none, γ0.g.kid k⟩⟩
      have hrow : Mem w I F RT RM (L.getD k []) (γ0.g.kid k) := (u2.2.2 k (by rw [hlen]; exact hk)).2
      have hrow2 : Mem W noB noB RT RM (L.getD k []) (γ0.g.kid k) := (mem_row hrow : Mem w noB noB RT RM _ _).frame fun b hb => hb.elim (fun hb => hd.rows k hk b (own_row.1 hb)) fun hb => hb.elim
      have okr : Mem W I' F' RT (.sh true) (L.getD k []) (γ0.g.kid k) := Mem.view hrow2 rfl (fun _ => rfl) (fun b (hb : False) => hb.elim) fun b hb => ⟨.inr ⟨k, hk, own_row.1 hb⟩, fun c => by cases c⟩
      have fr : ∀ i ∈ [i1, i2], SlotOk W I' F' i.z i.v i.γ := fun i hi => by
        have hi0 : i ∈ [i0, i1, i2] := List.mem_cons_of_mem _ hi
        have hno : ∀ b, ¬ OwnS i.z i.γ b := fun b => by
          rcases List.mem_cons.1 hi with rfl | hi
          · exact no1 b
          · rw [List.mem_singleton.1 hi]; exact no2 b
        have h1 := (hI.ok i hi0).frame (w' := W) fun b hb => hb.elim (fun hb => absurd hb (hno b)) fun hb => hwx.old b (hI.imm b hb) (.inl hb)
        exact h1.mono2 (fun b hb => .inl hb) fun b hb hF => ⟨hF, fun c => hbF.2.1 (c ▸ hb)⟩
      have hItems : Items W I' F' [ri, i1, i2] := by
        refine ⟨fun i hi => ?_, fun i hi => ?_, ?_, fun i hi b hb => ?_, fun b hb => ?_, fun b hb => ⟨hI.new b (Nat.le_trans hwx.size hb), fun c => by have := hwx.size; omega⟩⟩
        · rcases List.mem_cons.1 hi with rfl | hi
          · exact ⟨rfl, okr, Sep.sh RT _ true, rfl⟩
          · exact fr i hi
        · rcases List.mem_cons.1 hi with rfl | hi
          · exact fun _ _ _ _ _ _ _ c => by cases c
          · exact hI.noref i (List.mem_cons_of_mem _ hi)
        · refine List.pairwise_cons.2 ⟨fun j hj b hb => absurd hb (Own.sh RT (γ0.g.kid k) true b), List.pairwise_cons.2 ⟨fun j hj b hb => absurd hb (no1 b), List.pairwise_singleton _ _⟩⟩
        · rcases List.mem_cons.1 hi with rfl | hi
          · exact absurd hb (Own.sh RT (γ0.g.kid k) true b)
          · rcases List.mem_cons.1 hi with rfl | hi
            · exact absurd hb (no1 b)
            · rw [List.mem_singleton.1 hi] at hb; exact absurd hb (no2 b)
        · rcases hb with hb | ⟨k', hk', hb⟩
          · exact Nat.lt_of_lt_of_le (hI.imm b hb) hwx.size
          · exact Nat.lt_of_lt_of_le (rowOwn k' hk' b hb).2.2 hwx.size
      refine Calls.mono (hO 111 (L.getD k [], g, q) (p k) (hpk k hk) s111 rfl W I' F' [ri, i1, i2] rfl hItems ((hK.wk hwx).less fun b hb => hb.1)) fun e w' he => ?_
      cases e with
      | panicked _ => exact he.elim
      | outgrown => exact he.elim
      | returned v =>
        obtain ⟨hw, J2, M2, N2, k1, k2, k3, k4, k5, k6, k7⟩ := he
        have hx : Wx D I F W w' := ⟨hw.os, hw.tape, hw.output, hw.size, hw.drawn, fun b hb hk => hw.old b hb (hk.imp .inl fun hk c => hk c.1)⟩
        refine ⟨?_, fun hpos => ⟨hwx.trans hx fun _ c => c, fun k' hk' b hb => (hw.old b (Nat.lt_of_lt_of_le (rowOwn k' hk' b hb).2.2 hwx.size) (.inl (.inr ⟨k', hk', hb⟩))).trans (hd.rows k' hk' b hb), C, ?_, c2, c3⟩, hwx.trans hx fun _ c => c⟩
        · have k1' : some [SV.val .reg .bool (.sh false) (p k)] = some (M2.map Den.Item.sv) := k1
          match M2, Option.some.inj k1' with
          | [], k => cases k
          | _ :: _ :: _, k => simp at k
          | [⟨isv, iv, iγ⟩], k =>
            simp only [List.map_cons, List.map_nil, List.cons.injEq, and_true] at k
            subst k
            have := (k3.ok ⟨_, iv, iγ⟩ (List.mem_append_left _ List.mem_cons_self)).1
            rw [k5]
            exact congrArg Ending.returned this
        · rw [hw.old hb (lt_of_block c1) (.inr fun c => c.2 rfl)]; exact c1
    -- what comes out
    have nd : ∀ j, (ksp p j).Nodup := fun j => List.Pairwise.filter _ List.nodup_range
    have kmem : ∀ j k, k ∈ ksp p j → k < j := fun j k hk => List.mem_range.1 (List.mem_filter.1 hk).1
    have fin : ∀ (W : World) (f : Nat → Nat) (n : Nat), n = (ksp p L.length).length → (∀ q, q < n → f q = (ksp p L.length).getD q 0) → Wx D I F w W → (γ0.g.addr ≠ none → (∀ k, k < L.length → ∀ b, bl' (γ0.g.kid k) b → W.heap[b]? = w.heap[b]?) ∧ ∃ C, W.heap[hb]? = some (.cells C te (0, 0)) ∧ C.size = sz ∧ ∀ q, q < n → C[ho + q]? = some (.slice (γ0.g.kid (f q)).addr (γ0.g.kid (f q)).len (γ0.g.kid (f q)).cap)) →
        (Wx D I F w W ∧ ∃ (J : Nat → Prop) (M N : List Den.Item), resSV s112.results ((unProd (Γ.outsL 112) r).take s112.results.length) = some (M.map Item.sv) ∧ backSV s112.params ((unProd (Γ.outsL 112) r).drop s112.results.length) = some (N.map Item.sv) ∧
          Items W J F (M ++ N) ∧ (∀ b, J b → F b ∨ (s112.retain = true ∧ I b)) ∧ Value.slice γ0.g.addr n γ0.g.cap = retV (M.map Item.v) ∧ N.map Item.v = backOf s112.params ([i0, i1, i2].map Item.v) ∧ (∀ i ∈ M ++ N, ∀ b, OwnS i.z i.γ b → ¬ I b)) := by
      intro W f n hn hf hx hpos
      have hnl : n ≤ L.length := by rw [hn]; exact ksp_len p L.length
      have hfl : ∀ q, q < n → f q < L.length := fun q hq => by
        rw [hf q hq, List.getD_eq_getElem?_getD, List.getElem?_eq_getElem (by omega)]
        exact kmem _ _ (List.getElem_mem _)
      have hinj : ∀ q q', q < n → q' < n → f q = f q' → q = q' := fun q q' h1 h2 he => by
        rw [hf q h1, hf q' h2, List.getD_eq_getElem?_getD, List.getD_eq_getElem?_getD, List.getElem?_eq_getElem (by omega), List.getElem?_eq_getElem (by omega)] at he
        have hp := List.pairwise_iff_getElem.1 (nd L.length)
        rcases Nat.lt_trichotomy q q' with c | c | c
        · exact absurd he (hp q q' (by omega) (by omega) c)
        · exact c
        · exact absurd he.symm (hp q' q (by omega) (by omega) c)
      let g' : G := .hd γ0.g.addr n γ0.g.cap fun q => γ0.g.kid (f q)
      have owng : ∀ b, Own RRT RRM g' b → Own RRT RRM γ0.g b := fun b hb => by
        rcases hb with hb | ⟨k, hk, hb⟩
        · exact .inl hb
        · exact .inr ⟨f k, by rw [hlen]; exact hfl k hk, hb⟩
      have hrlen : r.length = n := by rw [hrk, List.length_map, hn]
      have hrq : ∀ q, q < n → r.getD q [] = L.getD (f q) [] := fun q hq => by
        rw [hrk, hf q hq, List.getD_eq_getElem?_getD, List.getElem?_map, List.getD_eq_getElem?_getD (l := ksp p L.length), List.getElem?_eq_getElem (by omega)]
        rfl
      have M1 : Mem W noB noB RRT RRM r g' := by
        refine ⟨hrlen.symm, ?_, fun q hq => ?_⟩
        · rcases u2.2.1 with h | ⟨hb', ho', C', te', ha', _, _, _, h3⟩
          · obtain ⟨h1, h2, h3⟩ := h
            have h2' : γ0.g.len = 0 := h2
            exact .inl ⟨h1, by show n = 0; omega, h3⟩
          · have hl0 : γ0.g.addr ≠ none := fun c => by
              have ha'' : γ0.g.addr = some ⟨hb', ho', none⟩ := ha'
              rw [ha''] at c; cases c
            obtain ⟨_, C, c1, c2, _⟩ := hpos hl0
            obtain ⟨C0, c3, c4, c5, _⟩ := hC0 hl0
            exact .inr ⟨hb, ho, C, te, hha hl0, c1, by show ho + γ0.g.cap * 1 ≤ C.size; omega, by show n ≤ γ0.g.cap; omega, (hbo hl0).2.2.2⟩
        · have hq' : q < n := hq
          obtain ⟨hrows, C, c1, c2, c3⟩ := hpos (hna (by omega))
          have hk := hfl q hq'
          refine ⟨?_, ?_⟩
          · show At W γ0.g.addr (q * 1) [.slice (γ0.g.kid (f q)).addr (γ0.g.kid (f q)).len (γ0.g.kid (f q)).cap]
            rw [hha (hna (by omega)), Nat.mul_one]
            intro k v hv
            cases k with
            | succ k => simp at hv
            | zero =>
              simp only [List.getElem?_cons_zero, Option.some.injEq] at hv
              subst hv
              exact ⟨_, rfl, by rw [Addr.add_mk, Nat.add_zero, cellAt c1]; exact c3 q hq'⟩
          · have hrow : Mem w I F RT RM (L.getD (f q) []) (γ0.g.kid (f q)) := (u2.2.2 (f q) (by rw [hlen]; exact hk)).2
            have := (mem_row hrow : Mem w noB noB RT RM _ _).frame (w' := W) fun b hb => hb.elim (fun hb => hrows _ hk b (own_row.1 hb)) fun hb => hb.elim
            show Mem W noB noB RT RM (r.getD q []) (γ0.g.kid (f q))
            rw [hrq q hq']
            exact this
      have S1 : Den.Sep RRT RRM g' := ⟨fun i hi => u3.1 (f i) (by rw [hlen]; exact hfl i hi), fun i j b hi hj hij => u3.2.1 (f i) (f j) b (by rw [hlen]; exact hfl i hi) (by rw [hlen]; exact hfl j hj) fun c => hij (hinj i j hi hj c), fun ad i ha hi => u3.2.2 ad (f i) ha (by rw [hlen]; exact hfl i hi)⟩
      let it : Den.Item := ⟨.val .reg RRT RRM r, .slice γ0.g.addr n γ0.g.cap, ⟨none, g'⟩⟩
      refine ⟨hx, fun _ => False, [it], [], rfl, rfl, ⟨fun i hi => ?_, fun i hi k r v s d p t c => ?_, List.pairwise_singleton _ _, fun i hi b hb => ?_, fun b hb => hb.elim, fun b hb => hI.new b (Nat.le_trans hx.size hb)⟩, fun b hb => hb.elim, rfl, rfl, fun i hi b hb => ?_⟩
      · obtain rfl : i = it := List.mem_singleton.1 hi
        exact ⟨rfl, mem_rows M1, S1, rfl⟩
      · obtain rfl : i = it := List.mem_singleton.1 hi
        cases c
      · obtain rfl : i = it := List.mem_singleton.1 hi
        have := own0 b (owng b hb)
        exact ⟨this.1, fun k => k, Nat.lt_of_lt_of_le this.2.2 hx.size⟩
      · obtain rfl : i = it := List.mem_singleton.1 hi
        exact (own0 b (owng b hb)).2.1
    have hs : Value.slice γ0.g.addr γ0.g.len γ0.g.cap = .slice γ0.g.addr L.length γ0.g.cap := by rw [hlen]
    show Calls Tryz.prog 185 #[.slice γ0.g.addr γ0.g.len γ0.g.cap, .func (.func 186) #[] #[v1, v2]] w _
    rw [hs]
    let JD : Nat → Nat → World → Prop := fun i j W => ∃ f : Nat → Nat, i = (ksp p j).length ∧ i < j ∧ j ≤ L.length ∧ (∀ q, q < i → f q = (ksp p j).getD q 0) ∧ (∀ q, j ≤ q → q < L.length → f q = q) ∧ J f W
    have J0 : J id w := ⟨fun hn => by
      obtain ⟨C, c1, c2, c3, c4⟩ := hC0 hn
      exact ⟨Wx.refl _ _ _ _, fun _ _ _ _ => rfl, C, c1, c2, c4⟩, Wx.refl _ _ _ _⟩
    refine del_walk γ0.g.addr hb ho L.length γ0.g.cap (fun h => hha (hna h)) hl (by omega) (fun k => (γ0.g.kid k).addr) (fun k => (γ0.g.kid k).len) (fun k => (γ0.g.kid k).cap) p v1 v2 (J id) JD ?_ (callOk id) ?_ ?_ ?_ ?_ ?_ _ ?_ ?_ w J0
    · intro W hJ k hk
      obtain ⟨C, c1, c2, c3⟩ := (hJ.1 (hna (by omega))).blk
      rw [cellAt c1]
      exact c3 k hk
    · intro W k hJ hk hpk1 hq
      have e := ksp_all hq
      have e2 : ksp p (k + 1) = List.range k := by rw [ksp_skip hpk1, e]
      refine ⟨id, by rw [e2, List.length_range], Nat.lt_succ_self k, hk, fun q hq' => ?_, fun q _ _ => rfl, hJ⟩
      rw [e2, List.getD_eq_getElem?_getD, List.getElem?_range hq']
      rfl
    · rintro i j W ⟨f, h1, h2, h3, h4, h5, hJ⟩
      obtain ⟨C, c1, c2, c3⟩ := (hJ.1 (hna (by omega))).blk
      refine ⟨h2, h3, fun hj => ?_, ⟨_, (cellAt c1).trans (c3 i (by omega))⟩, frozenAt c1⟩
      rw [cellAt c1, c3 j hj, h5 j (Nat.le_refl _) hj]
    · rintro i j W ⟨f, h1, h2, h3, h4, h5, hJ⟩ hj
      exact Calls.mono (callOk f W hJ j hj) fun e w' ⟨he, hJ'⟩ => ⟨he, f, h1, h2, h3, h4, h5, hJ'⟩
    · rintro i j W ⟨f, h1, h2, h3, h4, h5, hJ⟩ hj hpj
      have hn := hna (by omega)
      have hd := hJ.1 hn
      have hbF := hbo hn
      obtain ⟨C, c1, c2, c3⟩ := hd.blk
      have oth : ∀ b, b ≠ hb → (W.setCell ⟨hb, ho + i, none⟩ (.slice (γ0.g.kid j).addr (γ0.g.kid j).len (γ0.g.kid j).cap)).heap[b]? = W.heap[b]? := fun b hb' => heap_setCell_other _ _ _ _ hb'
      have hwx : Wx D I F w (W.setCell ⟨hb, ho + i, none⟩ (.slice (γ0.g.kid j).addr (γ0.g.kid j).len (γ0.g.kid j).cap)) := by
        refine hd.wx.trans ⟨rfl, rfl, rfl, by show _ ≤ (W.heap.modify _ _).size; rw [Array.size_modify]; exact Nat.le_refl _, fun _ => Nat.le_refl _, fun b _ hk => oth b fun c => ?_⟩ fun _ c => c
        subst c
        exact hk.elim hbF.2.1 fun k => k hbF.1
      refine ⟨fun q => if q = i then j else f q, by rw [ksp_keep hpj, List.length_append, ← h1]; rfl, by omega, hj, fun q hq => ?_, fun q hq1 hq2 => ?_, fun _ => ⟨hwx, fun k hk b hb' => (oth b fun c => hbrow k hk (c ▸ hb')).trans (hd.rows k hk b hb'), _, heap_setCell_same W hb (ho + i) C te (.slice (γ0.g.kid j).addr (γ0.g.kid j).len (γ0.g.kid j).cap) c1, by rw [Array.size_setIfInBounds]; exact c2, fun q hq => ?_⟩, hwx⟩
      · show (if q = i then j else f q) = _
        rw [ksp_keep hpj, List.getD_eq_getElem?_getD]
        by_cases c : q = i
        · rw [if_pos c, List.getElem?_append_right (by omega), show q - (ksp p j).length = 0 by omega]; rfl
        · rw [if_neg c, List.getElem?_append_left (by omega), ← List.getD_eq_getElem?_getD]
          exact h4 q (by omega)
      · show (if q = i then j else f q) = q
        rw [if_neg (by omega)]
        exact h5 q (by omega) hq2
      · have hlt : ho + q < C.size := (Array.getElem?_eq_some_iff.1 (c3 q hq)).1
        rw [Array.getElem?_setIfInBounds]
        by_cases c : q = i
        · rw [if_pos (by omega), if_pos (by omega)]
          show _ = some (Value.slice (γ0.g.kid (if q = i then j else f q)).addr (γ0.g.kid (if q = i then j else f q)).len (γ0.g.kid (if q = i then j else f q)).cap)
          rw [if_pos c]
        · rw [if_neg (by omega)]
          show _ = some (Value.slice (γ0.g.kid (if q = i then j else f q)).addr (γ0.g.kid (if q = i then j else f q)).len (γ0.g.kid (if q = i then j else f q)).cap)
          rw [if_neg c]
          exact c3 q hq
    · rintro i j W ⟨f, h1, h2, h3, h4, h5, hJ⟩ hj hpj
      exact ⟨f, by rw [ksp_skip hpj]; exact h1, by omega, hj, fun q hq => by rw [ksp_skip hpj]; exact h4 q hq, fun q hq1 hq2 => h5 q (by omega) hq2, hJ⟩
    · intro W hJ hall
      have e := ksp_all hall
      refine fin W id L.length (by rw [e, List.length_range]) (fun q hq => by rw [e, List.getD_eq_getElem?_getD, List.getElem?_range hq]; rfl) hJ.2 fun hn => ?_
      have hd := hJ.1 hn
      obtain ⟨C, c1, c2, c3⟩ := hd.blk
      exact ⟨hd.rows, C, c1, c2, c3⟩
    · rintro i W ⟨f, h1, h2, h3, h4, h5, hJ⟩
      have hn := hna (by omega)
      have hd := hJ.1 hn
      have hbF := hbo hn
      obtain ⟨C, c1, c2, c3⟩ := hd.blk
      obtain ⟨C0, d1, d2, d3, d4⟩ := hC0 hn
      obtain ⟨⟨C', s1, s2, s3⟩, s4, s5, s6, s7, s8, s9⟩ := setCells_blk hb (List.replicate (L.length - i) (.slice none 0 0)) (ho + i) W c1
      refine ⟨W.setCells hb (ho + i) (List.replicate (L.length - i) (.slice none 0 0)), fun ty => Lib.run_clear_slice W 71 34 ty (.slice none 0 0) Tryz.underlying71 Tryz.zeroValue34 rfl rfl hb (ho + i) (L.length - i) (γ0.g.cap - i) (by omega) (fun j hj => ?_) fun j hj => frozenAt c1, ?_⟩
      · rw [cellAt c1, Nat.add_assoc, c3 (i + j) (by omega)]; rfl
      · have hwx : Wx D I F w (W.setCells hb (ho + i) (List.replicate (L.length - i) (.slice none 0 0))) := by
          refine hd.wx.trans ⟨s6, s7, s8, by rw [s5]; exact Nat.le_refl _, fun _ => by rw [s9]; exact Nat.le_refl _, fun b _ hk => s4 b fun c => ?_⟩ fun _ c => c
          subst c
          exact hk.elim hbF.2.1 fun k => k hbF.1
        exact fin _ f i h1 h4 hwx fun _ => ⟨fun k hk b hb' => (s4 b fun c => hbrow k hk (c ▸ hb')).trans (hd.rows k hk b hb'), C', s1, s2.trans c2, fun q hq => by rw [s3 (ho + q) (by omega)]; exact c3 q (by omega)⟩
end Go.Proofs.YthhogfhffpfkdaaGreatDoor.D

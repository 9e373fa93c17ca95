/-
  Texts: both programs read a graph alike.
-/
import Derived.Test.YthmddgkpebneoaaGreatDoorPureFG
import Derived.Test.YthmddgkpebneoaaGreatDoorPurePD
namespace Go.Proofs.YthmddgkpebneoaaGreatDoor.D
open Go Go.Den
set_option linter.unusedVariables false
set_option linter.unusedSimpArgs false
/-- an edge's word -/
def ew (e : Int × Int) : ByteArray := fi e.1 ++ ⟨#[45]⟩ ++ fi e.2
theorem bl_ew (e : Int × Int) : bl (ew e) = bl (fi e.1) ++ 45 :: bl (fi e.2) := by
  unfold ew
  rw [bl_app, bl_app]
  have : bl (⟨#[45]⟩ : ByteArray) = [45] := rfl
  rw [this, List.append_assoc]; rfl
theorem bl_et (e : Int × Int) : bl (et e) = 32 :: bl (ew e) := by
  unfold et ew
  simp only [bl_app]
  rfl
theorem itr_et (l : List (Int × Int)) (s : ByteArray) : ∀ n, n ≤ l.length → bl (itr (fun k s => s ++ et (l.getD k (0, 0))) n s) = bl s ++ ((l.take n).map fun e => bl (et e)).flatten
  | 0, _ => by simp [itr]
  | n + 1, h => by
    rw [itr, bl_app, itr_et l s n (by omega), take_succ (0, 0) (by omega)]
    simp
def hw (n : Int) : ByteArray := fi n ++ ⟨#[58]⟩
theorem bl_hw (n : Int) : bl (hw n) = bl (fi n) ++ [58] := by
  unfold hw
  rw [bl_app]; rfl
theorem fg_jn (g : Gr) : fg g = jn (hw g.1 :: g.2.map ew) (lb [32]) := by
  refine bl_inj ?_
  unfold fg jn
  rw [itr_et _ _ _ (Nat.le_refl _), List.take_length, bl_lb, bl_lb, List.map_cons, Lib.join_cons, Lib.joinTail, List.map_map, List.map_map]
  congr 2
theorem sp_fg (g : Gr) : sp 32 (fg g) = hw g.1 :: g.2.map ew := by
  rw [fg_jn]
  refine sp_jn (by simp) fun w hw' b hb => ?_
  rcases List.mem_cons.1 hw' with h | h
  · subst h
    rw [bl_hw] at hb
    rcases List.mem_append.1 hb with hb | hb
    · exact fi_no (by decide) b hb
    · rw [List.mem_singleton] at hb; subst hb; decide
  · obtain ⟨e, _, rfl⟩ := List.mem_map.1 h
    rw [bl_ew] at hb
    rcases List.mem_append.1 hb with hb | hb
    · exact fi_no (by decide) b hb
    · rcases List.mem_cons.1 hb with hb | hb
      · subst hb; decide
      · exact fi_no (by decide) b hb
theorem fi_nodash {n : Int} (h : 0 ≤ n) : ∀ b ∈ bl (fi n), b ≠ 45 := by
  intro b hb k
  subst k
  rw [fi_pos h] at hb
  have := dd_dig _ _ hb
  unfold IsDig at this
  have e : (45 : UInt8).toNat = 45 := rfl
  omega
theorem index_one {c : UInt8} : ∀ (l m : List UInt8), (∀ b ∈ l, b ≠ c) → Lib.index (l ++ c :: m) [c] = (l.length : Int)
  | [], m, _ => by
    rw [List.nil_append, Lib.index, if_pos (by simp [List.isPrefixOf])]; rfl
  | b :: l, m, h => by
    have ih := index_one l m fun x hx => h x (List.mem_cons_of_mem _ hx)
    rw [List.cons_append, Lib.index, if_neg, ih]
    · have : ((l.length : Int) == -1) = false := beq_eq_false_iff_ne.2 (by omega)
      rw [this]
      simp
    · have hc : b ≠ c := h b (by simp)
      have : (c == b) = false := beq_eq_false_iff_ne.2 fun k => hc k.symm
      simp [List.isPrefixOf, this]
theorem cut_one {c : UInt8} {l m : List UInt8} (h : ∀ b ∈ l, b ≠ c) : Lib.cut (l ++ c :: m) [c] = (l, m, true) := by
  unfold Lib.cut
  rw [index_one l m h, if_pos (by omega)]
  simp only [toNat_n]
  rw [List.take_left, List.drop_append]
  simp
theorem cut_len (l p : List UInt8) : (Lib.cut l p).1.length ≤ l.length ∧ (Lib.cut l p).2.1.length ≤ l.length := by
  unfold Lib.cut
  split
  · simp only [List.length_take, List.length_drop]; omega
  · simp
/-- an edge read -/
def ei (w : ByteArray) : Option (Int × Int) := cond (pInt (lb (Lib.cut (bl w) [45]).1)).2 (cond (pInt (lb (Lib.cut (bl w) [45]).2.1)).2 (some ((pInt (lb (Lib.cut (bl w) [45]).1)).1, (pInt (lb (Lib.cut (bl w) [45]).2.1)).1)) none) none
def es (w : ByteArray) : Option (Int × Int) := match pWords (sp 45 w) with
  | some [x, y] => some (x, y)
  | _ => none
theorem ei_ew {e : Int × Int} (h1 : I64 e.1) (h2 : I64 e.2) (h : 0 ≤ e.1) : ei (ew e) = some e := by
  unfold ei
  rw [bl_ew, cut_one (fi_nodash h)]
  simp only [lb_bl]
  rw [pInt_fi h1, pInt_fi h2]; rfl
theorem es_ew {e : Int × Int} (h1 : I64 e.1) (h2 : I64 e.2) (h : 0 ≤ e.1) (h' : 0 ≤ e.2) : es (ew e) = some e := by
  unfold es sp
  rw [bl_ew, spl_app 45 _ _ (fi_nodash h), spl_none 45 _ (fi_nodash h')]
  simp only [List.map_cons, List.map_nil, lb_bl]
  have := pWords_fi (d := [e.1, e.2]) (fun x hx => by
    simp only [List.mem_cons, List.not_mem_nil, or_false] at hx
    rcases hx with rfl | rfl
    · exact h1
    · exact h2)
  simp only [List.map_cons, List.map_nil] at this
  rw [this]
def allPG (f : ByteArray → Option (Int × Int)) : List ByteArray → Option (List (Int × Int))
  | [] => some []
  | w :: ws => match f w with
    | some e => (allPG f ws).map fun l => e :: l
    | none => none
open Classical in
noncomputable def finG (s : ByteArray) (g : Gr) : Gr × Bool := if GOk g ∧ fg g = s then (g, true) else ((0, []), false)
noncomputable def outG (s : ByteArray) (n : Int) (acc : List (Int × Int)) : Option (List (Int × Int)) → Gr × Bool
  | some l => finG s (n, acc ++ l)
  | none => ((0, []), false)
theorem outG_step (s : ByteArray) (n : Int) (acc : List (Int × Int)) (f : ByteArray → Option (Int × Int)) (w : ByteArray) (ws : List ByteArray) : outG s n acc (allPG f (w :: ws)) = match f w with | some e => outG s n (acc ++ [e]) (allPG f ws) | none => ((0, []), false) := by
  rw [allPG]
  cases f w with
  | none => rfl
  | some e => cases allPG f ws <;> simp [outG]
theorem finG_impl {s : ByteArray} {g : Gr} (h : g.2.length ≤ 9223372036854775807) : ((impl_GraphOk g).bind fun r6 => cond (!r6) (some ((0, ([] : List (Int × Int))), false)) ((impl_FormatGraph g).bind fun r7 => cond (!(r7.toList == s.toList)) (some ((0, ([] : List (Int × Int))), false)) (some (g, true)))) = some (finG s g) := by
  obtain ⟨b, p2, p3⟩ := impl_GraphOk_p h
  obtain ⟨t, q2, q3, q4⟩ := formatGraph_i h
  rw [p2, Option.bind_some, q2, Option.bind_some, toList_eq]
  unfold finG
  cases b with
  | false => rw [if_neg fun k => by have := p3.2 k.1; cases this]; rfl
  | true =>
    have hg := p3.1 rfl
    rw [q3 hg]
    by_cases c : fg g = s
    · rw [if_pos ⟨hg, c⟩, decide_eq_true c]; rfl
    · rw [if_neg fun k => c k.2, decide_eq_false c]; rfl
theorem impl_edges {s : ByteArray} {n : Int} {V : List ByteArray} (hV : V.length ≤ 1048577) (hs : ∀ w ∈ V, w.size ≤ 1048576) : ∀ (d k : Nat) (acc : List (Int × Int)), k + d = V.length → acc.length ≤ k →
    impl_ParseGraph_l0 s (0, []) (n, acc) V (V.length : Int) (k : Int) = some (outG s n acc (allPG ei (V.drop k)))
  | 0, k, acc, hk, ha => by
    have : k = V.length := by omega
    subst this
    rw [impl_ParseGraph_l0_eq, dec_lt_f, cond_false, finG_impl (by simp only; omega), List.drop_length]
    simp [outG, allPG]
  | d + 1, k, acc, hk, ha => by
    have hk' : k < V.length := by omega
    have hm := hs _ (getD_mem ByteArray.empty hk')
    have hl := cut_len (bl (V.getD k ByteArray.empty)) [45]
    rw [size_bl] at hl
    have hb : bl (⟨#[45]⟩ : ByteArray) = [45] := rfl
    rw [impl_ParseGraph_l0_eq, dec_lt_t hk', inside_lt hk', toNat_n, strings_Cut_eq, Lb.cut, if_pos (by omega), hb, drop_getD ByteArray.empty hk', outG_step]
    simp only [cond_true, Option.bind_some]
    rw [impl_ParseInt_p (by rw [size_lb]; omega), impl_ParseInt_p (by rw [size_lb]; omega), ei]
    simp only [Option.bind_some, List.length_cons, List.length_nil]
    cases (pInt (lb (Lib.cut (bl (V.getD k ByteArray.empty)) [45]).1)).2 with
    | false => rfl
    | true =>
      cases (pInt (lb (Lib.cut (bl (V.getD k ByteArray.empty)) [45]).2.1)).2 with
      | false => rfl
      | true =>
        simp only [Bool.not_true, cond_false, cond_true]
        rw [decide_eq_true (by rw [room]; omega), cond_true, impl_ParseGraph_c15_eq, w64_succ hk' (by omega), impl_edges hV hs d (k + 1) _ (by omega) (by simp; omega)]
def PGR (s : ByteArray) (r : Gr × Bool) : Prop := (r = ((0, []), false) ∨ ∃ g, GOk g ∧ s = fg g ∧ r = (g, true)) ∧ ∀ g, GOk g → s = fg g → r = (g, true)
theorem PGR.eq {s : ByteArray} {r q : Gr × Bool} (hr : PGR s r) (hq : PGR s q) : r = q := by
  rcases hr.1 with h | ⟨m, h1, h2, h3⟩
  · rcases hq.1 with k | ⟨m, k1, k2, k3⟩
    · rw [h, k]
    · rw [hr.2 m k1 k2, k3]
  · rw [h3, hq.2 m h1 h2]
theorem allPG_ew {f : ByteArray → Option (Int × Int)} : ∀ {l : List (Int × Int)}, (∀ e ∈ l, f (ew e) = some e) → allPG f (l.map ew) = some l
  | [], _ => rfl
  | e :: l, h => by
    rw [List.map_cons, allPG, h e List.mem_cons_self, allPG_ew fun x hx => h x (List.mem_cons_of_mem _ hx)]
    rfl
theorem pgr_of {s t : ByteArray} {f : ByteArray → Option (Int × Int)} (ht : ∀ g, GOk g → s = fg g → t = fi g.1) (hf : ∀ e : Int × Int, I64 e.1 → I64 e.2 → 0 ≤ e.1 → 0 ≤ e.2 → f (ew e) = some e) :
    PGR s (cond (!(pInt t).2) ((0, []), false) (outG s (pInt t).1 [] (allPG f ((sp 32 s).drop 1)))) := by
  constructor
  · cases (pInt t).2 with
    | false => exact .inl rfl
    | true =>
      simp only [Bool.not_true, cond_false]
      cases allPG f ((sp 32 s).drop 1) with
      | none => exact .inl rfl
      | some l =>
        simp only [outG, List.nil_append, finG]
        split
        · rename_i h
          exact .inr ⟨_, h.1, h.2.symm, rfl⟩
        · exact .inl rfl
  · intro g hg hs
    obtain ⟨⟨hn, hl, he⟩, _⟩ := id hg
    have i1 : I64 g.1 := ⟨by omega, by omega⟩
    have hall : allPG f ((sp 32 s).drop 1) = some g.2 := by
      rw [hs, sp_fg, List.drop_one, List.tail_cons]
      refine allPG_ew fun e hm => ?_
      obtain ⟨i, hi, rfl⟩ := List.mem_iff_getElem.1 hm
      have := he i hi
      rw [getD_lt hi] at this
      unfold EdOk at this
      exact hf _ ⟨by omega, by omega⟩ ⟨by omega, by omega⟩ (by omega) (by omega)
    rw [ht g hg hs, pInt_fi i1, hall]
    simp only [Bool.not_true, cond_false, outG, List.nil_append, finG]
    rw [if_pos ⟨hg, hs.symm⟩]
theorem words_rest {W : List ByteArray} (h : 0 < W.length) : (decide (0 ≤ 1) && decide (1 ≤ (W.length : Int)) && decide ((W.length : Int) ≤ (W.length : Int))) = true := by
  simp; omega
theorem impl_pg {s : ByteArray} (hs : s.size ≤ 1048576) : ∃ r, impl_ParseGraph s = some r ∧ PGR s r := by
  have e := splitAny_i (c := 32) hs
  have e' : impl_SplitAny s ⟨#[32]⟩ = some (sp 32 s) := e
  have hp := List.length_pos_iff.2 (sp_ne 32 s)
  have hlen := sp_len 32 s
  have hw := sp_word 32 s
  have hb : bl (⟨#[58]⟩ : ByteArray) = [58] := rfl
  have m0 := hw _ (getD_mem ByteArray.empty hp)
  have i0 : inside 0 (sp 32 s).length = true := inside_lt (k := 0) hp
  refine ⟨_, ?_, pgr_of (t := lb (Lib.trimSuffix (bl ((sp 32 s).getD 0 ByteArray.empty)) [58])) (f := ei) (fun g hg h => ?_) fun e h1 h2 h3 _ => ei_ew h1 h2 h3⟩
  · rw [impl_ParseGraph_eq, e', Option.bind_some, i0, cond_true, strings_TrimSuffix_eq, Lb.trimSuffix, if_pos (by omega), hb, Option.bind_some]
    have zt : (lb (Lib.trimSuffix (bl ((sp 32 s).getD 0 ByteArray.empty)) [58])).size ≤ 281474976710656 := by
      rw [size_lb, Lib.trimSuffix]
      split
      · rw [List.length_take, size_bl]; omega
      · rw [size_bl]; omega
    rw [impl_ParseInt_p zt, Option.bind_some]
    cases (pInt (lb (Lib.trimSuffix (bl ((sp 32 s).getD 0 ByteArray.empty)) [58]))).2 with
    | false => rfl
    | true =>
      simp only [Bool.not_true, cond_false]
      rw [words_rest hp, cond_true, toNat_n, List.take_length]
      have := impl_edges (s := s) (n := (pInt (lb (Lib.trimSuffix (bl ((sp 32 s).getD 0 ByteArray.empty)) [58]))).1) (V := (sp 32 s).drop 1) (by rw [List.length_drop]; omega) (fun w hw' => Nat.le_trans (hw w (List.mem_of_mem_drop hw')) hs) ((sp 32 s).drop 1).length 0 [] (by omega) (Nat.zero_le _)
      exact this
  · rw [h, sp_fg, List.getD_cons_zero, bl_hw]
    unfold Lib.trimSuffix Lib.hasSuffix
    rw [if_pos (by simp)]
    simp [lb_bl]
end Go.Proofs.YthmddgkpebneoaaGreatDoor.D

/-
  FnConsole: the draws, the session, the law.
-/
import Derived.Test.YthhogfhffpfkdaaGreatDoorPureCo
namespace Go.Proofs.YthhogfhffpfkdaaGreatDoor.D.Cs
open Go Go.Den Go.Proofs.YthhogfhffpfkdaaGreatDoor.D
set_option linter.unusedVariables false
set_option maxRecDepth 100000
abbrev nil' : ByteArray := ⟨#[]⟩
abbrev nl : ByteArray := ⟨#[10]⟩
def firstL : List ByteArray := [⟨#[103, 114, 97, 112, 104, 32, 51, 58, 32, 48, 45, 49, 32, 48, 45, 49, 32, 48, 45, 50, 32, 49, 45, 50]⟩, ⟨#[103, 114, 97, 112, 104, 32, 52, 58, 32, 48, 45, 49, 32, 48, 45, 51, 32, 49, 45, 50, 32, 50, 45, 51]⟩, ⟨#[103, 114, 97, 112, 104, 32, 51, 58, 32, 48, 45, 49, 32, 49, 45, 50]⟩, ⟨#[103, 114, 97, 112, 104, 32, 52, 58, 32, 48, 45, 49, 32, 48, 45, 50, 32, 48, 45, 51, 32, 49, 45, 50, 32, 49, 45, 51, 32, 50, 45, 51]⟩]
def good (l : ByteArray) : Bool := ((bl l).all fun b => decide (b ≠ 10)) && Nat.ble l.size 100
theorem good_ok {l : ByteArray} (h : good l = true) : (∀ b ∈ bl l, b ≠ 10) ∧ l.size ≤ 100 := by
  unfold good at h
  rw [Bool.and_eq_true, List.all_eq_true] at h
  exact ⟨fun b hb => of_decide_eq_true (h.1 b hb), Nat.le_of_ble_eq_true h.2⟩
theorem good_pl {l : ByteArray} (h : Pl l) : good l = true := by
  have k1 : keepL.all good = true := by kernel_rfl
  have k2 : nextL.all good = true := by kernel_rfl
  have k3 : concL.all good = true := by kernel_rfl
  have k4 : lookL.all good = true := by kernel_rfl
  rw [List.all_eq_true] at k1 k2 k3 k4
  rcases h with h | h | h | h
  · exact k1 l h
  · exact k2 l h
  · exact k3 l h
  · exact k4 l h
theorem good_first {l : ByteArray} (h : l ∈ firstL) : good l = true := by
  have k1 : firstL.all good = true := by kernel_rfl
  rw [List.all_eq_true] at k1
  exact k1 l h
def inL (L : List ByteArray) (l : ByteArray) : Bool := L.any fun x => decide (x = l)
theorem inL_mem {L : List ByteArray} {l : ByteArray} (h : inL L l = true) : l ∈ L := by
  unfold inL at h
  rw [List.any_eq_true] at h
  obtain ⟨x, h1, h2⟩ := h
  rw [← of_decide_eq_true h2]; exact h1
theorem pl_of {L : List ByteArray} (h : (L.all fun l => inL keepL l || (inL nextL l || (inL concL l || inL lookL l))) = true) : ∀ l ∈ L, Pl l := by
  rw [List.all_eq_true] at h
  intro l hl
  have := h l hl
  simp only [Bool.or_eq_true] at this
  exact this.imp inL_mem fun h => h.imp inL_mem fun h => h.imp inL_mem inL_mem
theorem str_p {c : Cur} (hc : CurOk c) {L : List ByteArray} (h1 : 1 ≤ L.length) (h2 : L.length ≤ 256) : ∃ l c', spec_l01Str c L = some (l, c') ∧ l ∈ L ∧ CurOk c' := by
  obtain ⟨x, c', k1, k2, k3⟩ := below_p hc (n := (L.length : Int)) (by omega) (by omega)
  rw [spec_l01Str_eq, k1, Option.bind_some, inside_int k2.1 k2.2, cond_true]
  refine ⟨_, _, rfl, ?_, k3⟩
  have hx : x.toNat < L.length := by omega
  rw [List.getD_eq_getElem?_getD, List.getElem?_eq_getElem hx]
  exact List.getElem_mem hx
theorem line_p {c : Cur} (hc : CurOk c) : ∃ l c', spec_l20Line c = some (l, c') ∧ Pl l ∧ CurOk c' := by
  obtain ⟨x, c1, k1, k2, k3⟩ := below_p hc (n := 4) (by omega) (by omega)
  have fin : ∀ {L : List ByteArray}, 1 ≤ L.length → L.length ≤ 256 → (L.all fun l => inL keepL l || (inL nextL l || (inL concL l || inL lookL l))) = true → ∃ l c', ((spec_l01Str c1 L).bind fun r => some (r.1, r.2)) = some (l, c') ∧ Pl l ∧ CurOk c' := fun {L} h1 h2 h3 => by
    obtain ⟨l, c', j1, j2, j3⟩ := str_p k3 h1 h2
    rw [j1]
    exact ⟨l, c', rfl, pl_of h3 l j2, j3⟩
  rw [spec_l20Line_eq, k1, Option.bind_some]
  have hx : x = 0 ∨ x = 1 ∨ x = 2 ∨ x = 3 := by omega
  rcases hx with rfl | rfl | rfl | rfl
  · exact fin (by decide) (by decide) (by kernel_rfl)
  · exact fin (by decide) (by decide) (by kernel_rfl)
  · exact fin (by decide) (by decide) (by kernel_rfl)
  · exact fin (by decide) (by decide) (by kernel_rfl)
theorem script_p : ∀ (n : Nat) {c : Cur} (x : List ByteArray), n + x.length ≤ 100 → CurOk c → ∃ r c', spec_l20Script_l0 c x (n : Int) = some (x ++ r, c') ∧ (∀ l ∈ r, Pl l) ∧ r.length = n
  | 0, c, x, _, hc => ⟨[], c, by rw [spec_l20Script_l0_eq, List.append_nil]; rfl, fun l hl => absurd hl (List.not_mem_nil), rfl⟩
  | n + 1, c, x, hn, hc => by
    obtain ⟨l, c1, k1, k2, k3⟩ := line_p hc
    obtain ⟨r, c', j1, j2, j3⟩ := script_p n (x ++ [l]) (by rw [List.length_append, List.length_singleton]; omega) k3
    refine ⟨l :: r, c', ?_, fun y hy => ?_, by rw [List.length_cons, j3]⟩
    · rw [spec_l20Script_l0_eq, decide_eq_true (show ((n + 1 : Nat) : Int) > 0 by omega), cond_true, k1, Option.bind_some, decide_eq_true (by unfold room; simp only [List.length_cons, List.length_nil]; omega), cond_true, w64_id (n := ((n + 1 : Nat) : Int) - 1) (by omega) (by omega), show ((n + 1 : Nat) : Int) - 1 = (n : Int) by omega, j1, List.append_assoc]
      rfl
    · rcases List.mem_cons.1 hy with rfl | hy
      · exact k2
      · exact j2 y hy
theorem lines_p {l : List Int} (hl : l.length ≤ 1048576) : ∃ f r, spec_MakeLines l = some (f :: r) ∧ f ∈ firstL ∧ (∀ x ∈ r, Pl x) ∧ r.length ≤ 8 := by
  obtain ⟨c, c1, c2⟩ := new_p hl
  obtain ⟨f, c3, k1, k2, k3⟩ := str_p c2 (L := firstL) (by decide) (by decide)
  obtain ⟨x, c4, j1, j2, j3⟩ := below_p k3 (n := 8) (by omega) (by omega)
  obtain ⟨r, c5, i1, i2, i3⟩ := script_p (1 + x).toNat [f] (by simp only [List.length_singleton]; omega) j3
  refine ⟨f, r, ?_, k2, i2, by omega⟩
  rw [spec_MakeLines_eq, c1, Option.bind_some, spec_l20Script_eq]
  have k1' := k1
  unfold firstL at k1'
  rw [k1', Option.bind_some, j1, Option.bind_some, w64_id (n := 1 + x) (by omega) (by omega), show (1 + x : Int) = (((1 + x).toNat : Nat) : Int) by omega, i1]
  rfl
abbrev newC : ZC := ((1, ([] : List (Int × Int))), ([0] : List Int), 0)
def ne1 (r : Option (ZC × ByteArray)) : Bool := match r with | some p => Nat.ble 1 p.2.size | none => false
theorem first1 {f : ByteArray} {g : Nat} {d : List Int} (h1 : fo (K.impl_RunLine newC f) = (some (cn (g, d, 0)), true)) (h2 : ne1 (K.impl_RunLine newC f) = true) (h3 : Nat.ble 9 (lv g 0 d) = true) : ∃ c s, D.impl_RunLine newC f = some (c, s) ∧ 1 ≤ s.size ∧ s.size ≤ 1000 ∧ Ok 8 c := by
  obtain ⟨s, e, hs⟩ := fo_ok h1
  rw [e] at h2
  exact ⟨_, s, K.impl_RunLine_s _ e, Nat.le_of_ble_eq_true h2, hs, main 8 g 0 d (Nat.le_of_ble_eq_true h3)⟩
theorem first_p {f : ByteArray} (h : f ∈ firstL) : ∃ c s, D.impl_RunLine newC f = some (c, s) ∧ 1 ≤ s.size ∧ s.size ≤ 1000 ∧ Ok 8 c := by
  simp only [firstL, List.mem_cons, List.not_mem_nil, or_false] at h
  rcases h with rfl | rfl | rfl | rfl
  · exact first1 (g := 0) (d := [0, 0, 0]) (by kernel_rfl) (by kernel_rfl) (by kernel_rfl)
  · exact first1 (g := 1) (d := [0, 0, 0, 0]) (by kernel_rfl) (by kernel_rfl) (by kernel_rfl)
  · exact first1 (g := 2) (d := [0, 0, 0]) (by kernel_rfl) (by kernel_rfl) (by kernel_rfl)
  · exact first1 (g := 3) (d := [0, 0, 0, 0]) (by kernel_rfl) (by kernel_rfl) (by kernel_rfl)
/-- what the lines say, one behind the other -/
noncomputable def acc : ZC → List ByteArray → ByteArray → Option ByteArray
  | _, [], out => some out
  | c, l :: ls, out => (D.impl_RunLine c l).bind fun r => acc r.1 ls (cond (decide (r.2 = nil')) out (out ++ (r.2 ++ nl)))
theorem acc_mono : ∀ {ls : List ByteArray} {c : ZC} {out w : ByteArray}, acc c ls out = some w → out.size ≤ w.size
  | [], c, out, w, h => by cases h; exact Nat.le_refl _
  | l :: ls, c, out, w, h => by
    obtain ⟨r, _, h2⟩ := Option.bind_eq_some_iff.1 h
    have := acc_mono h2
    by_cases k : r.2 = nil'
    · rw [decide_eq_true k, cond_true] at this
      exact this
    · rw [decide_eq_false k, cond_false, size_app] at this
      omega
theorem acc_ok : ∀ {ls : List ByteArray} {c : ZC} {out : ByteArray} {n : Nat}, ls.length ≤ n → Ok n c → (∀ l ∈ ls, Pl l) → ∃ w, acc c ls out = some w ∧ w.size ≤ out.size + 1001 * ls.length
  | [], c, out, n, _, _, _ => ⟨out, rfl, Nat.le_add_right _ _⟩
  | l :: ls, c, out, 0, h, _, _ => absurd h (by simp)
  | l :: ls, c, out, n + 1, h, hc, hp => by
    obtain ⟨c', s, e, hs, hc'⟩ := hc l (hp l List.mem_cons_self)
    have hn : ls.length ≤ n := by rw [List.length_cons] at h; omega
    obtain ⟨w, k1, k2⟩ := acc_ok (out := cond (decide (s = nil')) out (out ++ (s ++ nl))) hn hc' fun x hx => hp x (List.mem_cons_of_mem _ hx)
    refine ⟨w, by show (D.impl_RunLine c l).bind _ = _; rw [e]; exact k1, ?_⟩
    rw [List.length_cons]
    by_cases k : s = nil'
    · rw [decide_eq_true k, cond_true] at k2
      omega
    · rw [decide_eq_false k, cond_false, size_app, size_app] at k2
      have : nl.size = 1 := rfl
      omega
theorem empty_line {c : ZC} {r : ZC × ByteArray} (h : D.impl_RunLine c nil' = some r) : r.2 = nil' := by
  rw [impl_RunLine_eq] at h
  obtain ⟨c', _, h2⟩ := Option.bind_eq_some_iff.1 h
  have e : (nil'.toList == (⟨#[]⟩ : ByteArray).toList) = true := by rw [toList_eq]; exact decide_eq_true rfl
  rw [e, cond_true] at h2
  exact (Option.some.inj h2) ▸ rfl
theorem acc_snoc : ∀ {ls : List ByteArray} {c : ZC} {out w : ByteArray}, acc c (ls ++ [nil']) out = some w → acc c ls out = some w
  | [], c, out, w, h => by
    obtain ⟨r, h1, h2⟩ := Option.bind_eq_some_iff.1 h
    rw [decide_eq_true (empty_line h1), cond_true] at h2
    exact h2
  | l :: ls, c, out, w, h => by
    obtain ⟨r, h1, h2⟩ := Option.bind_eq_some_iff.1 h
    show (D.impl_RunLine c l).bind _ = _
    rw [h1]
    exact acc_snoc h2
theorem drop_cons {L : List ByteArray} {k : Nat} (h : k < L.length) : L.drop k = L.getD k ByteArray.empty :: L.drop (k + 1) := by
  rw [List.drop_eq_getElem_cons h, List.getD_eq_getElem?_getD, List.getElem?_eq_getElem h]
  rfl
theorem step_sz {c : ZC} {l : ByteArray} {r : ZC × ByteArray} {ls : List ByteArray} {out w : ByteArray} (h2 : acc r.1 ls (cond (decide (r.2 = nil')) out (out ++ (r.2 ++ nl))) = some w) (hw : w.size ≤ 1000000) (k : ¬ r.2 = nil') : out.size + r.2.size + 1 ≤ 1000000 := by
  have := acc_mono h2
  rw [decide_eq_false k, cond_false, size_app, size_app] at this
  have e : nl.size = 1 := rfl
  omega
theorem sess_l0 {L x4 : List ByteArray} (hL : L.length ≤ 100) : ∀ (m k : Nat) {c : ZC} {out w : ByteArray}, k + m = L.length → acc c (L.drop k) out = some w → w.size ≤ 1000000 → impl_RunSession_l0 x4 c out L (L.length : Int) (k : Int) = some (w, (x4.length : Int))
  | 0, k, c, out, w, hk, h, hw => by
    rw [List.drop_eq_nil_of_le (by omega)] at h
    cases h
    rw [impl_RunSession_l0_eq, decide_eq_false (by omega), cond_false]
  | m + 1, k, c, out, w, hk, h, hw => by
    rw [drop_cons (by omega)] at h
    obtain ⟨r, h1, h2⟩ := Option.bind_eq_some_iff.1 h
    rw [impl_RunSession_l0_eq, decide_eq_true (by omega), cond_true, inside_lt (by omega), cond_true, Int.toNat_natCast, h1, Option.bind_some, toList_eq, w64_succ (n := L.length) (by omega) (by omega)]
    by_cases q : r.2 = nil'
    · have h2' := h2
      rw [decide_eq_true q, cond_true] at h2'
      rw [decide_eq_true q, Bool.not_true, cond_false]
      exact sess_l0 hL m (k + 1) (by omega) h2' hw
    · have hz := step_sz (c := c) (l := nl) h2 hw q
      have h2' := h2
      have e : nl.size = 1 := rfl
      have e3 : (({ data := #[10] } : ByteArray)).size = 1 := rfl
      rw [decide_eq_false q, cond_false] at h2'
      rw [decide_eq_false q, Bool.not_false, cond_true, decide_eq_true (show r.2.size + nl.size ≤ 9223372036854775807 by omega), cond_true, decide_eq_true (by rw [size_app]; omega), cond_true]
      exact sess_l0 hL m (k + 1) (by omega) h2' hw
/-- the law behind its loop -/
noncomputable def FIN (L : List ByteArray) (w : ByteArray) : Option Bool :=
  (D.impl_Join L (⟨#[10]⟩ : ByteArray)).bind fun r4 =>
    (D.impl_RunSession r4).bind fun r5 =>
     cond (!(w.toList == (⟨#[]⟩ : ByteArray).toList))
      (cond (r5.1.toList == w.toList)
       (cond (decide (r5.2 ≥ w64 ((L.length : Int) - 1)))
        (some (decide (r5.2 ≤ (L.length : Int))))
        (some false))
       (some false))
      (some false)
theorem law_l0 {L : List ByteArray} (hL : L.length ≤ 100) : ∀ (m k : Nat) {c : ZC} {out w : ByteArray}, k + m = L.length → acc c (L.drop k) out = some w → w.size ≤ 1000000 → laws_FnConsole_l0 L c out (L.length : Int) (k : Int) = FIN L w
  | 0, k, c, out, w, hk, h, hw => by
    rw [List.drop_eq_nil_of_le (by omega)] at h
    cases h
    rw [laws_FnConsole_l0_eq, decide_eq_false (by omega), cond_false]
    rfl
  | m + 1, k, c, out, w, hk, h, hw => by
    rw [drop_cons (by omega)] at h
    obtain ⟨r, h1, h2⟩ := Option.bind_eq_some_iff.1 h
    rw [laws_FnConsole_l0_eq, decide_eq_true (by omega), cond_true, inside_lt (by omega), cond_true, Int.toNat_natCast, h1, Option.bind_some, toList_eq, w64_succ (n := L.length) (by omega) (by omega)]
    by_cases q : r.2 = nil'
    · have h2' := h2
      rw [decide_eq_true q, cond_true] at h2'
      rw [decide_eq_true q, Bool.not_true, cond_false]
      exact law_l0 hL m (k + 1) (by omega) h2' hw
    · have hz := step_sz (c := c) (l := nl) h2 hw q
      have h2' := h2
      have e : nl.size = 1 := rfl
      have e3 : (({ data := #[10] } : ByteArray)).size = 1 := rfl
      rw [decide_eq_false q, cond_false] at h2'
      rw [decide_eq_false q, Bool.not_false, cond_true, decide_eq_true (show out.size + r.2.size ≤ 9223372036854775807 by omega), cond_true, decide_eq_true (show (out ++ r.2).size + nl.size ≤ 9223372036854775807 by rw [size_app]; omega), cond_true, ByteArray.append_assoc]
      exact law_l0 hL m (k + 1) (by omega) h2' hw
theorem session {L : List ByteArray} (h0 : L ≠ []) (hL : L.length ≤ 40) (hg : ∀ l ∈ L, good l = true) {w : ByteArray} (h : acc newC L nil' = some w) (hw : w.size ≤ 1000000) : ∃ m : Int, D.impl_RunSession (jn L nl) = some (w, m) ∧ (L.length : Int) - 1 ≤ m ∧ m ≤ (L.length : Int) := by
  have hsz : (jn L nl).size ≤ 1000000 := by
    have := jn_size (l := L) (sep := nl) (fun s hs => by have := (good_ok (hg s hs)).2; omega) (by decide) L.length (Nat.le_refl _)
    rw [List.take_length] at this
    omega
  have hsp : D.impl_SplitAny (jn L nl) nl = some L := by
    have := splitAny_i (s := jn L nl) (c := 10) (by omega)
    have sj : sp 10 (jn L nl) = L := sp_jn (c := 10) h0 fun x hx b hb => (good_ok (hg x hx)).1 b hb
    rw [sj] at this
    exact this
  have hlen : 1 ≤ L.length := by
    rcases Nat.eq_zero_or_pos L.length with k | k
    · exact absurd (List.eq_nil_of_length_eq_zero k) h0
    · exact k
  have fin : ∀ L' : List ByteArray, acc newC L' nil' = some w → L'.length ≤ 40 → (cond (decide ((L'.length : Int) > 40)) (some ((⟨#[]⟩ : ByteArray), (-1 : Int))) (D.impl_NewConsole.bind fun r2 => D.impl_RunSession_l0 L' r2 (⟨#[]⟩ : ByteArray) L' (L'.length : Int) 0)) = some (w, (L'.length : Int)) := fun L' h' hl' => by
    rw [decide_eq_false (by omega), cond_false, impl_NewConsole_eq, Option.bind_some]
    exact sess_l0 (x4 := L') (by omega) L'.length 0 (by omega) (by rw [List.drop_zero]; exact h') hw
  rw [impl_RunSession_eq, impl_SplitLines_eq, hsp, Option.bind_some, w64_id (n := (L.length : Int) - 1) (by omega) (by omega), inside_int (by omega) (by omega), cond_true, toList_eq]
  have hn : ((L.length : Int) - 1).toNat = L.length - 1 := by omega
  rw [hn]
  by_cases q : L.getD (L.length - 1) ByteArray.empty = ⟨#[]⟩
  · rw [decide_eq_true q, cond_true, decide_eq_true (Nat.le_refl 0), decide_eq_true (show (0 : Int) ≤ (L.length : Int) - 1 by omega), decide_eq_true (show (L.length : Int) - 1 ≤ (L.length : Int) by omega)]
    simp only [Bool.and_self, cond_true, Option.bind_some, List.drop_zero]
    have e : L = L.take (L.length - 1) ++ [nil'] := by
      have e1 : L = L.take (L.length - 1) ++ L.drop (L.length - 1) := (List.take_append_drop _ _).symm
      have e2 : L.drop (L.length - 1) = [nil'] := by
        rw [drop_cons (by omega), q, List.drop_eq_nil_of_le (by omega)]
      rw [e2] at e1
      exact e1
    have h' : acc newC (L.take (L.length - 1)) nil' = some w := acc_snoc (by rw [← e]; exact h)
    have hl' : (L.take (L.length - 1)).length = L.length - 1 := by rw [List.length_take]; omega
    refine ⟨_, fin _ h' (by omega), ?_, ?_⟩ <;> rw [hl'] <;> omega
  · rw [decide_eq_false q, cond_false, Option.bind_some]
    exact ⟨_, fin L h hL, by omega, Int.le_refl _⟩
end Go.Proofs.YthhogfhffpfkdaaGreatDoor.D.Cs
namespace Go.Proofs.YthhogfhffpfkdaaGreatDoor.D
open Go Go.Den Cs
theorem law_Console {l : List Int} : laws_FnConsole l = some true := by
  rw [laws_FnConsole_eq]
  by_cases hl : l.length ≤ 1048576
  case neg => rw [decide_eq_true (show (l.length : Int) > 1048576 by omega)]; rfl
  rw [decide_eq_false (show ¬ (l.length : Int) > 1048576 by omega), cond_false]
  obtain ⟨f, r, k1, k2, k3, k4⟩ := lines_p hl
  obtain ⟨c, s, e, s1, s2, hc⟩ := first_p k2
  obtain ⟨w, w1, w2⟩ := acc_ok (out := nil' ++ (s ++ nl)) k4 hc k3
  have hs : ¬ s = nil' := fun q => by rw [q] at s1; exact absurd s1 (by decide)
  have hacc : acc newC (f :: r) nil' = some w := by
    show (impl_RunLine newC f).bind _ = _
    rw [e, Option.bind_some, decide_eq_false hs, cond_false]
    exact w1
  have e1 : nl.size = 1 := rfl
  have e0 : nil'.size = 0 := rfl
  have hw : w.size ≤ 1000000 := by rw [size_app, size_app] at w2; omega
  have hw1 : ¬ w = nil' := fun q => by
    have := acc_mono w1
    rw [q, size_app, size_app] at this
    omega
  have hlen : (f :: r).length ≤ 9 := by rw [List.length_cons]; omega
  have hgood : ∀ x ∈ f :: r, good x = true := fun x hx => by
    rcases List.mem_cons.1 hx with rfl | hx
    · exact good_first k2
    · exact good_pl (k3 x hx)
  rw [k1, Option.bind_some, impl_NewConsole_eq, Option.bind_some]
  refine (law_l0 (L := f :: r) (by omega) (f :: r).length 0 (by omega) (by rw [List.drop_zero]; exact hacc) hw).trans ?_
  obtain ⟨m, m1, m2, m3⟩ := session (L := f :: r) (by simp) (by omega) hgood hacc hw
  unfold FIN
  rw [impl_Join_p (by omega) (fun x hx => by have := (good_ok (hgood x hx)).2; omega) (by decide), Option.bind_some, m1, Option.bind_some, toList_eq, decide_eq_false hw1, Bool.not_false, cond_true, toList_eq, decide_eq_true rfl, cond_true, w64_id (by omega) (by omega), decide_eq_true m2, cond_true, decide_eq_true m3]
end Go.Proofs.YthhogfhffpfkdaaGreatDoor.D

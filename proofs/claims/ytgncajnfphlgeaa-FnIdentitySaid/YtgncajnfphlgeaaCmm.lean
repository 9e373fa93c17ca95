/-
  CountMorphisms of the program, by its own walk: the whole.
-/
import Derived.Test.YtgncajnfphlgeaaCtx
import Derived.WalkKit
import Derived.BigCall
import Derived.BigGuard
import Derived.Lib.Hide
import Derived.OneCell
import Derived.OwnWalk
import Derived.Laws.EntriesVeiled
import Derived.Laws.MakeOwn
import Derived.Deep.RegionWith
import Derived.Deep.QuietTactic
import Derived.BigQuiet
namespace Go.Proofs.Ytgncajnfphlgeaa
open Go Go.Den Go.RowKit
set_option linter.unusedVariables false
set_option linter.unusedSimpArgs false
set_option maxRecDepth 100000
/-- what lies where when the closures are first called -/
structure CmS (w3 : World) (N gl vb eb mb gb hb : Nat) (W : World) : Prop where
  vs : W.heap[vb]? = some (.cells (madeCells #[.int .i64 0] N) 3 (0, 0))
  es : W.heap[eb]? = some (.cells (madeCells #[.int .i64 0] gl) 3 (0, 0))
  ms : W.heap[mb]? = some (.cells #[.slice (some ⟨vb, 0, none⟩) N N, .slice (some ⟨eb, 0, none⟩) gl gl] 37 (0, 0))
  nn : W.heap[w3.heap.size + 1 + 1 + 1]? = some (.cells #[.int .i64 0] 3 (0, 0))
  ff : W.heap[w3.heap.size + 1 + 1 + 1 + 1]? = some (.cells #[.func (.func 23) #[] #[.pointer (some ⟨mb, 0, none⟩), .pointer (some ⟨gb, 0, none⟩), .pointer (some ⟨hb, 0, none⟩), .pointer (some ⟨w3.heap.size + 1 + 1 + 1, 0, none⟩), .pointer (some ⟨w3.heap.size + 1 + 1 + 1 + 1, 0, none⟩)]] 50 (0, 0))
  vv : W.heap[w3.heap.size + 1 + 1 + 1 + 1 + 1]? = some (.cells #[.func (.func 26) #[] #[.pointer (some ⟨gb, 0, none⟩), .pointer (some ⟨w3.heap.size + 1 + 1 + 1 + 1, 0, none⟩), .pointer (some ⟨mb, 0, none⟩), .pointer (some ⟨hb, 0, none⟩), .pointer (some ⟨w3.heap.size + 1 + 1 + 1 + 1 + 1, 0, none⟩)]] 50 (0, 0))
  old : ∀ b, b < w3.heap.size → W.heap[b]? = w3.heap[b]?
  size : W.heap.size = w3.heap.size + 6
  os : W.os = w3.os
  tape : W.tape = w3.tape
  output : W.output = w3.output
  drawn : w3.drawn ≤ W.drawn
  lv : w3.heap.size ≤ vb ∧ vb < w3.heap.size + 3
  le : w3.heap.size ≤ eb ∧ eb < w3.heap.size + 3
  lm : w3.heap.size ≤ mb ∧ mb < w3.heap.size + 3
  ve : vb ≠ eb
  vm : vb ≠ mb
  em : eb ≠ mb
theorem six (w : World) (o0 o1 o2 o3 o4 o5 : Obj) : let W := ((((((w.alloc o0).alloc o1).alloc o2).alloc o3).alloc o4).alloc o5).drew
    W.heap[w.heap.size]? = some o0 ∧ W.heap[w.heap.size + 1]? = some o1 ∧ W.heap[w.heap.size + 1 + 1]? = some o2 ∧ W.heap[w.heap.size + 1 + 1 + 1]? = some o3 ∧ W.heap[w.heap.size + 1 + 1 + 1 + 1]? = some o4 ∧ W.heap[w.heap.size + 1 + 1 + 1 + 1 + 1]? = some o5 ∧
    (∀ b, b < w.heap.size → W.heap[b]? = w.heap[b]?) ∧ W.heap.size = w.heap.size + 6 ∧ W.os = w.os ∧ W.tape = w.tape ∧ W.output = w.output ∧ w.drawn ≤ W.drawn := by
  intro W
  have hW : W.heap = (((((w.heap.push o0).push o1).push o2).push o3).push o4).push o5 := rfl
  rw [hW]
  refine ⟨?_, ?_, ?_, ?_, ?_, ?_, ?_, ?_, rfl, rfl, rfl, Nat.le_succ _⟩
  all_goals first
    | (intro b hb; simp only [Array.getElem?_push, Array.size_push]; repeat rw [if_neg (by omega)])
    | (simp only [Array.getElem?_push, Array.size_push]; repeat (first | rw [if_pos trivial] | rw [if_pos (by omega)] | rw [if_neg (by omega)]))
    | (simp only [Array.size_push])

theorem cmS0 (w3 : World) (N gl gb hb : Nat) : CmS w3 N gl (w3.heap.size) (w3.heap.size + 1) (w3.heap.size + 1 + 1) gb hb (((((((w3.alloc (.cells (madeCells #[.int .i64 0] N) 3)).alloc (.cells (madeCells #[.int .i64 0] gl) 3)).alloc (.cells #[.slice (some ⟨w3.heap.size, 0, none⟩) N N, .slice (some ⟨w3.heap.size + 1, 0, none⟩) gl gl] 37)).alloc (.cells #[.int .i64 0] 3)).alloc (.cells #[.func (.func 23) #[] #[.pointer (some ⟨w3.heap.size + 1 + 1, 0, none⟩), .pointer (some ⟨gb, 0, none⟩), .pointer (some ⟨hb, 0, none⟩), .pointer (some ⟨w3.heap.size + 1 + 1 + 1, 0, none⟩), .pointer (some ⟨w3.heap.size + 1 + 1 + 1 + 1, 0, none⟩)]] 50)).alloc (.cells #[.func (.func 26) #[] #[.pointer (some ⟨gb, 0, none⟩), .pointer (some ⟨w3.heap.size + 1 + 1 + 1 + 1, 0, none⟩), .pointer (some ⟨w3.heap.size + 1 + 1, 0, none⟩), .pointer (some ⟨hb, 0, none⟩), .pointer (some ⟨w3.heap.size + 1 + 1 + 1 + 1 + 1, 0, none⟩)]] 50)).drew) := by
  obtain ⟨a0, a1, a2, a3, a4, a5, h1, h2, h3, h4, h5, h6⟩ := six w3 (.cells (madeCells #[.int .i64 0] N) 3) (.cells (madeCells #[.int .i64 0] gl) 3) (.cells #[.slice (some ⟨w3.heap.size, 0, none⟩) N N, .slice (some ⟨w3.heap.size + 1, 0, none⟩) gl gl] 37) (.cells #[.int .i64 0] 3) (.cells #[.func (.func 23) #[] #[.pointer (some ⟨w3.heap.size + 1 + 1, 0, none⟩), .pointer (some ⟨gb, 0, none⟩), .pointer (some ⟨hb, 0, none⟩), .pointer (some ⟨w3.heap.size + 1 + 1 + 1, 0, none⟩), .pointer (some ⟨w3.heap.size + 1 + 1 + 1 + 1, 0, none⟩)]] 50) (.cells #[.func (.func 26) #[] #[.pointer (some ⟨gb, 0, none⟩), .pointer (some ⟨w3.heap.size + 1 + 1 + 1 + 1, 0, none⟩), .pointer (some ⟨w3.heap.size + 1 + 1, 0, none⟩), .pointer (some ⟨hb, 0, none⟩), .pointer (some ⟨w3.heap.size + 1 + 1 + 1 + 1 + 1, 0, none⟩)]] 50)
  exact ⟨a0, a1, a2, a3, a4, a5, h1, h2, h3, h4, h5, h6, ⟨by omega, by omega⟩, ⟨by omega, by omega⟩, ⟨by omega, by omega⟩, by omega, by omega, by omega⟩

theorem cmS1 (w3 : World) (N gl gb hb : Nat) : CmS w3 N gl (w3.heap.size) (w3.heap.size + 1 + 1) (w3.heap.size + 1) gb hb (((((((w3.alloc (.cells (madeCells #[.int .i64 0] N) 3)).alloc (.cells #[.slice (some ⟨w3.heap.size, 0, none⟩) N N, .slice (some ⟨w3.heap.size + 1 + 1, 0, none⟩) gl gl] 37)).alloc (.cells (madeCells #[.int .i64 0] gl) 3)).alloc (.cells #[.int .i64 0] 3)).alloc (.cells #[.func (.func 23) #[] #[.pointer (some ⟨w3.heap.size + 1, 0, none⟩), .pointer (some ⟨gb, 0, none⟩), .pointer (some ⟨hb, 0, none⟩), .pointer (some ⟨w3.heap.size + 1 + 1 + 1, 0, none⟩), .pointer (some ⟨w3.heap.size + 1 + 1 + 1 + 1, 0, none⟩)]] 50)).alloc (.cells #[.func (.func 26) #[] #[.pointer (some ⟨gb, 0, none⟩), .pointer (some ⟨w3.heap.size + 1 + 1 + 1 + 1, 0, none⟩), .pointer (some ⟨w3.heap.size + 1, 0, none⟩), .pointer (some ⟨hb, 0, none⟩), .pointer (some ⟨w3.heap.size + 1 + 1 + 1 + 1 + 1, 0, none⟩)]] 50)).drew) := by
  obtain ⟨a0, a1, a2, a3, a4, a5, h1, h2, h3, h4, h5, h6⟩ := six w3 (.cells (madeCells #[.int .i64 0] N) 3) (.cells #[.slice (some ⟨w3.heap.size, 0, none⟩) N N, .slice (some ⟨w3.heap.size + 1 + 1, 0, none⟩) gl gl] 37) (.cells (madeCells #[.int .i64 0] gl) 3) (.cells #[.int .i64 0] 3) (.cells #[.func (.func 23) #[] #[.pointer (some ⟨w3.heap.size + 1, 0, none⟩), .pointer (some ⟨gb, 0, none⟩), .pointer (some ⟨hb, 0, none⟩), .pointer (some ⟨w3.heap.size + 1 + 1 + 1, 0, none⟩), .pointer (some ⟨w3.heap.size + 1 + 1 + 1 + 1, 0, none⟩)]] 50) (.cells #[.func (.func 26) #[] #[.pointer (some ⟨gb, 0, none⟩), .pointer (some ⟨w3.heap.size + 1 + 1 + 1 + 1, 0, none⟩), .pointer (some ⟨w3.heap.size + 1, 0, none⟩), .pointer (some ⟨hb, 0, none⟩), .pointer (some ⟨w3.heap.size + 1 + 1 + 1 + 1 + 1, 0, none⟩)]] 50)
  exact ⟨a0, a2, a1, a3, a4, a5, h1, h2, h3, h4, h5, h6, ⟨by omega, by omega⟩, ⟨by omega, by omega⟩, ⟨by omega, by omega⟩, by omega, by omega, by omega⟩

theorem cmS2 (w3 : World) (N gl gb hb : Nat) : CmS w3 N gl (w3.heap.size + 1) (w3.heap.size) (w3.heap.size + 1 + 1) gb hb (((((((w3.alloc (.cells (madeCells #[.int .i64 0] gl) 3)).alloc (.cells (madeCells #[.int .i64 0] N) 3)).alloc (.cells #[.slice (some ⟨w3.heap.size + 1, 0, none⟩) N N, .slice (some ⟨w3.heap.size, 0, none⟩) gl gl] 37)).alloc (.cells #[.int .i64 0] 3)).alloc (.cells #[.func (.func 23) #[] #[.pointer (some ⟨w3.heap.size + 1 + 1, 0, none⟩), .pointer (some ⟨gb, 0, none⟩), .pointer (some ⟨hb, 0, none⟩), .pointer (some ⟨w3.heap.size + 1 + 1 + 1, 0, none⟩), .pointer (some ⟨w3.heap.size + 1 + 1 + 1 + 1, 0, none⟩)]] 50)).alloc (.cells #[.func (.func 26) #[] #[.pointer (some ⟨gb, 0, none⟩), .pointer (some ⟨w3.heap.size + 1 + 1 + 1 + 1, 0, none⟩), .pointer (some ⟨w3.heap.size + 1 + 1, 0, none⟩), .pointer (some ⟨hb, 0, none⟩), .pointer (some ⟨w3.heap.size + 1 + 1 + 1 + 1 + 1, 0, none⟩)]] 50)).drew) := by
  obtain ⟨a0, a1, a2, a3, a4, a5, h1, h2, h3, h4, h5, h6⟩ := six w3 (.cells (madeCells #[.int .i64 0] gl) 3) (.cells (madeCells #[.int .i64 0] N) 3) (.cells #[.slice (some ⟨w3.heap.size + 1, 0, none⟩) N N, .slice (some ⟨w3.heap.size, 0, none⟩) gl gl] 37) (.cells #[.int .i64 0] 3) (.cells #[.func (.func 23) #[] #[.pointer (some ⟨w3.heap.size + 1 + 1, 0, none⟩), .pointer (some ⟨gb, 0, none⟩), .pointer (some ⟨hb, 0, none⟩), .pointer (some ⟨w3.heap.size + 1 + 1 + 1, 0, none⟩), .pointer (some ⟨w3.heap.size + 1 + 1 + 1 + 1, 0, none⟩)]] 50) (.cells #[.func (.func 26) #[] #[.pointer (some ⟨gb, 0, none⟩), .pointer (some ⟨w3.heap.size + 1 + 1 + 1 + 1, 0, none⟩), .pointer (some ⟨w3.heap.size + 1 + 1, 0, none⟩), .pointer (some ⟨hb, 0, none⟩), .pointer (some ⟨w3.heap.size + 1 + 1 + 1 + 1 + 1, 0, none⟩)]] 50)
  exact ⟨a1, a0, a2, a3, a4, a5, h1, h2, h3, h4, h5, h6, ⟨by omega, by omega⟩, ⟨by omega, by omega⟩, ⟨by omega, by omega⟩, by omega, by omega, by omega⟩

theorem cmS3 (w3 : World) (N gl gb hb : Nat) : CmS w3 N gl (w3.heap.size + 1) (w3.heap.size + 1 + 1) (w3.heap.size) gb hb (((((((w3.alloc (.cells #[.slice (some ⟨w3.heap.size + 1, 0, none⟩) N N, .slice (some ⟨w3.heap.size + 1 + 1, 0, none⟩) gl gl] 37)).alloc (.cells (madeCells #[.int .i64 0] N) 3)).alloc (.cells (madeCells #[.int .i64 0] gl) 3)).alloc (.cells #[.int .i64 0] 3)).alloc (.cells #[.func (.func 23) #[] #[.pointer (some ⟨w3.heap.size, 0, none⟩), .pointer (some ⟨gb, 0, none⟩), .pointer (some ⟨hb, 0, none⟩), .pointer (some ⟨w3.heap.size + 1 + 1 + 1, 0, none⟩), .pointer (some ⟨w3.heap.size + 1 + 1 + 1 + 1, 0, none⟩)]] 50)).alloc (.cells #[.func (.func 26) #[] #[.pointer (some ⟨gb, 0, none⟩), .pointer (some ⟨w3.heap.size + 1 + 1 + 1 + 1, 0, none⟩), .pointer (some ⟨w3.heap.size, 0, none⟩), .pointer (some ⟨hb, 0, none⟩), .pointer (some ⟨w3.heap.size + 1 + 1 + 1 + 1 + 1, 0, none⟩)]] 50)).drew) := by
  obtain ⟨a0, a1, a2, a3, a4, a5, h1, h2, h3, h4, h5, h6⟩ := six w3 (.cells #[.slice (some ⟨w3.heap.size + 1, 0, none⟩) N N, .slice (some ⟨w3.heap.size + 1 + 1, 0, none⟩) gl gl] 37) (.cells (madeCells #[.int .i64 0] N) 3) (.cells (madeCells #[.int .i64 0] gl) 3) (.cells #[.int .i64 0] 3) (.cells #[.func (.func 23) #[] #[.pointer (some ⟨w3.heap.size, 0, none⟩), .pointer (some ⟨gb, 0, none⟩), .pointer (some ⟨hb, 0, none⟩), .pointer (some ⟨w3.heap.size + 1 + 1 + 1, 0, none⟩), .pointer (some ⟨w3.heap.size + 1 + 1 + 1 + 1, 0, none⟩)]] 50) (.cells #[.func (.func 26) #[] #[.pointer (some ⟨gb, 0, none⟩), .pointer (some ⟨w3.heap.size + 1 + 1 + 1 + 1, 0, none⟩), .pointer (some ⟨w3.heap.size, 0, none⟩), .pointer (some ⟨hb, 0, none⟩), .pointer (some ⟨w3.heap.size + 1 + 1 + 1 + 1 + 1, 0, none⟩)]] 50)
  exact ⟨a1, a2, a0, a3, a4, a5, h1, h2, h3, h4, h5, h6, ⟨by omega, by omega⟩, ⟨by omega, by omega⟩, ⟨by omega, by omega⟩, by omega, by omega, by omega⟩

theorem cmS4 (w3 : World) (N gl gb hb : Nat) : CmS w3 N gl (w3.heap.size + 1 + 1) (w3.heap.size) (w3.heap.size + 1) gb hb (((((((w3.alloc (.cells (madeCells #[.int .i64 0] gl) 3)).alloc (.cells #[.slice (some ⟨w3.heap.size + 1 + 1, 0, none⟩) N N, .slice (some ⟨w3.heap.size, 0, none⟩) gl gl] 37)).alloc (.cells (madeCells #[.int .i64 0] N) 3)).alloc (.cells #[.int .i64 0] 3)).alloc (.cells #[.func (.func 23) #[] #[.pointer (some ⟨w3.heap.size + 1, 0, none⟩), .pointer (some ⟨gb, 0, none⟩), .pointer (some ⟨hb, 0, none⟩), .pointer (some ⟨w3.heap.size + 1 + 1 + 1, 0, none⟩), .pointer (some ⟨w3.heap.size + 1 + 1 + 1 + 1, 0, none⟩)]] 50)).alloc (.cells #[.func (.func 26) #[] #[.pointer (some ⟨gb, 0, none⟩), .pointer (some ⟨w3.heap.size + 1 + 1 + 1 + 1, 0, none⟩), .pointer (some ⟨w3.heap.size + 1, 0, none⟩), .pointer (some ⟨hb, 0, none⟩), .pointer (some ⟨w3.heap.size + 1 + 1 + 1 + 1 + 1, 0, none⟩)]] 50)).drew) := by
  obtain ⟨a0, a1, a2, a3, a4, a5, h1, h2, h3, h4, h5, h6⟩ := six w3 (.cells (madeCells #[.int .i64 0] gl) 3) (.cells #[.slice (some ⟨w3.heap.size + 1 + 1, 0, none⟩) N N, .slice (some ⟨w3.heap.size, 0, none⟩) gl gl] 37) (.cells (madeCells #[.int .i64 0] N) 3) (.cells #[.int .i64 0] 3) (.cells #[.func (.func 23) #[] #[.pointer (some ⟨w3.heap.size + 1, 0, none⟩), .pointer (some ⟨gb, 0, none⟩), .pointer (some ⟨hb, 0, none⟩), .pointer (some ⟨w3.heap.size + 1 + 1 + 1, 0, none⟩), .pointer (some ⟨w3.heap.size + 1 + 1 + 1 + 1, 0, none⟩)]] 50) (.cells #[.func (.func 26) #[] #[.pointer (some ⟨gb, 0, none⟩), .pointer (some ⟨w3.heap.size + 1 + 1 + 1 + 1, 0, none⟩), .pointer (some ⟨w3.heap.size + 1, 0, none⟩), .pointer (some ⟨hb, 0, none⟩), .pointer (some ⟨w3.heap.size + 1 + 1 + 1 + 1 + 1, 0, none⟩)]] 50)
  exact ⟨a2, a0, a1, a3, a4, a5, h1, h2, h3, h4, h5, h6, ⟨by omega, by omega⟩, ⟨by omega, by omega⟩, ⟨by omega, by omega⟩, by omega, by omega, by omega⟩

theorem cmS5 (w3 : World) (N gl gb hb : Nat) : CmS w3 N gl (w3.heap.size + 1 + 1) (w3.heap.size + 1) (w3.heap.size) gb hb (((((((w3.alloc (.cells #[.slice (some ⟨w3.heap.size + 1 + 1, 0, none⟩) N N, .slice (some ⟨w3.heap.size + 1, 0, none⟩) gl gl] 37)).alloc (.cells (madeCells #[.int .i64 0] gl) 3)).alloc (.cells (madeCells #[.int .i64 0] N) 3)).alloc (.cells #[.int .i64 0] 3)).alloc (.cells #[.func (.func 23) #[] #[.pointer (some ⟨w3.heap.size, 0, none⟩), .pointer (some ⟨gb, 0, none⟩), .pointer (some ⟨hb, 0, none⟩), .pointer (some ⟨w3.heap.size + 1 + 1 + 1, 0, none⟩), .pointer (some ⟨w3.heap.size + 1 + 1 + 1 + 1, 0, none⟩)]] 50)).alloc (.cells #[.func (.func 26) #[] #[.pointer (some ⟨gb, 0, none⟩), .pointer (some ⟨w3.heap.size + 1 + 1 + 1 + 1, 0, none⟩), .pointer (some ⟨w3.heap.size, 0, none⟩), .pointer (some ⟨hb, 0, none⟩), .pointer (some ⟨w3.heap.size + 1 + 1 + 1 + 1 + 1, 0, none⟩)]] 50)).drew) := by
  obtain ⟨a0, a1, a2, a3, a4, a5, h1, h2, h3, h4, h5, h6⟩ := six w3 (.cells #[.slice (some ⟨w3.heap.size + 1 + 1, 0, none⟩) N N, .slice (some ⟨w3.heap.size + 1, 0, none⟩) gl gl] 37) (.cells (madeCells #[.int .i64 0] gl) 3) (.cells (madeCells #[.int .i64 0] N) 3) (.cells #[.int .i64 0] 3) (.cells #[.func (.func 23) #[] #[.pointer (some ⟨w3.heap.size, 0, none⟩), .pointer (some ⟨gb, 0, none⟩), .pointer (some ⟨hb, 0, none⟩), .pointer (some ⟨w3.heap.size + 1 + 1 + 1, 0, none⟩), .pointer (some ⟨w3.heap.size + 1 + 1 + 1 + 1, 0, none⟩)]] 50) (.cells #[.func (.func 26) #[] #[.pointer (some ⟨gb, 0, none⟩), .pointer (some ⟨w3.heap.size + 1 + 1 + 1 + 1, 0, none⟩), .pointer (some ⟨w3.heap.size, 0, none⟩), .pointer (some ⟨hb, 0, none⟩), .pointer (some ⟨w3.heap.size + 1 + 1 + 1 + 1 + 1, 0, none⟩)]] 50)
  exact ⟨a2, a1, a0, a3, a4, a5, h1, h2, h3, h4, h5, h6, ⟨by omega, by omega⟩, ⟨by omega, by omega⟩, ⟨by omega, by omega⟩, by omega, by omega, by omega⟩
theorem info3 : (Try.prog.info? 3).map (fun i => (i.zero, i.size, i.bytes)) = some (some (.int .i64 0), 1, 8) := by kernel_rfl
theorem run_mk (n : Nat) (hn : n ≤ 5) (W : World) : (Instr.makeSlice 35 (.int .i64 n) (.int .i64 n)).run Try.prog W = .ok (.slice (some ⟨W.heap.size, 0, none⟩) n n) (W.alloc (.cells (madeCells #[.int .i64 0] n) 3)) := by
  obtain ⟨i, h1, h2, h3, h4⟩ := info_parts info3
  have h := run_makeSlice (P := Try.prog) W 35 3 i _ Try.underlying35 h1 h2 .i64 .i64 n n (by omega) (Int.le_refl _) (by rw [h3, Int.toNat_natCast]; omega) (by rw [h4]; omega) (by omega)
  rw [h3, Int.toNat_natCast, Nat.mul_one] at h
  exact h
set_option maxHeartbeats 2000000 in
theorem cmN_walk (ga : Option Addr) (gl gc : Nat) (ha : Option Addr) (hl hc : Nat) (N H : Int) (w : World) (b c : Bool) (J : World → Prop) (Q : Ending → World → Prop)
  (hG1 : ∀ W, W = (w.alloc (.cells #[.int .i64 N, .slice ga gl gc] 29)).alloc (.cells #[.int .i64 H, .slice ha hl hc] 29) → Calls Try.prog 22 #[.agg #[.int .i64 N, .slice ga gl gc]] W fun e w' => e = .returned (.bool b) ∧ J w')
  (hG2 : b = true → ∀ W, J W → Calls Try.prog 22 #[.agg #[.int .i64 H, .slice ha hl hc]] W fun e w' => e = .returned (.bool c) ∧ J w')
  (hJg0 : ∀ W, J W → W.cell? ⟨w.heap.size, 0, none⟩ = some (.int .i64 N))
  (hJg1 : ∀ W, J W → W.cell? ⟨w.heap.size, 1, none⟩ = some (.slice ga gl gc))
  (hJh0 : ∀ W, J W → W.cell? ⟨w.heap.size + 1, 0, none⟩ = some (.int .i64 H))
  (hJh1 : ∀ W, J W → W.cell? ⟨w.heap.size + 1, 1, none⟩ = some (.slice ha hl hc))
  (hdr : ∀ W, J W → ∀ m, J (W.drewN m))
  (hbad : b = false ∨ c = false ∨ 4 < N ∨ 5 < gl ∨ 3 < H ∨ 3 < hl) (hno : ∀ W, J W → Q (.returned (.int .i64 (-1))) W)
  : Calls Try.prog 8 #[.agg #[.int .i64 N, .slice ga gl gc], .agg #[.int .i64 H, .slice ha hl hc]] w Q := by
  have HG1 := Lib.hid hG1
  have HG2 := Lib.hid hG2
  have Hg0 := Lib.hid hJg0
  have Hg1 := Lib.hid hJg1
  have Hh0 := Lib.hid hJh0
  have Hh1 := Lib.hid hJh1
  have Hno := Lib.hid hno
  clear hG1 hG2 hJg0 hJg1 hJh0 hJh1 hdr hno
  cases b with
  | false =>
    go_enter Try.func8, Try.ntmps8
    go_wp2_with (go_at_call_of 22 ga; refine (HG1.out _ rfl).mono ?_; rintro e w2 ⟨rfl, hJ2⟩; have k1 := Hg0.out _ hJ2; have k2 := Hg1.out _ hJ2; have k3 := Hh0.out _ hJ2; have k4 := Hh1.out _ hJ2)
    exact Hno.out _ hJ2
  | true =>
  have HG3 := Lib.hid (HG2.out (by trivial))
  clear HG2
  cases c with
  | false =>
    go_enter Try.func8, Try.ntmps8
    go_wp2_with (first | (go_at_call_of 22 ga; refine (HG1.out _ rfl).mono ?_; rintro e w2 ⟨rfl, hJ2⟩; have k1 := Hg0.out _ hJ2; have k2 := Hg1.out _ hJ2; have k3 := Hh0.out _ hJ2; have k4 := Hh1.out _ hJ2) | (go_at_call_of 22 ha; refine (HG3.out _ hJ2).mono ?_; rintro e w3 ⟨rfl, hJ3⟩; clear k1 k2 k3 k4; have k1 := Hg0.out _ hJ3; have k2 := Hg1.out _ hJ3; have k3 := Hh0.out _ hJ3; have k4 := Hh1.out _ hJ3))
    exact Hno.out _ hJ3
  | true =>
  have go := Lib.hid (Hno.out)
  clear Hno
  have hbad : 4 < N ∨ 5 < gl ∨ 3 < H ∨ 3 < hl := by simpa using hbad
  by_cases h1 : 4 < N
  · go_enter Try.func8, Try.ntmps8
    go_wp2_with (first | (go_at_call_of 22 ga; refine (HG1.out _ rfl).mono ?_; rintro e w2 ⟨rfl, hJ2⟩; have k1 := Hg0.out _ hJ2; have k2 := Hg1.out _ hJ2; have k3 := Hh0.out _ hJ2; have k4 := Hh1.out _ hJ2) | (go_at_call_of 22 ha; refine (HG3.out _ hJ2).mono ?_; rintro e w3 ⟨rfl, hJ3⟩; clear k1 k2 k3 k4; have k1 := Hg0.out _ hJ3; have k2 := Hg1.out _ hJ3; have k3 := Hh0.out _ hJ3; have k4 := Hh1.out _ hJ3))
    exact go.out _ hJ3
  by_cases h2 : 5 < gl
  · go_enter Try.func8, Try.ntmps8
    go_wp2_with (first | (go_at_call_of 22 ga; refine (HG1.out _ rfl).mono ?_; rintro e w2 ⟨rfl, hJ2⟩; have k1 := Hg0.out _ hJ2; have k2 := Hg1.out _ hJ2; have k3 := Hh0.out _ hJ2; have k4 := Hh1.out _ hJ2) | (go_at_call_of 22 ha; refine (HG3.out _ hJ2).mono ?_; rintro e w3 ⟨rfl, hJ3⟩; clear k1 k2 k3 k4; have k1 := Hg0.out _ hJ3; have k2 := Hg1.out _ hJ3; have k3 := Hh0.out _ hJ3; have k4 := Hh1.out _ hJ3))
    exact go.out _ hJ3
  by_cases h3 : 3 < H
  · go_enter Try.func8, Try.ntmps8
    go_wp2_with (first | (go_at_call_of 22 ga; refine (HG1.out _ rfl).mono ?_; rintro e w2 ⟨rfl, hJ2⟩; have k1 := Hg0.out _ hJ2; have k2 := Hg1.out _ hJ2; have k3 := Hh0.out _ hJ2; have k4 := Hh1.out _ hJ2) | (go_at_call_of 22 ha; refine (HG3.out _ hJ2).mono ?_; rintro e w3 ⟨rfl, hJ3⟩; clear k1 k2 k3 k4; have k1 := Hg0.out _ hJ3; have k2 := Hg1.out _ hJ3; have k3 := Hh0.out _ hJ3; have k4 := Hh1.out _ hJ3))
    exact go.out _ hJ3
  by_cases h4 : 3 < hl
  · go_enter Try.func8, Try.ntmps8
    go_wp2_with (first | (go_at_call_of 22 ga; refine (HG1.out _ rfl).mono ?_; rintro e w2 ⟨rfl, hJ2⟩; have k1 := Hg0.out _ hJ2; have k2 := Hg1.out _ hJ2; have k3 := Hh0.out _ hJ2; have k4 := Hh1.out _ hJ2) | (go_at_call_of 22 ha; refine (HG3.out _ hJ2).mono ?_; rintro e w3 ⟨rfl, hJ3⟩; clear k1 k2 k3 k4; have k1 := Hg0.out _ hJ3; have k2 := Hg1.out _ hJ3; have k3 := Hh0.out _ hJ3; have k4 := Hh1.out _ hJ3))
    exact go.out _ hJ3
  omega
set_option maxHeartbeats 2000000 in
theorem cmM_walk (ga : Option Addr) (gl gc : Nat) (ha : Option Addr) (hl hc : Nat) (N H : Nat) (w : World) (h1 : ¬ 4 < N) (h2 : ¬ 5 < gl) (h3 : ¬ 3 < H) (h4 : ¬ 3 < hl) (J : World → Prop) (Q : Ending → World → Prop)
  (hG1 : ∀ W, W = (w.alloc (.cells #[.int .i64 N, .slice ga gl gc] 29)).alloc (.cells #[.int .i64 H, .slice ha hl hc] 29) → Calls Try.prog 22 #[.agg #[.int .i64 N, .slice ga gl gc]] W fun e w' => e = .returned (.bool true) ∧ J w')
  (hG2 : ∀ W, J W → Calls Try.prog 22 #[.agg #[.int .i64 H, .slice ha hl hc]] W fun e w' => e = .returned (.bool true) ∧ J w')
  (hJg0 : ∀ W, J W → W.cell? ⟨w.heap.size, 0, none⟩ = some (.int .i64 N))
  (hJg1 : ∀ W, J W → W.cell? ⟨w.heap.size, 1, none⟩ = some (.slice ga gl gc))
  (hJh0 : ∀ W, J W → W.cell? ⟨w.heap.size + 1, 0, none⟩ = some (.int .i64 H))
  (hJh1 : ∀ W, J W → W.cell? ⟨w.heap.size + 1, 1, none⟩ = some (.slice ha hl hc))
  (hdr : ∀ W, J W → ∀ m, J (W.drewN m))
  (hV : ∀ w3 W vb eb mb, J w3 → CmS w3 N gl vb eb mb w.heap.size (w.heap.size + 1) W → Calls Try.prog 26 #[.int .i64 0, .pointer (some ⟨w.heap.size, 0, none⟩), .pointer (some ⟨w3.heap.size + 1 + 1 + 1 + 1, 0, none⟩), .pointer (some ⟨mb, 0, none⟩), .pointer (some ⟨w.heap.size + 1, 0, none⟩), .pointer (some ⟨w3.heap.size + 1 + 1 + 1 + 1 + 1, 0, none⟩)] W fun e W' => e = .returned (.tuple #[]) ∧ ∃ r, W'.cell? ⟨w3.heap.size + 1 + 1 + 1, 0, none⟩ = some (.int .i64 r) ∧ Q (.returned (.int .i64 r)) W')
  : Calls Try.prog 8 #[.agg #[.int .i64 N, .slice ga gl gc], .agg #[.int .i64 H, .slice ha hl hc]] w Q := by
  have HG1 := Lib.hid hG1
  have HG2 := Lib.hid hG2
  have Hg0 := Lib.hid hJg0
  have Hg1 := Lib.hid hJg1
  have Hh0 := Lib.hid hJh0
  have Hh1 := Lib.hid hJh1
  have HV := Lib.hid hV
  clear hG1 hG2 hJg0 hJg1 hJh0 hJh1 hdr hV
  go_enter Try.func8, Try.ntmps8
  go_wp2_with (first | (go_at_call_of 22 ga; refine (HG1.out _ rfl).mono ?_; rintro e w2 ⟨rfl, hJ2⟩; have k1 := Hg0.out _ hJ2; have k2 := Hg1.out _ hJ2; have k3 := Hh0.out _ hJ2; have k4 := Hh1.out _ hJ2) | (go_at_call_of 22 ha; refine (HG2.out _ hJ2).mono ?_; rintro e w3 ⟨rfl, hJ3⟩; clear k1 k2 k3 k4; have k1 := Hg0.out _ hJ3; have k2 := Hg1.out _ hJ3; have k3 := Hh0.out _ hJ3; have k4 := Hh1.out _ hJ3))
  have m1 := run_mk N (by omega)
  have m2 := run_mk gl (by omega)
  have lg := World.block_lt_of_cell? _ _ k1
  have lh := World.block_lt_of_cell? _ _ k3
  have HV1 := Lib.hid (HV.out)
  clear HV
  go_region


  all_goals go_wp2_with (go_at_call 26; (with_reducible first | refine (HV1.out w3 _ _ _ _ hJ3 (cmS0 _ _ _ _ _)).mono ?_ | refine (HV1.out w3 _ _ _ _ hJ3 (cmS1 _ _ _ _ _)).mono ?_ | refine (HV1.out w3 _ _ _ _ hJ3 (cmS2 _ _ _ _ _)).mono ?_ | refine (HV1.out w3 _ _ _ _ hJ3 (cmS3 _ _ _ _ _)).mono ?_ | refine (HV1.out w3 _ _ _ _ hJ3 (cmS4 _ _ _ _ _)).mono ?_ | refine (HV1.out w3 _ _ _ _ hJ3 (cmS5 _ _ _ _ _)).mono ?_); rintro e w4 ⟨rfl, r, hr, hq⟩)
  all_goals exact hq
end Go.Proofs.Ytgncajnfphlgeaa

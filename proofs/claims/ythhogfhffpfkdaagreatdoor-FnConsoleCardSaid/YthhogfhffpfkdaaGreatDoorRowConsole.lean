/-
  FnConsole: the law answers yes to all its arguments, and leaves them as they were: proved for every input.
-/
import Derived.Test.YthhogfhffpfkdaaGreatDoorCards
import Derived.Test.YthhogfhffpfkdaaGreatDoorTie
import Derived.SevenTiedAt
import Derived.Handed
import Derived.Deep.DeepHandedRow
import Derived.LaidHandle
import Derived.Test.YthhogfhffpfkdaaGreatDoorRows
import Derived.Test.YthhogfhffpfkdaaGreatDoorRowConsoleb
import Derived.ProofKit
import Derived.SizedLaws
namespace Go.Proofs.YthhogfhffpfkdaaGreatDoor
open Go Go.ChangeShapes Go.WideShapes Go.ChangeAt Go.RowKit Go.Den
set_option linter.unusedVariables false
set_option maxRecDepth 100000
set_option maxHeartbeats 100000000 in
theorem ConsoleHolds : Rows.FnConsoleCardSaid :=
  Claim7.holds_tied_plain_at .later [] [.data, .data, .data, .sentinel, .sentinel] true (true, "ebadbc1c0283a4281d5e54cf898e5916904e3dc7c981d717c6ab563670fbfc48") true
    ConsoleRow (fun _ h => by cases h) (by as_aux_lemma => kernel_rfl) (fun _ h => by cases h) fnConsole_row_tie rfl ⟨rfl, rfl⟩ (by as_aux_lemma => kernel_rfl) rfl
    (fun f fn hf hfn => by
      obtain rfl : f = 4 := Option.some.inj ((show Tryz.prog.funcNamed Rows.fnConsoleRow.func = some 4 by as_aux_lemma => kernel_rfl).symm.trans hf) |>.symm
      obtain rfl : fn = Tryz.f4 := (Option.some.inj (Tryz.func4.symm.trans hfn)).symm
      exact ⟨by as_aux_lemma => kernel_rfl, fun j t ht => by
        rw [Tryz.params4] at ht
        have hm := Array.mem_of_getElem? ht
        simp only [List.mem_toArray, List.mem_cons, List.not_mem_nil, or_false] at hm
        rcases hm with rfl <;> exact (show Tryz.prog.wantsStandIn _ = false by as_aux_lemma => kernel_rfl)⟩)
    (by as_aux_lemma => kernel_rfl)
end Go.Proofs.YthhogfhffpfkdaaGreatDoor

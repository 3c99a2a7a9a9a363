/- AddressWalk, run on letters with its loop as it is told. -/
import Derived.Test.YtjmcholbjjgelaaDoorCaps
import Derived.Test.YtjmcholbjjgelaaDoorSxArg
namespace Go.Proofs
open Go.Sx Go.RowKit
set_option linter.unusedVariables false
set_option maxRecDepth 100000
theorem Tryd.walkRunA_0 (l : List Int) : finE [] (callS Tryd.prog Tryd.tab (told Tryd.prog Tryd.I3) 60 8 [.sl 128 0 l.length .no] ⟨argHeap [intsS l] 128 (tabHeap Tryd.tabs), 130, 130, [.go 8, .lp 4 [0, 3, 4, 5] [128] .ret [(2, .pl (.bool true))] [] 130], []⟩)
  = some ((.pl (.bool true), (130, ([], (LoopT Tryd.prog (.loop (bodyOf Tryd.f8 4)) 94 (some none) [(0, .sl 128 0 l.length .no), (3, .pl (.bool true)), (4, .pl (.int .i64 0)), (5, .pl (.int .i64 0))] [(128, .cells (intsS l) false 0)] 130 .ret [(2, .pl (.bool true))] [] 130) ∧ (True))))) := by kernel_rfl
theorem Tryd.walkRunC_0 (l : List Int) : finE [] (callS Tryd.prog Tryd.tab (told Tryd.prog Tryd.I3) 60 8 [.sl 128 0 l.length .no] ⟨argHeap [intsS l] 128 (tabHeap Tryd.tabs), 130, 130, [.go 8, .lp 4 [0, 3, 4, 5] [128] (.exit 0) [(3, .pl (.bool true))] [] 130], []⟩)
  = some ((.pl (.bool true), (130, ([], (LoopT Tryd.prog (.loop (bodyOf Tryd.f8 4)) 94 (some none) [(0, .sl 128 0 l.length .no), (3, .pl (.bool true)), (4, .pl (.int .i64 0)), (5, .pl (.int .i64 0))] [(128, .cells (intsS l) false 0)] 130 (.exit 0) [(3, .pl (.bool true))] [] 130) ∧ (True))))) := by kernel_rfl
end Go.Proofs

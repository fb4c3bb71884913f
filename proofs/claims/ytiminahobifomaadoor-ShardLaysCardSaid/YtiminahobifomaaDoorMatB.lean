/- Matrices: asked, made, copied, compared; a row of one; walked. -/
import Derived.Test.YtiminahobifomaaDoorMatA
namespace Go.Proofs.YtiminahobifomaaDoor
open Go.ChangeShapes Go.WideShapes Go.ChangeAt Go.RowKit Go.Joins
set_option linter.unusedVariables false
set_option linter.unusedSimpArgs false

theorem hmkM {n : Nat} (hn : n ≤ 100000) : ∀ w, (Instr.makeSlice 37 (.int .i64 (n : Int)) (.int .i64 (n : Int))).run Tryd.prog w = .ok (.slice (some ⟨w.heap.size, 0, none⟩) n n) (w.alloc (.cells (cellsOf8 (List.replicate n 0)) 5)) := hmk8 hn

end Go.Proofs.YtiminahobifomaaDoor

/- What comes in to many laws: shapes, texts and truths. -/
import Derived.Test.YtiminahobifomaaDoorOpen
namespace Go.Proofs.YtiminahobifomaaDoor
open Go.ChangeShapes Go.WideShapes Go.ChangeAt Go.RowKit Go.Joins
set_option linter.unusedVariables false
set_option linter.unusedSimpArgs false

theorem cellsStr : Tryd.prog.cellsOf 9 = 1 := by kernel_rfl
theorem bytesStr : Tryd.prog.bytesOf 9 = 16 := by kernel_rfl
theorem cellsBool : Tryd.prog.cellsOf 4 = 1 := by kernel_rfl
theorem cellsInt : Tryd.prog.cellsOf 3 = 1 := by kernel_rfl
theorem cellsStrs : Tryd.prog.cellsOf 23 = 1 := by kernel_rfl
def i64Ok (z : Int) : Prop := -9223372036854775808 ≤ z ∧ z ≤ 9223372036854775807
theorem i64Ok_of {z : Int} (h : (Lit.int .i64 z).wf = true) : i64Ok z := by
  simpa [i64Ok, Lit.wf, IntKind.min, IntKind.max, IntKind.signed, IntKind.bits] using h

theorem ThreesIn.below {w w' : World} {v : Value} {l : List T3} (h : ThreesIn w v l) (hb : Below w.heap.size w w') : ThreesIn w' v l := RowIs.below h hb
theorem ThreesIn.len {w : World} {v : Value} {l : List T3} (h : ThreesIn w v l) : ∃ A c, v = .slice A l.length c := by
  obtain ⟨_, A, c, rfl, _⟩ := h
  exact ⟨A, c, rfl⟩
theorem TextsIn.below {w w' : World} {v : Value} {ss : List ByteArray} (h : TextsIn w v ss) (hb : Below w.heap.size w w') : TextsIn w' v ss := by
  obtain ⟨p, cap, h1, h2, h3, h4⟩ := h
  exact ⟨p, cap, h1, h2, h3, h4.below hb⟩
end Go.Proofs.YtiminahobifomaaDoor

/- Whether lanes may be: the code's way and the page's, walked. -/
import Derived.Test.YtiminahobifomaaDoorTextRow
import Derived.Test.YtiminahobifomaaDoorClose
namespace Go.Proofs.YtiminahobifomaaDoor
open Go.ChangeShapes Go.WideShapes Go.ChangeAt Go.RowKit Go.Joins
set_option linter.unusedVariables false
set_option linter.unusedSimpArgs false

/-- What is wrong with some lanes. -/
def mayGo (f : Nat) : List ByteArray → Int → Int
  | [], e => e
  | s :: r, e => if 8192 < s.size then 2 else mayGo f r (if s.size = f then e else 1)
def mayN (L : List ByteArray) : Int := mayGo (L.getD 0 ByteArray.empty).size L 0

end Go.Proofs.YtiminahobifomaaDoor

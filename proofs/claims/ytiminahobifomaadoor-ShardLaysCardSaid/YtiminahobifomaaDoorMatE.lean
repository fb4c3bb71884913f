/- Bytes and matrices that are one; the law's error number. -/
import Derived.Test.YtiminahobifomaaDoorMatD
namespace Go.Proofs.YtiminahobifomaaDoor
open Go.ChangeShapes Go.WideShapes Go.ChangeAt Go.RowKit Go.Joins
set_option linter.unusedVariables false
set_option linter.unusedSimpArgs false

end Go.Proofs.YtiminahobifomaaDoor

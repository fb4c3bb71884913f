/- Lanes added, the page's way, walked; lane.MulAdd. -/
import Derived.Test.YtiminahobifomaaDoorLaneD
namespace Go.Proofs.YtiminahobifomaaDoor
open Go.ChangeShapes Go.WideShapes Go.ChangeAt Go.RowKit Go.Joins
set_option linter.unusedVariables false
set_option linter.unusedSimpArgs false

end Go.Proofs.YtiminahobifomaaDoor

/- SearchDeltas: the given statement, out of the walk. No condition. -/
import Derived.Test.YtalkmkplmbmnkaaDM1
import Derived.Test.YtalkmkplmbmnkaaDM2
import Derived.Test.YtalkmkplmbmnkaaDM3
import Derived.Test.YtalkmkplmbmnkaaDM4
import Derived.Test.YtalkmkplmbmnkaaDM5
set_option linter.unusedVariables false
set_option linter.unusedSimpArgs false
namespace Go.Proofs.Ytalkmkplmbmnkaa
open Go Go.RowKit W Go.ChangeShapes Go.WideShapes Go.ChangeAt
open Go.ChangeMaps (open_string shut_string)
namespace SearchDeltas

end SearchDeltas
end Go.Proofs.Ytalkmkplmbmnkaa

/- umpireref05.n, bit. No condition but the numbers' bounds. -/
import Derived.Test.YtdjjjnoecfbjeaaDoorPReader
import Derived.Test.YtdjjjnoecfbjeaaDoorPArms
set_option linter.all false
set_option linter.unusedVariables false
set_option linter.unusedSimpArgs false
set_option linter.unnecessarySimpa false
/- umpireref05.n, bit. No condition but the numbers' bounds. -/
namespace Go.Proofs.YtdjjjnoecfbjeaaDoor
open Go.RowKit

end Go.Proofs.YtdjjjnoecfbjeaaDoor

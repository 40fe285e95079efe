/- umpireref05.Put of kinds 2, 3, 4, 7. Of events that may be. -/
import Derived.Test.YtdjjjnoecfbjeaaDoorPRefPutA
import Derived.Test.YtdjjjnoecfbjeaaDoorPOpTake
import Derived.Test.YtdjjjnoecfbjeaaDoorPEvPutK
import Derived.Test.YtdjjjnoecfbjeaaDoorPEvCheck
set_option linter.all false
set_option linter.unusedVariables false
set_option linter.unusedSimpArgs false
set_option linter.unnecessarySimpa false
/- umpireref05.Put of kinds 2, 3, 4, 7. Of events that may be. -/
namespace Go.Proofs.YtdjjjnoecfbjeaaDoor
open Go.RowKit

end Go.Proofs.YtdjjjnoecfbjeaaDoor

/- umpireref05.Put of kind 5. Of events that may be. -/
namespace Go.Proofs.YtdjjjnoecfbjeaaDoor
open Go.RowKit

end Go.Proofs.YtdjjjnoecfbjeaaDoor

/- umpireref05.Put of kind 6. Of events that may be. -/
namespace Go.Proofs.YtdjjjnoecfbjeaaDoor
open Go.RowKit

end Go.Proofs.YtdjjjnoecfbjeaaDoor

/- umpireref05.Put, whole. No condition but that the event can be read, and its numbers' bounds. -/
namespace Go.Proofs.YtdjjjnoecfbjeaaDoor
open Go.RowKit

end Go.Proofs.YtdjjjnoecfbjeaaDoor

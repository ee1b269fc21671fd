/- The document's shelf: Get. Conditions: it is one. -/
import Derived.Test.YtjcbmfopcohcmaaRefPut
namespace Go.Proofs.Ytjcbmfopcohcmaa
open Go.RowKit Go.ChangeShapes Go.Maps
set_option maxRecDepth 100000
set_option linter.unusedVariables false
set_option linter.unusedSimpArgs false

end Go.Proofs.Ytjcbmfopcohcmaa

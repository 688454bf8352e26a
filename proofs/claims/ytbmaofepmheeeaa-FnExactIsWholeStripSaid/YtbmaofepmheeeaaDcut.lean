/- Desks: the reference's test of them. -/
import Derived.Test.YtbmaofepmheeeaaCcut
namespace Go.Proofs.Ytbmaofepmheeeaa
open Go Go.RowKit
set_option maxRecDepth 10000
set_option linter.unusedSimpArgs false

end Go.Proofs.Ytbmaofepmheeeaa

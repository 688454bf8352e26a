/- Lists of clues. -/
import Derived.Test.YtmfdkjjhdjkgpaaQBclue
import Derived.Test.YtmfdkjjhdjkgpaaQZe
namespace Go.Proofs.Ytmfdkjjhdjkgpaa
open Go Go.RowKit
set_option maxRecDepth 10000
set_option linter.unusedSimpArgs false

end Go.Proofs.Ytmfdkjjhdjkgpaa

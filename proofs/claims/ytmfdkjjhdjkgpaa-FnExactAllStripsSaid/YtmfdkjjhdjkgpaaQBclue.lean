/- The law on clues. -/
import Derived.Test.YtmfdkjjhdjkgpaaQAclue
import Derived.Test.YtmfdkjjhdjkgpaaQZd
namespace Go.Proofs.Ytmfdkjjhdjkgpaa
open Go Go.RowKit
set_option maxRecDepth 10000
set_option linter.unusedSimpArgs false

end Go.Proofs.Ytmfdkjjhdjkgpaa

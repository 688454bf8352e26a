/- Cuts and numbers that a law marks among others, and looks at again. -/
import Derived.Test.YtmfdkjjhdjkgpaaQZh
import Derived.Test.YtmfdkjjhdjkgpaaQAdesk
import Derived.Test.YtmfdkjjhdjkgpaaQImark
import Derived.Test.YtmfdkjjhdjkgpaaQZf
namespace Go.Proofs.Ytmfdkjjhdjkgpaa
open Go Go.RowKit
set_option maxRecDepth 10000
set_option linter.unusedSimpArgs false

end Go.Proofs.Ytmfdkjjhdjkgpaa

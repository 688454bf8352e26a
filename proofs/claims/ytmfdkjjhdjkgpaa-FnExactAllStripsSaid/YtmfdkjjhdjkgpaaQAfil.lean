/- Sides of a strip in the order of filling. -/
import Derived.Test.YtmfdkjjhdjkgpaaQZaa
import Derived.Test.YtmfdkjjhdjkgpaaQZf
import Derived.Test.YtmfdkjjhdjkgpaaQEcut
import Derived.Test.YtmfdkjjhdjkgpaaQZi
import Derived.Test.YtmfdkjjhdjkgpaaQImark
import Derived.Test.YtmfdkjjhdjkgpaaQCclue
namespace Go.Proofs.Ytmfdkjjhdjkgpaa
open Go Go.RowKit
set_option maxRecDepth 10000
set_option maxHeartbeats 1000000
set_option linter.unusedSimpArgs false

end Go.Proofs.Ytmfdkjjhdjkgpaa

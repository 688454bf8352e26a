/- Cuts: lines down. -/
import Derived.Test.YtmfdkjjhdjkgpaaQEcut
import Derived.Test.YtmfdkjjhdjkgpaaQZj
import Derived.Test.YtmfdkjjhdjkgpaaQRst
import Derived.Test.YtmfdkjjhdjkgpaaQZg
import Derived.Test.YtmfdkjjhdjkgpaaQCclue
namespace Go.Proofs.Ytmfdkjjhdjkgpaa
open Go Go.RowKit
set_option maxRecDepth 10000
set_option linter.unusedSimpArgs false

end Go.Proofs.Ytmfdkjjhdjkgpaa

namespace Go.Proofs.Ytmfdkjjhdjkgpaa
open Go Go.RowKit
set_option maxRecDepth 10000
set_option linter.unusedSimpArgs false

end Go.Proofs.Ytmfdkjjhdjkgpaa

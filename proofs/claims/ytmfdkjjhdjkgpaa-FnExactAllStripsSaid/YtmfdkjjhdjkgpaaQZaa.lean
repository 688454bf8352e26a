/- Sorting by the library: from its contract on rows of cells to the calculus. -/
import Derived.Test.YtmfdkjjhdjkgpaaQZf
import Derived.Shelf.SlSortCmp.WholeK
import Derived.Test.YtmfdkjjhdjkgpaaQPsort
import Derived.Test.YtmfdkjjhdjkgpaaQZe
import Derived.Test.YtmfdkjjhdjkgpaaQT
import Derived.WalkKit
import Derived.Shelf.Lay
namespace Go.Proofs.Ytmfdkjjhdjkgpaa
open Go Go.RowKit
open Go.Sort (grow mapBlock onCells putCells PermIn SortedIn flatK get_flatK HoldsK putRowK)

end Go.Proofs.Ytmfdkjjhdjkgpaa

namespace Go.Proofs.Ytmfdkjjhdjkgpaa
open Go Go.RowKit Go.Shelf Go.Sort Go.Lib
set_option maxRecDepth 10000

/-- A square of numbers that are not too great. -/
@[reducible] def okSq (a : Int × Int × Int) : Prop := (-1000000 ≤ a.1 ∧ a.1 ≤ 1000000) ∧ (-1000000 ≤ a.2.1 ∧ a.2.1 ≤ 1000000) ∧ (-9223372036854775808 ≤ a.2.2 ∧ a.2.2 ≤ 9223372036854775807)

abbrev Sq := { a : Int × Int × Int // okSq a }

instance : Inhabited Sq := ⟨⟨(0, 0, 0), by decide⟩⟩

end Go.Proofs.Ytmfdkjjhdjkgpaa

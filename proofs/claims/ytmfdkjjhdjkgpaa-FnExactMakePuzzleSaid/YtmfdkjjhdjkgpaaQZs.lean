/- The library's stable sorting at squares: insertion. -/
import Derived.Test.YtmfdkjjhdjkgpaaQZr
import Derived.Test.YtmfdkjjhdjkgpaaQZaj
import Derived.Test.YtmfdkjjhdjkgpaaQZg
namespace Go.Proofs.Ytmfdkjjhdjkgpaa
open Go Go.RowKit
set_option maxRecDepth 10000
set_option maxHeartbeats 1000000
set_option linter.unusedSimpArgs false

theorem Seg.ok {a b : Nat} {l L : List S3} (h : Seg a b l L) (hok : ∀ x ∈ l, okSq x) : ∀ x ∈ L, okSq x := fun x hx => hok x (h.perm.mem_iff.1 hx)

end Go.Proofs.Ytmfdkjjhdjkgpaa

namespace Go.Proofs.Ytmfdkjjhdjkgpaa
open Go Go.RowKit
set_option maxRecDepth 10000
set_option maxHeartbeats 1000000
set_option linter.unusedSimpArgs false

end Go.Proofs.Ytmfdkjjhdjkgpaa

/- Filling by a list of sides, told without any program. -/
import Derived.Test.YtmfdkjjhdjkgpaaQZt
import Derived.Test.YtmfdkjjhdjkgpaaQZv
namespace Go.Proofs.Ytmfdkjjhdjkgpaa
open Go Go.RowKit
set_option maxRecDepth 10000
set_option maxHeartbeats 1000000
set_option linter.unusedSimpArgs false

/-- The first of the least rows. -/
def rowI (R : List Nat) : Nat → Nat
  | 0 => 0
  | i + 1 => if R.getD i 0 < R.getD (rowI R i) 0 then i else rowI R i

/-- The squares fill the rows. -/
def FilL (h : Nat) (R : List Nat) (sq : List S3) : Prop := ∀ r, r < h → ∀ x : Nat, x < R.getD r 0 ↔ ∃ q ∈ sq, inSq q x r = true

end Go.Proofs.Ytmfdkjjhdjkgpaa

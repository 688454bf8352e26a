/- Filled strips are cuts; plain. -/
import Derived.Test.YtmfdkjjhdjkgpaaQQrank
import Derived.Test.YtmfdkjjhdjkgpaaQLst
import Derived.Test.YtmfdkjjhdjkgpaaQZk
import Derived.Test.YtmfdkjjhdjkgpaaQZt
import Derived.Test.YtmfdkjjhdjkgpaaQPcof
import Derived.Test.YtmfdkjjhdjkgpaaQQs
import Derived.Test.YtmfdkjjhdjkgpaaQZi
import Derived.Test.YtmfdkjjhdjkgpaaQAclue
import Derived.Test.YtmfdkjjhdjkgpaaQPrank
import Derived.Test.YtmfdkjjhdjkgpaaQSst
import Derived.Test.YtmfdkjjhdjkgpaaQZf
namespace Go.Proofs.Ytmfdkjjhdjkgpaa
open Go Go.RowKit
set_option maxRecDepth 10000
set_option maxHeartbeats 1000000
set_option linter.unusedSimpArgs false

/-- What is told of the squares so far. -/
structure SqOK (h l : Nat) (R : List Nat) (sq : List S3) : Prop where
  fil : FilL h R sq
  place : ∀ q ∈ sq, 1 ≤ q.2.2 ∧ q.2.2 ≤ 4 ∧ 0 ≤ q.1 ∧ 0 ≤ q.2.1 ∧ q.1 + q.2.2 ≤ l ∧ q.2.1 + q.2.2 ≤ h
  free : sq.Pairwise (fun a b => ovB b a = false)
  area : (sq.map fun q => q.2.2 * q.2.2).sum = ((R.getD 0 0 + R.getD 1 0 + R.getD 2 0 + R.getD 3 0 : Nat) : Int)

end Go.Proofs.Ytmfdkjjhdjkgpaa

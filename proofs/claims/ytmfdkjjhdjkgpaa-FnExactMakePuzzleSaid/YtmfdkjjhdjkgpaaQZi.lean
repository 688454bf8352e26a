/- Rows of numbers: the least one, and where a number stands. -/
import Derived.Test.YtmfdkjjhdjkgpaaQZe
import Derived.Test.YtmfdkjjhdjkgpaaQT
import Derived.Test.YtmfdkjjhdjkgpaaQPs
namespace Go.Proofs.Ytmfdkjjhdjkgpaa
open Go Go.RowKit
set_option maxRecDepth 10000
set_option linter.unusedSimpArgs false

/-- Rows of one number. -/
def r1 (x : Int) : List DC := [dI x]

end Go.Proofs.Ytmfdkjjhdjkgpaa

namespace Go.Proofs.Ytmfdkjjhdjkgpaa
open Go Go.RowKit
set_option maxRecDepth 10000
set_option linter.unusedSimpArgs false

/-- How far a square may reach from row y on. -/
def mostI (h : Nat) (l X : Int) (R : List Int) (y : Nat) : Nat → Nat → Nat
  | 0, s => s
  | n + 1, s => if y + s < h ∧ R.getD (y + s) 0 = X ∧ X + s < l then mostI h l X R y n (s + 1) else s

end Go.Proofs.Ytmfdkjjhdjkgpaa

namespace Go.Proofs.Ytmfdkjjhdjkgpaa
open Go Go.RowKit
set_option maxRecDepth 10000
set_option linter.unusedSimpArgs false

end Go.Proofs.Ytmfdkjjhdjkgpaa

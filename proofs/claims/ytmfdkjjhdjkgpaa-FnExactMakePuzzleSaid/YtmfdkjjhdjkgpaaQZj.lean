/- Strips without squares of a side: the program. -/
import Derived.Test.YtmfdkjjhdjkgpaaQQs
import Derived.Test.YtmfdkjjhdjkgpaaQZi
import Derived.Test.YtmfdkjjhdjkgpaaQAclue
namespace Go.Proofs.Ytmfdkjjhdjkgpaa
open Go Go.RowKit
set_option maxRecDepth 10000
set_option linter.unusedSimpArgs false

/-- Ways to fill: those without squares of a side. -/
def stepV (wo : Nat) (i : Nat) (acc v : Int) : Int := if i = wo then acc else acc + v

theorem Vw_ex : ∃ f : Nat → Nat → Nat → Nat → Int, ∀ wo h left st, f wo h left st = Es (1 : Int) 0 (stepV wo) h left st := ⟨_, fun _ _ _ _ => rfl⟩

/-- The number of ways (a name that is not laid open by chance). -/
noncomputable def Vw : Nat → Nat → Nat → Nat → Int := Classical.choose Vw_ex

end Go.Proofs.Ytmfdkjjhdjkgpaa

namespace Go.Proofs.Ytmfdkjjhdjkgpaa
open Go Go.RowKit
set_option maxRecDepth 10000
set_option linter.unusedSimpArgs false

end Go.Proofs.Ytmfdkjjhdjkgpaa

namespace Go.Proofs.Ytmfdkjjhdjkgpaa
open Go Go.RowKit
set_option maxRecDepth 10000
set_option linter.unusedSimpArgs false

end Go.Proofs.Ytmfdkjjhdjkgpaa

/- Cuts: lines down. -/
import Derived.Test.YtmfdkjjhdjkgpaaQEcut
import Derived.Test.YtmfdkjjhdjkgpaaQZj
import Derived.Test.YtmfdkjjhdjkgpaaQLst
import Derived.Test.YtmfdkjjhdjkgpaaQZk
import Derived.Test.YtmfdkjjhdjkgpaaQZf
import Derived.Test.YtmfdkjjhdjkgpaaQZg
import Derived.Test.YtmfdkjjhdjkgpaaQCclue
namespace Go.Proofs.Ytmfdkjjhdjkgpaa
open Go Go.RowKit
set_option maxRecDepth 10000
set_option linter.unusedSimpArgs false

end Go.Proofs.Ytmfdkjjhdjkgpaa

namespace Go.Proofs.Ytmfdkjjhdjkgpaa
open Go Go.RowKit
set_option maxRecDepth 10000
set_option linter.unusedSimpArgs false

theorem cut_of_good {w : World} {R : Nat → Prop} {ds : List DC} {us : List Value} (h : Good w R [.int .i64, .int .i64, .slice [.int .i64, .int .i64, .int .i64]] ds us) :
    ∃ a b, ∃ cl : List (Int × Int × Int), ds = dCut a b cl ∧ cl.length ≤ maxLen := by
  cases h with | cons h1 _ h2 =>
  cases h2 with | cons h3 _ h4 =>
  cases h4 with | cons h5 _ h6 =>
  cases h6
  cases h1; cases h3
  cases h5 with | slice _ xs hl hx hh =>
  obtain ⟨cl, rfl⟩ := rows3 hx hh
  exact ⟨_, _, cl, rfl, by simpa using hl⟩

end Go.Proofs.Ytmfdkjjhdjkgpaa

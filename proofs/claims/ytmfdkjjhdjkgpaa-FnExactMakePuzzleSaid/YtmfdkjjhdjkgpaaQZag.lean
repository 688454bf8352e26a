/- All strips: both walks. -/
import Derived.Test.YtmfdkjjhdjkgpaaQGood
namespace Go.Proofs.Ytmfdkjjhdjkgpaa
open Go Go.RowKit
set_option maxRecDepth 10000
set_option maxHeartbeats 4000000
set_option linter.unusedSimpArgs false

end Go.Proofs.Ytmfdkjjhdjkgpaa

namespace Go.Proofs.Ytmfdkjjhdjkgpaa
open Go Go.RowKit
set_option maxRecDepth 10000
set_option maxHeartbeats 4000000
set_option linter.unusedSimpArgs false

theorem ElG.get {xs : List (List GC)} {i : Nat} {p : List GC → Prop} {x : List GC} (h : xs[i]? = some x) (g : p x) : ElG xs i p :=
  ⟨fun y hy => by rw [h] at hy; cases hy; exact g⟩

end Go.Proofs.Ytmfdkjjhdjkgpaa

namespace Go.Proofs.Ytmfdkjjhdjkgpaa
open Go Go.RowKit
set_option maxRecDepth 10000
set_option maxHeartbeats 4000000
set_option linter.unusedSimpArgs false

end Go.Proofs.Ytmfdkjjhdjkgpaa

namespace Go.Proofs.Ytmfdkjjhdjkgpaa
open Go Go.RowKit
set_option maxRecDepth 10000
set_option maxHeartbeats 4000000
set_option linter.unusedSimpArgs false

end Go.Proofs.Ytmfdkjjhdjkgpaa

namespace Go.Proofs.Ytmfdkjjhdjkgpaa
open Go Go.RowKit
set_option maxRecDepth 10000
set_option maxHeartbeats 4000000
set_option linter.unusedSimpArgs false

end Go.Proofs.Ytmfdkjjhdjkgpaa

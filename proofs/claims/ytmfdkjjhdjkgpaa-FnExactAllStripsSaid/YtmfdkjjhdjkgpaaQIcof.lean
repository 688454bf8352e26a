/- The law on cuts of a filling. -/
import Derived.Test.YtmfdkjjhdjkgpaaQFcof
namespace Go.Proofs.Ytmfdkjjhdjkgpaa
open Go Go.RowKit
set_option maxRecDepth 10000
set_option maxHeartbeats 4000000
set_option linter.unusedSimpArgs false

theorem cofR_len (w h : Int) (l : List (Int × Int × Int)) : (cofR w h l).1.2.2.length ≤ 30 := by
  unfold cofR
  split
  · rename_i g
    have := (good_chk g).2.2.1
    exact this.2
  · exact Nat.zero_le _

end Go.Proofs.Ytmfdkjjhdjkgpaa

/- The strip of a rank, told without any program. -/
import Derived.Test.YtmfdkjjhdjkgpaaQPrank
import Derived.Test.YtmfdkjjhdjkgpaaQZz
import Derived.Test.YtmfdkjjhdjkgpaaQLst
import Derived.Test.YtmfdkjjhdjkgpaaQZk
import Derived.Test.YtmfdkjjhdjkgpaaQPcof
namespace Go.Proofs.Ytmfdkjjhdjkgpaa
open Go Go.RowKit
set_option maxRecDepth 10000
set_option maxHeartbeats 1000000
set_option linter.unusedSimpArgs false

/-- The rank behind the sides 1 .. k. -/
noncomputable def pkI (h l : Nat) (R : List Nat) (y : Nat) (r : Int) : Nat → Int
  | 0 => r
  | k + 1 => pkI h l R y r k - waysA h l (putR R y (k + 1))

/-- The side with which the strip of a rank goes on. -/
structure PickOK (h l : Nat) (R : List Nat) (y : Nat) (r : Int) (s : Nat) : Prop where
  pos : 1 ≤ s
  le : s ≤ mst h l (R.getD y 0) R y
  pass : ∀ k, k + 1 < s → waysA h l (putR R y (k + 1)) ≤ pkI h l R y r k
  take : pkI h l R y r (s - 1) < waysA h l (putR R y s)

open Classical in
/-- Rows, what is left of the rank, and sides behind i squares. -/
noncomputable def rk (h l : Nat) (r : Int) : Nat → List Nat × Int × List Int
  | 0 => ([0, 0, 0, 0], r, [])
  | i + 1 => if e : ∃ s, PickOK h l (rk h l r i).1 (rowI (rk h l r i).1 h) (rk h l r i).2.1 s
      then (putR (rk h l r i).1 (rowI (rk h l r i).1 h) (Classical.choose e), pkI h l (rk h l r i).1 (rowI (rk h l r i).1 h) (rk h l r i).2.1 (Classical.choose e - 1), (rk h l r i).2.2 ++ [((Classical.choose e : Nat) : Int)])
      else rk h l r i

/-- What holds behind i squares. -/
structure RkAt (h l : Nat) (r : Int) (i : Nat) (R : List Nat) (r' : Int) (L : List Int) (X st : Nat) : Prop where
  eq : rk h l r i = (R, r', L)
  at_ : At h l X st R
  le : X ≤ l
  lo : 0 ≤ r'
  hi : r' < waysA h l R
  len : L.length = i
  four : R.length = 4
  zero : ∀ k, h ≤ k → R.getD k 0 = 0
  area : i ≤ R.getD 0 0 + R.getD 1 0 + R.getD 2 0 + R.getD 3 0
  side : ∀ s ∈ L, 1 ≤ s ∧ s ≤ 4

end Go.Proofs.Ytmfdkjjhdjkgpaa

/- Filling strips, as the program has it: how far each row is filled. -/
import Derived.Test.YtmfdkjjhdjkgpaaQZi
namespace Go.Proofs.Ytmfdkjjhdjkgpaa
open Go Go.RowKit

/-- How far each row is filled: the least filled one up to column X, the others as the digits say. -/
structure At (h l X st : Nat) (R : List Nat) : Prop where
  row : ∀ i, i < h → R.getD i 0 = X + dg st i
  lt : st < 4 ^ h
  free : (freeS h st).isSome = true
  le : ∀ i, i < h → R.getD i 0 ≤ l
  small : ∀ i, R.getD i 0 ≤ 34

/-! Digits of a shifted state, and of one with a square more. -/

def mst (h l X : Nat) (R : List Nat) (y : Nat) : Nat := mostI h l X (R.map Int.ofNat) y 5 0

/-- Rows with a square more. -/
def putR (R : List Nat) (y side : Nat) : List Nat := (List.range 4).map fun i => R.getD i 0 + (if y ≤ i ∧ i < y + side then side else 0)

end Go.Proofs.Ytmfdkjjhdjkgpaa

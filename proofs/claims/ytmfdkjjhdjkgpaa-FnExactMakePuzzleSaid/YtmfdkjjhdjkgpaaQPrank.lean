/- The rank of a strip, told without any program. -/
import Derived.Test.YtmfdkjjhdjkgpaaQZv
import Derived.Test.YtmfdkjjhdjkgpaaQLst
import Derived.Test.YtmfdkjjhdjkgpaaQZk
namespace Go.Proofs.Ytmfdkjjhdjkgpaa
open Go Go.RowKit
set_option maxRecDepth 10000
set_option linter.unusedSimpArgs false

/-- How far rows are filled behind the first i squares. -/
def rowsA (S : List (Int × Int × Int)) : Nat → List Nat
  | 0 => [0, 0, 0, 0]
  | i + 1 => match S[i]? with
    | some q => putR (rowsA S i) q.2.1.toNat q.2.2.toNat
    | none => rowsA S i

open Classical in
/-- How many ways there are to go on from rows that are filled so far. -/
noncomputable def waysA (h l : Nat) (R : List Nat) : Int := if e : ∃ p : Nat × Nat, At h l p.1 p.2 R then IntKind.i64.wrap (Vw 0 h (l - (Classical.choose e).1) (Classical.choose e).2) else 0

theorem four {R : List Nat} (h : R.length = 4) : R = [R.getD 0 0, R.getD 1 0, R.getD 2 0, R.getD 3 0] := by
  match R, h with
  | [a, b, c, d], _ => rfl

/-- What holds ahead of square i. -/
structure RankAt (l h : Nat) (S : List (Int × Int × Int)) (i : Nat) (X st : Nat) : Prop where
  at_ : At h l X st (rowsA S i)
  fil : Fil l h S i (rowsA S i)
  le : X ≤ l

/-- The reference's state: rows that are not moved on yet. -/
structure RepS (l h : Nat) (R : List Nat) (left st : Nat) : Prop where
  le : left ≤ l
  lt : st < 4 ^ h
  row : ∀ r, r < h → R.getD r 0 = (l - left) + dg st r
  room : ∀ r, r < h → dg st r ≤ left

end Go.Proofs.Ytmfdkjjhdjkgpaa

/- Strips: the program's tally of all ways to fill. -/
import Derived.Test.YtmfdkjjhdjkgpaaQZj
import Derived.Test.YtmfdkjjhdjkgpaaQZf
namespace Go.Proofs.Ytmfdkjjhdjkgpaa
open Go Go.RowKit
set_option maxRecDepth 10000
set_option linter.unusedSimpArgs false

/-- A row, so long at least. -/
def padTo (a : List Int) (n : Nat) : List Int := a ++ List.replicate (n - a.length) 0

/-- The first k of o, each to the next place of a row. -/
def addK (p o : List Int) : Nat → List Int
  | 0 => p
  | k + 1 => (addK p o k).set (k + 1) (IntKind.i64.wrap ((addK p o k).getD (k + 1) 0 + o.getD k 0))

def sumK (s : Int) (o : List Int) : Nat → Int
  | 0 => s
  | k + 1 => IntKind.i64.wrap (sumK s o k + o.getD k 0)

/-- A tally: with each number of squares; squares of each side. -/
abbrev TY := List Int × Int × Int × Int × Int × Int

def oneT : TY := ([1], 0, 0, 0, 0, 0)
def zeroT : TY := ([], 0, 0, 0, 0, 0)
def wadd (a b : Int) : Int := IntKind.i64.wrap (a + b)

def sideK (i j : Nat) (s : Int) (o : List Int) : Int := if i = j then sumK s o o.length else s

def stepT (i : Nat) (a v : TY) : TY :=
  (addK (padTo a.1 (v.1.length + 1)) v.1 v.1.length,
   wadd (sideK i 0 a.2.1 v.1) v.2.1, wadd (sideK i 1 a.2.2.1 v.1) v.2.2.1, wadd (sideK i 2 a.2.2.2.1 v.1) v.2.2.2.1, wadd (sideK i 3 a.2.2.2.2.1 v.1) v.2.2.2.2.1, wadd (sideK i 4 a.2.2.2.2.2 v.1) v.2.2.2.2.2)

theorem Tw_ex : ∃ f : Nat → Nat → Nat → TY, ∀ h left st, f h left st = Es oneT zeroT stepT h left st := ⟨_, fun _ _ _ => rfl⟩

/-- The tally (a name that is not laid open by chance). -/
noncomputable def Tw : Nat → Nat → Nat → TY := Classical.choose Tw_ex

end Go.Proofs.Ytmfdkjjhdjkgpaa

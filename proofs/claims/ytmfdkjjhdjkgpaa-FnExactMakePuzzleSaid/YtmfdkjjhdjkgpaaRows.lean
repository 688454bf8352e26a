/-
  No cell of these rows narrows 'for every input' (looked for: loops, veiled, ifaces, maps, wideKeys, modest, calm, conditions, laid).
  DERIVED. THE GIVEN ROWS OF THIS SEAT. 8 by the template 'for every input the law returns true; each argument reads behind the call as it read before'; 0 by the template 'total and deterministic' (their statements: YtmfdkjjhdjkgpaaTotals.lean).
  GIVEN WITH THE SEED: the statements are not yours to turn. If you find one false, say at which input.
  Laid BY PROGRAM, IN A SANDBOX (cutbox-rows.mjs): the forced cells as the released guide's own fill.sh prints them over the translation 77a53219d9394277… (all of the seat's roots in one cut). By AI agents, Wed Nov 11 2026. No macro, syntax, notation, axiom, sorry.
-/
import Derived.Test.YtmfdkjjhdjkgpaaChecked
import GoSem.Claim
import GoSem.ClaimJoined
import GoSem.ClaimMapViews
import Derived.JoinedTies
import Derived.KernelRfl
namespace Go.Proofs.Ytmfdkjjhdjkgpaa
/- THE CELL 'sum', in the pinned program and in every row, IS THE sha256 OF THE DUMP (.gsa) THAT YtmfdkjjhdjkgpaaProg.lean LOADS. Nothing in Lean hashes anything: it is a label: what it is worth is what the hold of that sum in a sandbox is worth. -/
noncomputable def Try.pinned : Pinned := { name := "ytmfdkjjhdjkgpaa", sum := "77a53219d9394277262c98ab4b189ed62e4ef2cfd2ea1de25e11b9e6206f39b0", checked := Try.checked }
namespace Rows
def none {H : Type} : Left H := { results := [], args := [] }

/-- 'laws.FnExactAllStrips': WHATEVER THE INPUT: true; the input reads as it did. -/
def fnExactAllStripsSpec : ChangeSpec := { name := "fnExactAllStrips", fn := fun _ => fun
  | [d1, d2] => { results := [.lit (.bool true)], args := [d1, d2] }
  | _ => none }
def fnExactAllStripsRow : OpenClaim := { program := "ytmfdkjjhdjkgpaa", sum := "77a53219d9394277262c98ab4b189ed62e4ef2cfd2ea1de25e11b9e6206f39b0", func := "loop.example/g01296/laws.FnExactAllStrips", spec := "fnExactAllStrips", unfollowed := true, recurses := true, plainKeys := false, apart := false }
def FnExactAllStripsSaid : Prop := fnExactAllStripsRow.holds Try.pinned (OpenSpec.ofChange fnExactAllStripsSpec)

/-- ITS FALSE NEIGHBOUR: 'it returns false'. Refute it at one input. -/
def fnExactAllStripsWrong : ChangeSpec := { name := "fnExactAllStrips", fn := fun _ => fun
  | [d1, d2] => { results := [.lit (.bool false)], args := [d1, d2] }
  | _ => none }
def FnExactAllStripsWrongFalsely : Prop := fnExactAllStripsRow.holds Try.pinned (OpenSpec.ofChange fnExactAllStripsWrong)

/-- 'laws.FnExactDoesFit': WHATEVER THE INPUT: true; the input reads as it did. -/
def fnExactDoesFitSpec : ChangeSpec := { name := "fnExactDoesFit", fn := fun _ => fun
  | [d1, d2] => { results := [.lit (.bool true)], args := [d1, d2] }
  | _ => none }
def fnExactDoesFitRow : OpenClaim := { program := "ytmfdkjjhdjkgpaa", sum := "77a53219d9394277262c98ab4b189ed62e4ef2cfd2ea1de25e11b9e6206f39b0", func := "loop.example/g01296/laws.FnExactDoesFit", spec := "fnExactDoesFit", unfollowed := true, recurses := true, plainKeys := false, apart := false }
def FnExactDoesFitSaid : Prop := fnExactDoesFitRow.holds Try.pinned (OpenSpec.ofChange fnExactDoesFitSpec)

/-- ITS FALSE NEIGHBOUR: 'it returns false'. Refute it at one input. -/
def fnExactDoesFitWrong : ChangeSpec := { name := "fnExactDoesFit", fn := fun _ => fun
  | [d1, d2] => { results := [.lit (.bool false)], args := [d1, d2] }
  | _ => none }
def FnExactDoesFitWrongFalsely : Prop := fnExactDoesFitRow.holds Try.pinned (OpenSpec.ofChange fnExactDoesFitWrong)

/-- 'laws.FnExactMakePuzzle': WHATEVER THE INPUT: true; the input reads as it did. -/
def fnExactMakePuzzleSpec : ChangeSpec := { name := "fnExactMakePuzzle", fn := fun _ => fun
  | [d1, d2, d3] => { results := [.lit (.bool true)], args := [d1, d2, d3] }
  | _ => none }
def fnExactMakePuzzleRow : OpenClaim := { program := "ytmfdkjjhdjkgpaa", sum := "77a53219d9394277262c98ab4b189ed62e4ef2cfd2ea1de25e11b9e6206f39b0", func := "loop.example/g01296/laws.FnExactMakePuzzle", spec := "fnExactMakePuzzle", unfollowed := true, recurses := true, plainKeys := false, apart := false }
def FnExactMakePuzzleSaid : Prop := fnExactMakePuzzleRow.holds Try.pinned (OpenSpec.ofChange fnExactMakePuzzleSpec)

/-- ITS FALSE NEIGHBOUR: 'it returns false'. Refute it at one input. -/
def fnExactMakePuzzleWrong : ChangeSpec := { name := "fnExactMakePuzzle", fn := fun _ => fun
  | [d1, d2, d3] => { results := [.lit (.bool false)], args := [d1, d2, d3] }
  | _ => none }
def FnExactMakePuzzleWrongFalsely : Prop := fnExactMakePuzzleRow.holds Try.pinned (OpenSpec.ofChange fnExactMakePuzzleWrong)

/-- 'laws.FnExactCountSolutions': WHATEVER THE INPUT: true; the input reads as it did. -/
def fnExactCountSolutionsSpec : ChangeSpec := { name := "fnExactCountSolutions", fn := fun _ => fun
  | [d] => { results := [.lit (.bool true)], args := [d] }
  | _ => none }
def fnExactCountSolutionsRow : OpenClaim := { program := "ytmfdkjjhdjkgpaa", sum := "77a53219d9394277262c98ab4b189ed62e4ef2cfd2ea1de25e11b9e6206f39b0", func := "loop.example/g01296/laws.FnExactCountSolutions", spec := "fnExactCountSolutions", unfollowed := true, recurses := true, plainKeys := false, apart := false }
def FnExactCountSolutionsSaid : Prop := fnExactCountSolutionsRow.holds Try.pinned (OpenSpec.ofChange fnExactCountSolutionsSpec)

/-- ITS FALSE NEIGHBOUR: 'it returns false'. Refute it at one input. -/
def fnExactCountSolutionsWrong : ChangeSpec := { name := "fnExactCountSolutions", fn := fun _ => fun
  | [d] => { results := [.lit (.bool false)], args := [d] }
  | _ => none }
def FnExactCountSolutionsWrongFalsely : Prop := fnExactCountSolutionsRow.holds Try.pinned (OpenSpec.ofChange fnExactCountSolutionsWrong)

/-- 'laws.FnExactIsSolved': WHATEVER THE INPUT: true; the input reads as it did. -/
def fnExactIsSolvedSpec : ChangeSpec := { name := "fnExactIsSolved", fn := fun _ => fun
  | [d] => { results := [.lit (.bool true)], args := [d] }
  | _ => none }
def fnExactIsSolvedRow : OpenClaim := { program := "ytmfdkjjhdjkgpaa", sum := "77a53219d9394277262c98ab4b189ed62e4ef2cfd2ea1de25e11b9e6206f39b0", func := "loop.example/g01296/laws.FnExactIsSolved", spec := "fnExactIsSolved", unfollowed := true, recurses := true, plainKeys := false, apart := false }
def FnExactIsSolvedSaid : Prop := fnExactIsSolvedRow.holds Try.pinned (OpenSpec.ofChange fnExactIsSolvedSpec)

/-- ITS FALSE NEIGHBOUR: 'it returns false'. Refute it at one input. -/
def fnExactIsSolvedWrong : ChangeSpec := { name := "fnExactIsSolved", fn := fun _ => fun
  | [d] => { results := [.lit (.bool false)], args := [d] }
  | _ => none }
def FnExactIsSolvedWrongFalsely : Prop := fnExactIsSolvedRow.holds Try.pinned (OpenSpec.ofChange fnExactIsSolvedWrong)

/-- 'laws.FnExactBestClue': WHATEVER THE INPUT: true; the input reads as it did. -/
def fnExactBestClueSpec : ChangeSpec := { name := "fnExactBestClue", fn := fun _ => fun
  | [d] => { results := [.lit (.bool true)], args := [d] }
  | _ => none }
def fnExactBestClueRow : OpenClaim := { program := "ytmfdkjjhdjkgpaa", sum := "77a53219d9394277262c98ab4b189ed62e4ef2cfd2ea1de25e11b9e6206f39b0", func := "loop.example/g01296/laws.FnExactBestClue", spec := "fnExactBestClue", unfollowed := true, recurses := true, plainKeys := false, apart := false }
def FnExactBestClueSaid : Prop := fnExactBestClueRow.holds Try.pinned (OpenSpec.ofChange fnExactBestClueSpec)

/-- ITS FALSE NEIGHBOUR: 'it returns false'. Refute it at one input. -/
def fnExactBestClueWrong : ChangeSpec := { name := "fnExactBestClue", fn := fun _ => fun
  | [d] => { results := [.lit (.bool false)], args := [d] }
  | _ => none }
def FnExactBestClueWrongFalsely : Prop := fnExactBestClueRow.holds Try.pinned (OpenSpec.ofChange fnExactBestClueWrong)

/-- 'laws.FnExactLeftByClues': WHATEVER THE INPUT: true; the input reads as it did. -/
def fnExactLeftByCluesSpec : ChangeSpec := { name := "fnExactLeftByClues", fn := fun _ => fun
  | [d] => { results := [.lit (.bool true)], args := [d] }
  | _ => none }
def fnExactLeftByCluesRow : OpenClaim := { program := "ytmfdkjjhdjkgpaa", sum := "77a53219d9394277262c98ab4b189ed62e4ef2cfd2ea1de25e11b9e6206f39b0", func := "loop.example/g01296/laws.FnExactLeftByClues", spec := "fnExactLeftByClues", unfollowed := true, recurses := true, plainKeys := false, apart := false }
def FnExactLeftByCluesSaid : Prop := fnExactLeftByCluesRow.holds Try.pinned (OpenSpec.ofChange fnExactLeftByCluesSpec)

/-- ITS FALSE NEIGHBOUR: 'it returns false'. Refute it at one input. -/
def fnExactLeftByCluesWrong : ChangeSpec := { name := "fnExactLeftByClues", fn := fun _ => fun
  | [d] => { results := [.lit (.bool false)], args := [d] }
  | _ => none }
def FnExactLeftByCluesWrongFalsely : Prop := fnExactLeftByCluesRow.holds Try.pinned (OpenSpec.ofChange fnExactLeftByCluesWrong)

/-- 'laws.FnExactSureSides': WHATEVER THE INPUT: true; the input reads as it did. -/
def fnExactSureSidesSpec : ChangeSpec := { name := "fnExactSureSides", fn := fun _ => fun
  | [d] => { results := [.lit (.bool true)], args := [d] }
  | _ => none }
def fnExactSureSidesRow : OpenClaim := { program := "ytmfdkjjhdjkgpaa", sum := "77a53219d9394277262c98ab4b189ed62e4ef2cfd2ea1de25e11b9e6206f39b0", func := "loop.example/g01296/laws.FnExactSureSides", spec := "fnExactSureSides", unfollowed := true, recurses := true, plainKeys := false, apart := false }
def FnExactSureSidesSaid : Prop := fnExactSureSidesRow.holds Try.pinned (OpenSpec.ofChange fnExactSureSidesSpec)

/-- ITS FALSE NEIGHBOUR: 'it returns false'. Refute it at one input. -/
def fnExactSureSidesWrong : ChangeSpec := { name := "fnExactSureSides", fn := fun _ => fun
  | [d] => { results := [.lit (.bool false)], args := [d] }
  | _ => none }
def FnExactSureSidesWrongFalsely : Prop := fnExactSureSidesRow.holds Try.pinned (OpenSpec.ofChange fnExactSureSidesWrong)

/- THE SECOND FORM. 'bulk': how many values and letters a reading holds, each counted each time it is reached (what is shared counts as often as it is met; a slice's spare places count too). A statement '..UptoSaid' is the law's where the arguments, and the package variables that the reading takes, are together of bulk at most 1048576: NARROWER than '..Said'. Prove '..Said' where nothing that the law and all that it calls make is longer than what came in: it says more and counts as full. Else prove '..UptoSaid'. A law counts once. -/
mutual
def uptoBulk {H : Type} : DataW H → Nat
  | .lit (.string bytes) => bytes.length + 1
  | .lit _ => 1
  | .nil => 1
  | .ptr d => uptoBulk d + 1
  | .slice elems spare => uptoBulkAll elems + uptoBulkAll spare + 1
  | .agg parts => uptoBulkAll parts + 1
  | .iface _ d => uptoBulk d + 1
  | .map entries => uptoBulkEntries entries + 1
  | .held _ => 1
def uptoBulkAll {H : Type} : List (DataW H) → Nat
  | [] => 0
  | d :: r => uptoBulk d + uptoBulkAll r
def uptoBulkEntries {H : Type} : List (Lit × DataW H) → Nat
  | [] => 0
  | x :: r => uptoBulkEntry x + uptoBulkEntries r
def uptoBulkEntry {H : Type} : Lit × DataW H → Nat
  | (.string bytes, d) => bytes.length + uptoBulk d + 1
  | (_, d) => uptoBulk d + 1
 end
def uptoSmall : (H : Type) → List (DataW H) → Bool := fun _ ds => decide (uptoBulkAll ds ≤ 1048576)
def OpenSpec.upto (s : _root_.Go.ChangeSpec) : _root_.Go.OpenSpec := { _root_.Go.OpenSpec.ofChange s with cond := some uptoSmall }

/-- 'laws.FnExactAllStrips', WHERE WHAT IT READS IS OF BULK AT MOST 1048576: true; the input reads as it did. -/
def fnExactAllStripsUptoRow : OpenClaim := { program := "ytmfdkjjhdjkgpaa", sum := "77a53219d9394277262c98ab4b189ed62e4ef2cfd2ea1de25e11b9e6206f39b0", func := "loop.example/g01296/laws.FnExactAllStrips", spec := "fnExactAllStrips", unfollowed := true, recurses := true, plainKeys := false, apart := false, narrowed := true }
def FnExactAllStripsUptoSaid : Prop := fnExactAllStripsUptoRow.holds Try.pinned (OpenSpec.upto fnExactAllStripsSpec)

/-- 'laws.FnExactDoesFit', WHERE WHAT IT READS IS OF BULK AT MOST 1048576: true; the input reads as it did. -/
def fnExactDoesFitUptoRow : OpenClaim := { program := "ytmfdkjjhdjkgpaa", sum := "77a53219d9394277262c98ab4b189ed62e4ef2cfd2ea1de25e11b9e6206f39b0", func := "loop.example/g01296/laws.FnExactDoesFit", spec := "fnExactDoesFit", unfollowed := true, recurses := true, plainKeys := false, apart := false, narrowed := true }
def FnExactDoesFitUptoSaid : Prop := fnExactDoesFitUptoRow.holds Try.pinned (OpenSpec.upto fnExactDoesFitSpec)

/-- 'laws.FnExactMakePuzzle', WHERE WHAT IT READS IS OF BULK AT MOST 1048576: true; the input reads as it did. -/
def fnExactMakePuzzleUptoRow : OpenClaim := { program := "ytmfdkjjhdjkgpaa", sum := "77a53219d9394277262c98ab4b189ed62e4ef2cfd2ea1de25e11b9e6206f39b0", func := "loop.example/g01296/laws.FnExactMakePuzzle", spec := "fnExactMakePuzzle", unfollowed := true, recurses := true, plainKeys := false, apart := false, narrowed := true }
def FnExactMakePuzzleUptoSaid : Prop := fnExactMakePuzzleUptoRow.holds Try.pinned (OpenSpec.upto fnExactMakePuzzleSpec)

/-- 'laws.FnExactCountSolutions', WHERE WHAT IT READS IS OF BULK AT MOST 1048576: true; the input reads as it did. -/
def fnExactCountSolutionsUptoRow : OpenClaim := { program := "ytmfdkjjhdjkgpaa", sum := "77a53219d9394277262c98ab4b189ed62e4ef2cfd2ea1de25e11b9e6206f39b0", func := "loop.example/g01296/laws.FnExactCountSolutions", spec := "fnExactCountSolutions", unfollowed := true, recurses := true, plainKeys := false, apart := false, narrowed := true }
def FnExactCountSolutionsUptoSaid : Prop := fnExactCountSolutionsUptoRow.holds Try.pinned (OpenSpec.upto fnExactCountSolutionsSpec)

/-- 'laws.FnExactIsSolved', WHERE WHAT IT READS IS OF BULK AT MOST 1048576: true; the input reads as it did. -/
def fnExactIsSolvedUptoRow : OpenClaim := { program := "ytmfdkjjhdjkgpaa", sum := "77a53219d9394277262c98ab4b189ed62e4ef2cfd2ea1de25e11b9e6206f39b0", func := "loop.example/g01296/laws.FnExactIsSolved", spec := "fnExactIsSolved", unfollowed := true, recurses := true, plainKeys := false, apart := false, narrowed := true }
def FnExactIsSolvedUptoSaid : Prop := fnExactIsSolvedUptoRow.holds Try.pinned (OpenSpec.upto fnExactIsSolvedSpec)

/-- 'laws.FnExactBestClue', WHERE WHAT IT READS IS OF BULK AT MOST 1048576: true; the input reads as it did. -/
def fnExactBestClueUptoRow : OpenClaim := { program := "ytmfdkjjhdjkgpaa", sum := "77a53219d9394277262c98ab4b189ed62e4ef2cfd2ea1de25e11b9e6206f39b0", func := "loop.example/g01296/laws.FnExactBestClue", spec := "fnExactBestClue", unfollowed := true, recurses := true, plainKeys := false, apart := false, narrowed := true }
def FnExactBestClueUptoSaid : Prop := fnExactBestClueUptoRow.holds Try.pinned (OpenSpec.upto fnExactBestClueSpec)

/-- 'laws.FnExactLeftByClues', WHERE WHAT IT READS IS OF BULK AT MOST 1048576: true; the input reads as it did. -/
def fnExactLeftByCluesUptoRow : OpenClaim := { program := "ytmfdkjjhdjkgpaa", sum := "77a53219d9394277262c98ab4b189ed62e4ef2cfd2ea1de25e11b9e6206f39b0", func := "loop.example/g01296/laws.FnExactLeftByClues", spec := "fnExactLeftByClues", unfollowed := true, recurses := true, plainKeys := false, apart := false, narrowed := true }
def FnExactLeftByCluesUptoSaid : Prop := fnExactLeftByCluesUptoRow.holds Try.pinned (OpenSpec.upto fnExactLeftByCluesSpec)

/-- 'laws.FnExactSureSides', WHERE WHAT IT READS IS OF BULK AT MOST 1048576: true; the input reads as it did. -/
def fnExactSureSidesUptoRow : OpenClaim := { program := "ytmfdkjjhdjkgpaa", sum := "77a53219d9394277262c98ab4b189ed62e4ef2cfd2ea1de25e11b9e6206f39b0", func := "loop.example/g01296/laws.FnExactSureSides", spec := "fnExactSureSides", unfollowed := true, recurses := true, plainKeys := false, apart := false, narrowed := true }
def FnExactSureSidesUptoSaid : Prop := fnExactSureSidesUptoRow.holds Try.pinned (OpenSpec.upto fnExactSureSidesSpec)

end Rows
end Go.Proofs.Ytmfdkjjhdjkgpaa

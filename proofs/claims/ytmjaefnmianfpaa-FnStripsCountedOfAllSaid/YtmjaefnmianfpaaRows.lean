/-
  No cell of these rows narrows 'for every input' (looked for: loops, veiled, ifaces, maps, wideKeys, modest, calm, conditions, laid).
  DERIVED. THE GIVEN ROWS OF THIS SEAT. 8 by the template 'for every input the law returns true; each argument reads behind the call as it read before'; 0 by the template 'total and deterministic' (their statements: YtmjaefnmianfpaaTotals.lean).
  GIVEN WITH THE SEED: the statements are not yours to turn. If you find one false, say at which input.
  Laid BY PROGRAM, IN A SANDBOX (cutbox-rows.mjs): the forced cells as the released guide's own fill.sh prints them over the translation f8bdb8f82e424fa8… (all of the seat's roots in one cut). By AI agents, Wed Nov 11 2026. No macro, syntax, notation, axiom, sorry.
-/
import Derived.Test.YtmjaefnmianfpaaChecked
import GoSem.Claim
import GoSem.ClaimJoined
import GoSem.ClaimMapViews
import Derived.JoinedTies
import Derived.KernelRfl
namespace Go.Proofs.Ytmjaefnmianfpaa
/- THE CELL 'sum', in the pinned program and in every row, IS THE sha256 OF THE DUMP (.gsa) THAT YtmjaefnmianfpaaProg.lean LOADS. Nothing in Lean hashes anything: it is a label: what it is worth is what the hold of that sum in a sandbox is worth. -/
noncomputable def Try.pinned : Pinned := { name := "ytmjaefnmianfpaa", sum := "f8bdb8f82e424fa8a5358962b25ad371830928f314ab5fb40693cc6c26bf338d", checked := Try.checked }
namespace Rows
def none {H : Type} : Left H := { results := [], args := [] }

/-- 'laws.FnStripsCountedOfAll': WHATEVER THE INPUT: true; the input reads as it did. -/
def fnStripsCountedOfAllSpec : ChangeSpec := { name := "fnStripsCountedOfAll", fn := fun _ => fun
  | [d1, d2, d3, d4, d5, d6, d7, d8] => { results := [.lit (.bool true)], args := [d1, d2, d3, d4, d5, d6, d7, d8] }
  | _ => none }
def fnStripsCountedOfAllRow : OpenClaim := { program := "ytmjaefnmianfpaa", sum := "f8bdb8f82e424fa8a5358962b25ad371830928f314ab5fb40693cc6c26bf338d", func := "loop.example/g01296/laws.FnStripsCountedOfAll", spec := "fnStripsCountedOfAll", unfollowed := true, recurses := true, plainKeys := false, apart := false }
def FnStripsCountedOfAllSaid : Prop := fnStripsCountedOfAllRow.holds Try.pinned (OpenSpec.ofChange fnStripsCountedOfAllSpec)

/-- ITS FALSE NEIGHBOUR: 'it returns false'. Refute it at one input. -/
def fnStripsCountedOfAllWrong : ChangeSpec := { name := "fnStripsCountedOfAll", fn := fun _ => fun
  | [d1, d2, d3, d4, d5, d6, d7, d8] => { results := [.lit (.bool false)], args := [d1, d2, d3, d4, d5, d6, d7, d8] }
  | _ => none }
def FnStripsCountedOfAllWrongFalsely : Prop := fnStripsCountedOfAllRow.holds Try.pinned (OpenSpec.ofChange fnStripsCountedOfAllWrong)

/-- 'laws.FnExactCutOfFill': WHATEVER THE INPUT: true; the input reads as it did. -/
def fnExactCutOfFillSpec : ChangeSpec := { name := "fnExactCutOfFill", fn := fun _ => fun
  | [d1, d2] => { results := [.lit (.bool true)], args := [d1, d2] }
  | _ => none }
def fnExactCutOfFillRow : OpenClaim := { program := "ytmjaefnmianfpaa", sum := "f8bdb8f82e424fa8a5358962b25ad371830928f314ab5fb40693cc6c26bf338d", func := "loop.example/g01296/laws.FnExactCutOfFill", spec := "fnExactCutOfFill", unfollowed := true, recurses := true, plainKeys := false, apart := false }
def FnExactCutOfFillSaid : Prop := fnExactCutOfFillRow.holds Try.pinned (OpenSpec.ofChange fnExactCutOfFillSpec)

/-- ITS FALSE NEIGHBOUR: 'it returns false'. Refute it at one input. -/
def fnExactCutOfFillWrong : ChangeSpec := { name := "fnExactCutOfFill", fn := fun _ => fun
  | [d1, d2] => { results := [.lit (.bool false)], args := [d1, d2] }
  | _ => none }
def FnExactCutOfFillWrongFalsely : Prop := fnExactCutOfFillRow.holds Try.pinned (OpenSpec.ofChange fnExactCutOfFillWrong)

/-- 'laws.FnExactFillSides': WHATEVER THE INPUT: true; the input reads as it did. -/
def fnExactFillSidesSpec : ChangeSpec := { name := "fnExactFillSides", fn := fun _ => fun
  | [d] => { results := [.lit (.bool true)], args := [d] }
  | _ => none }
def fnExactFillSidesRow : OpenClaim := { program := "ytmjaefnmianfpaa", sum := "f8bdb8f82e424fa8a5358962b25ad371830928f314ab5fb40693cc6c26bf338d", func := "loop.example/g01296/laws.FnExactFillSides", spec := "fnExactFillSides", unfollowed := true, recurses := true, plainKeys := false, apart := false }
def FnExactFillSidesSaid : Prop := fnExactFillSidesRow.holds Try.pinned (OpenSpec.ofChange fnExactFillSidesSpec)

/-- ITS FALSE NEIGHBOUR: 'it returns false'. Refute it at one input. -/
def fnExactFillSidesWrong : ChangeSpec := { name := "fnExactFillSides", fn := fun _ => fun
  | [d] => { results := [.lit (.bool false)], args := [d] }
  | _ => none }
def FnExactFillSidesWrongFalsely : Prop := fnExactFillSidesRow.holds Try.pinned (OpenSpec.ofChange fnExactFillSidesWrong)

/-- 'laws.FnExactStripOfRank': WHATEVER THE INPUT: true; the input reads as it did. -/
def fnExactStripOfRankSpec : ChangeSpec := { name := "fnExactStripOfRank", fn := fun _ => fun
  | [d1, d2, d3] => { results := [.lit (.bool true)], args := [d1, d2, d3] }
  | _ => none }
def fnExactStripOfRankRow : OpenClaim := { program := "ytmjaefnmianfpaa", sum := "f8bdb8f82e424fa8a5358962b25ad371830928f314ab5fb40693cc6c26bf338d", func := "loop.example/g01296/laws.FnExactStripOfRank", spec := "fnExactStripOfRank", unfollowed := true, recurses := true, plainKeys := false, apart := false }
def FnExactStripOfRankSaid : Prop := fnExactStripOfRankRow.holds Try.pinned (OpenSpec.ofChange fnExactStripOfRankSpec)

/-- ITS FALSE NEIGHBOUR: 'it returns false'. Refute it at one input. -/
def fnExactStripOfRankWrong : ChangeSpec := { name := "fnExactStripOfRank", fn := fun _ => fun
  | [d1, d2, d3] => { results := [.lit (.bool false)], args := [d1, d2, d3] }
  | _ => none }
def FnExactStripOfRankWrongFalsely : Prop := fnExactStripOfRankRow.holds Try.pinned (OpenSpec.ofChange fnExactStripOfRankWrong)

/-- 'laws.FnExactAllStrips': WHATEVER THE INPUT: true; the input reads as it did. -/
def fnExactAllStripsSpec : ChangeSpec := { name := "fnExactAllStrips", fn := fun _ => fun
  | [d1, d2] => { results := [.lit (.bool true)], args := [d1, d2] }
  | _ => none }
def fnExactAllStripsRow : OpenClaim := { program := "ytmjaefnmianfpaa", sum := "f8bdb8f82e424fa8a5358962b25ad371830928f314ab5fb40693cc6c26bf338d", func := "loop.example/g01296/laws.FnExactAllStrips", spec := "fnExactAllStrips", unfollowed := true, recurses := true, plainKeys := false, apart := false }
def FnExactAllStripsSaid : Prop := fnExactAllStripsRow.holds Try.pinned (OpenSpec.ofChange fnExactAllStripsSpec)

/-- ITS FALSE NEIGHBOUR: 'it returns false'. Refute it at one input. -/
def fnExactAllStripsWrong : ChangeSpec := { name := "fnExactAllStrips", fn := fun _ => fun
  | [d1, d2] => { results := [.lit (.bool false)], args := [d1, d2] }
  | _ => none }
def FnExactAllStripsWrongFalsely : Prop := fnExactAllStripsRow.holds Try.pinned (OpenSpec.ofChange fnExactAllStripsWrong)

/-- 'laws.FnExactRankOfStrip': WHATEVER THE INPUT: true; the input reads as it did. -/
def fnExactRankOfStripSpec : ChangeSpec := { name := "fnExactRankOfStrip", fn := fun _ => fun
  | [d] => { results := [.lit (.bool true)], args := [d] }
  | _ => none }
def fnExactRankOfStripRow : OpenClaim := { program := "ytmjaefnmianfpaa", sum := "f8bdb8f82e424fa8a5358962b25ad371830928f314ab5fb40693cc6c26bf338d", func := "loop.example/g01296/laws.FnExactRankOfStrip", spec := "fnExactRankOfStrip", unfollowed := true, recurses := true, plainKeys := false, apart := false }
def FnExactRankOfStripSaid : Prop := fnExactRankOfStripRow.holds Try.pinned (OpenSpec.ofChange fnExactRankOfStripSpec)

/-- ITS FALSE NEIGHBOUR: 'it returns false'. Refute it at one input. -/
def fnExactRankOfStripWrong : ChangeSpec := { name := "fnExactRankOfStrip", fn := fun _ => fun
  | [d] => { results := [.lit (.bool false)], args := [d] }
  | _ => none }
def FnExactRankOfStripWrongFalsely : Prop := fnExactRankOfStripRow.holds Try.pinned (OpenSpec.ofChange fnExactRankOfStripWrong)

/-- 'laws.FnExactDoesFit': WHATEVER THE INPUT: true; the input reads as it did. -/
def fnExactDoesFitSpec : ChangeSpec := { name := "fnExactDoesFit", fn := fun _ => fun
  | [d1, d2] => { results := [.lit (.bool true)], args := [d1, d2] }
  | _ => none }
def fnExactDoesFitRow : OpenClaim := { program := "ytmjaefnmianfpaa", sum := "f8bdb8f82e424fa8a5358962b25ad371830928f314ab5fb40693cc6c26bf338d", func := "loop.example/g01296/laws.FnExactDoesFit", spec := "fnExactDoesFit", unfollowed := true, recurses := true, plainKeys := false, apart := false }
def FnExactDoesFitSaid : Prop := fnExactDoesFitRow.holds Try.pinned (OpenSpec.ofChange fnExactDoesFitSpec)

/-- ITS FALSE NEIGHBOUR: 'it returns false'. Refute it at one input. -/
def fnExactDoesFitWrong : ChangeSpec := { name := "fnExactDoesFit", fn := fun _ => fun
  | [d1, d2] => { results := [.lit (.bool false)], args := [d1, d2] }
  | _ => none }
def FnExactDoesFitWrongFalsely : Prop := fnExactDoesFitRow.holds Try.pinned (OpenSpec.ofChange fnExactDoesFitWrong)

/-- 'laws.FnExactMakePuzzle': WHATEVER THE INPUT: true; the input reads as it did. -/
def fnExactMakePuzzleSpec : ChangeSpec := { name := "fnExactMakePuzzle", fn := fun _ => fun
  | [d1, d2, d3] => { results := [.lit (.bool true)], args := [d1, d2, d3] }
  | _ => none }
def fnExactMakePuzzleRow : OpenClaim := { program := "ytmjaefnmianfpaa", sum := "f8bdb8f82e424fa8a5358962b25ad371830928f314ab5fb40693cc6c26bf338d", func := "loop.example/g01296/laws.FnExactMakePuzzle", spec := "fnExactMakePuzzle", unfollowed := true, recurses := true, plainKeys := false, apart := false }
def FnExactMakePuzzleSaid : Prop := fnExactMakePuzzleRow.holds Try.pinned (OpenSpec.ofChange fnExactMakePuzzleSpec)

/-- ITS FALSE NEIGHBOUR: 'it returns false'. Refute it at one input. -/
def fnExactMakePuzzleWrong : ChangeSpec := { name := "fnExactMakePuzzle", fn := fun _ => fun
  | [d1, d2, d3] => { results := [.lit (.bool false)], args := [d1, d2, d3] }
  | _ => none }
def FnExactMakePuzzleWrongFalsely : Prop := fnExactMakePuzzleRow.holds Try.pinned (OpenSpec.ofChange fnExactMakePuzzleWrong)

/- THE SECOND FORM. 'bulk': how many values and letters a reading holds, each counted each time it is reached (what is shared counts as often as it is met; a slice's spare places count too). A statement '..UptoSaid' is the law's where the arguments, and the package variables that the reading takes, are together of bulk at most 1048576: NARROWER than '..Said'. Prove '..Said' where nothing that the law and all that it calls make is longer than what came in: it says more and counts as full. Else prove '..UptoSaid'. A law counts once. -/
mutual
def uptoBulk {H : Type} : DataW H → Nat
  | .lit (.string bytes) => bytes.length + 1
  | .lit _ => 1
  | .nil => 1
  | .ptr d => uptoBulk d + 1
  | .slice elems spare => uptoBulkAll elems + uptoBulkAll spare + 1
  | .agg parts => uptoBulkAll parts + 1
  | .iface _ d => uptoBulk d + 1
  | .map entries => uptoBulkEntries entries + 1
  | .held _ => 1
def uptoBulkAll {H : Type} : List (DataW H) → Nat
  | [] => 0
  | d :: r => uptoBulk d + uptoBulkAll r
def uptoBulkEntries {H : Type} : List (Lit × DataW H) → Nat
  | [] => 0
  | x :: r => uptoBulkEntry x + uptoBulkEntries r
def uptoBulkEntry {H : Type} : Lit × DataW H → Nat
  | (.string bytes, d) => bytes.length + uptoBulk d + 1
  | (_, d) => uptoBulk d + 1
 end
def uptoSmall : (H : Type) → List (DataW H) → Bool := fun _ ds => decide (uptoBulkAll ds ≤ 1048576)
def OpenSpec.upto (s : _root_.Go.ChangeSpec) : _root_.Go.OpenSpec := { _root_.Go.OpenSpec.ofChange s with cond := some uptoSmall }

/-- 'laws.FnStripsCountedOfAll', WHERE WHAT IT READS IS OF BULK AT MOST 1048576: true; the input reads as it did. -/
def fnStripsCountedOfAllUptoRow : OpenClaim := { program := "ytmjaefnmianfpaa", sum := "f8bdb8f82e424fa8a5358962b25ad371830928f314ab5fb40693cc6c26bf338d", func := "loop.example/g01296/laws.FnStripsCountedOfAll", spec := "fnStripsCountedOfAll", unfollowed := true, recurses := true, plainKeys := false, apart := false, narrowed := true }
def FnStripsCountedOfAllUptoSaid : Prop := fnStripsCountedOfAllUptoRow.holds Try.pinned (OpenSpec.upto fnStripsCountedOfAllSpec)

/-- 'laws.FnExactCutOfFill', WHERE WHAT IT READS IS OF BULK AT MOST 1048576: true; the input reads as it did. -/
def fnExactCutOfFillUptoRow : OpenClaim := { program := "ytmjaefnmianfpaa", sum := "f8bdb8f82e424fa8a5358962b25ad371830928f314ab5fb40693cc6c26bf338d", func := "loop.example/g01296/laws.FnExactCutOfFill", spec := "fnExactCutOfFill", unfollowed := true, recurses := true, plainKeys := false, apart := false, narrowed := true }
def FnExactCutOfFillUptoSaid : Prop := fnExactCutOfFillUptoRow.holds Try.pinned (OpenSpec.upto fnExactCutOfFillSpec)

/-- 'laws.FnExactFillSides', WHERE WHAT IT READS IS OF BULK AT MOST 1048576: true; the input reads as it did. -/
def fnExactFillSidesUptoRow : OpenClaim := { program := "ytmjaefnmianfpaa", sum := "f8bdb8f82e424fa8a5358962b25ad371830928f314ab5fb40693cc6c26bf338d", func := "loop.example/g01296/laws.FnExactFillSides", spec := "fnExactFillSides", unfollowed := true, recurses := true, plainKeys := false, apart := false, narrowed := true }
def FnExactFillSidesUptoSaid : Prop := fnExactFillSidesUptoRow.holds Try.pinned (OpenSpec.upto fnExactFillSidesSpec)

/-- 'laws.FnExactStripOfRank', WHERE WHAT IT READS IS OF BULK AT MOST 1048576: true; the input reads as it did. -/
def fnExactStripOfRankUptoRow : OpenClaim := { program := "ytmjaefnmianfpaa", sum := "f8bdb8f82e424fa8a5358962b25ad371830928f314ab5fb40693cc6c26bf338d", func := "loop.example/g01296/laws.FnExactStripOfRank", spec := "fnExactStripOfRank", unfollowed := true, recurses := true, plainKeys := false, apart := false, narrowed := true }
def FnExactStripOfRankUptoSaid : Prop := fnExactStripOfRankUptoRow.holds Try.pinned (OpenSpec.upto fnExactStripOfRankSpec)

/-- 'laws.FnExactAllStrips', WHERE WHAT IT READS IS OF BULK AT MOST 1048576: true; the input reads as it did. -/
def fnExactAllStripsUptoRow : OpenClaim := { program := "ytmjaefnmianfpaa", sum := "f8bdb8f82e424fa8a5358962b25ad371830928f314ab5fb40693cc6c26bf338d", func := "loop.example/g01296/laws.FnExactAllStrips", spec := "fnExactAllStrips", unfollowed := true, recurses := true, plainKeys := false, apart := false, narrowed := true }
def FnExactAllStripsUptoSaid : Prop := fnExactAllStripsUptoRow.holds Try.pinned (OpenSpec.upto fnExactAllStripsSpec)

/-- 'laws.FnExactRankOfStrip', WHERE WHAT IT READS IS OF BULK AT MOST 1048576: true; the input reads as it did. -/
def fnExactRankOfStripUptoRow : OpenClaim := { program := "ytmjaefnmianfpaa", sum := "f8bdb8f82e424fa8a5358962b25ad371830928f314ab5fb40693cc6c26bf338d", func := "loop.example/g01296/laws.FnExactRankOfStrip", spec := "fnExactRankOfStrip", unfollowed := true, recurses := true, plainKeys := false, apart := false, narrowed := true }
def FnExactRankOfStripUptoSaid : Prop := fnExactRankOfStripUptoRow.holds Try.pinned (OpenSpec.upto fnExactRankOfStripSpec)

/-- 'laws.FnExactDoesFit', WHERE WHAT IT READS IS OF BULK AT MOST 1048576: true; the input reads as it did. -/
def fnExactDoesFitUptoRow : OpenClaim := { program := "ytmjaefnmianfpaa", sum := "f8bdb8f82e424fa8a5358962b25ad371830928f314ab5fb40693cc6c26bf338d", func := "loop.example/g01296/laws.FnExactDoesFit", spec := "fnExactDoesFit", unfollowed := true, recurses := true, plainKeys := false, apart := false, narrowed := true }
def FnExactDoesFitUptoSaid : Prop := fnExactDoesFitUptoRow.holds Try.pinned (OpenSpec.upto fnExactDoesFitSpec)

/-- 'laws.FnExactMakePuzzle', WHERE WHAT IT READS IS OF BULK AT MOST 1048576: true; the input reads as it did. -/
def fnExactMakePuzzleUptoRow : OpenClaim := { program := "ytmjaefnmianfpaa", sum := "f8bdb8f82e424fa8a5358962b25ad371830928f314ab5fb40693cc6c26bf338d", func := "loop.example/g01296/laws.FnExactMakePuzzle", spec := "fnExactMakePuzzle", unfollowed := true, recurses := true, plainKeys := false, apart := false, narrowed := true }
def FnExactMakePuzzleUptoSaid : Prop := fnExactMakePuzzleUptoRow.holds Try.pinned (OpenSpec.upto fnExactMakePuzzleSpec)

end Rows
end Go.Proofs.Ytmjaefnmianfpaa

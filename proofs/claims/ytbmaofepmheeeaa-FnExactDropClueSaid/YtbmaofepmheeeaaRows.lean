/-
  No cell of these rows narrows 'for every input' (looked for: loops, veiled, ifaces, maps, wideKeys, modest, calm, conditions, laid).
  DERIVED. THE GIVEN ROWS OF THIS SEAT. 9 by the template 'for every input the law returns true; each argument reads behind the call as it read before'; 0 by the template 'total and deterministic' (their statements: YtbmaofepmheeeaaTotals.lean).
  GIVEN WITH THE SEED: the statements are not yours to turn. If you find one false, say at which input.
  Laid BY PROGRAM, IN A SANDBOX (cutbox-rows.mjs): the forced cells as the released guide's own fill.sh prints them over the translation 09652b0f8261ee7b… (all of the seat's roots in one cut). By AI agents, Wed Nov 11 2026. No macro, syntax, notation, axiom, sorry.
-/
import Derived.Test.YtbmaofepmheeeaaChecked
import GoSem.Claim
import GoSem.ClaimJoined
import GoSem.ClaimMapViews
import Derived.JoinedTies
import Derived.KernelRfl
namespace Go.Proofs.Ytbmaofepmheeeaa
/- THE CELL 'sum', in the pinned program and in every row, IS THE sha256 OF THE DUMP (.gsa) THAT YtbmaofepmheeeaaProg.lean LOADS. Nothing in Lean hashes anything: it is a label: what it is worth is what the hold of that sum in a sandbox is worth. -/
noncomputable def Try.pinned : Pinned := { name := "ytbmaofepmheeeaa", sum := "09652b0f8261ee7b05805ae75d23f8fe14d03fba5005b016a202d5b61e1dbb08", checked := Try.checked }
namespace Rows
def none {H : Type} : Left H := { results := [], args := [] }

/-- 'laws.FnExactStripsThrough': WHATEVER THE INPUT: true; the input reads as it did. -/
def fnExactStripsThroughSpec : ChangeSpec := { name := "fnExactStripsThrough", fn := fun _ => fun
  | [d1, d2, d3] => { results := [.lit (.bool true)], args := [d1, d2, d3] }
  | _ => none }
def fnExactStripsThroughRow : OpenClaim := { program := "ytbmaofepmheeeaa", sum := "09652b0f8261ee7b05805ae75d23f8fe14d03fba5005b016a202d5b61e1dbb08", func := "loop.example/g01296/laws.FnExactStripsThrough", spec := "fnExactStripsThrough", recurses := true, plainKeys := false, apart := false }
def FnExactStripsThroughSaid : Prop := fnExactStripsThroughRow.holds Try.pinned (OpenSpec.ofChange fnExactStripsThroughSpec)

/-- ITS FALSE NEIGHBOUR: 'it returns false'. Refute it at one input. -/
def fnExactStripsThroughWrong : ChangeSpec := { name := "fnExactStripsThrough", fn := fun _ => fun
  | [d1, d2, d3] => { results := [.lit (.bool false)], args := [d1, d2, d3] }
  | _ => none }
def FnExactStripsThroughWrongFalsely : Prop := fnExactStripsThroughRow.holds Try.pinned (OpenSpec.ofChange fnExactStripsThroughWrong)

/-- 'laws.FnExactFewestInStrip': WHATEVER THE INPUT: true; the input reads as it did. -/
def fnExactFewestInStripSpec : ChangeSpec := { name := "fnExactFewestInStrip", fn := fun _ => fun
  | [d1, d2] => { results := [.lit (.bool true)], args := [d1, d2] }
  | _ => none }
def fnExactFewestInStripRow : OpenClaim := { program := "ytbmaofepmheeeaa", sum := "09652b0f8261ee7b05805ae75d23f8fe14d03fba5005b016a202d5b61e1dbb08", func := "loop.example/g01296/laws.FnExactFewestInStrip", spec := "fnExactFewestInStrip", unfollowed := true, recurses := true, plainKeys := false, apart := false }
def FnExactFewestInStripSaid : Prop := fnExactFewestInStripRow.holds Try.pinned (OpenSpec.ofChange fnExactFewestInStripSpec)

/-- ITS FALSE NEIGHBOUR: 'it returns false'. Refute it at one input. -/
def fnExactFewestInStripWrong : ChangeSpec := { name := "fnExactFewestInStrip", fn := fun _ => fun
  | [d1, d2] => { results := [.lit (.bool false)], args := [d1, d2] }
  | _ => none }
def FnExactFewestInStripWrongFalsely : Prop := fnExactFewestInStripRow.holds Try.pinned (OpenSpec.ofChange fnExactFewestInStripWrong)

/-- 'laws.FnExactIsWholeStrip': WHATEVER THE INPUT: true; the input reads as it did. -/
def fnExactIsWholeStripSpec : ChangeSpec := { name := "fnExactIsWholeStrip", fn := fun _ => fun
  | [d] => { results := [.lit (.bool true)], args := [d] }
  | _ => none }
def fnExactIsWholeStripRow : OpenClaim := { program := "ytbmaofepmheeeaa", sum := "09652b0f8261ee7b05805ae75d23f8fe14d03fba5005b016a202d5b61e1dbb08", func := "loop.example/g01296/laws.FnExactIsWholeStrip", spec := "fnExactIsWholeStrip", unfollowed := true, recurses := true, plainKeys := false, apart := false }
def FnExactIsWholeStripSaid : Prop := fnExactIsWholeStripRow.holds Try.pinned (OpenSpec.ofChange fnExactIsWholeStripSpec)

/-- ITS FALSE NEIGHBOUR: 'it returns false'. Refute it at one input. -/
def fnExactIsWholeStripWrong : ChangeSpec := { name := "fnExactIsWholeStrip", fn := fun _ => fun
  | [d] => { results := [.lit (.bool false)], args := [d] }
  | _ => none }
def FnExactIsWholeStripWrongFalsely : Prop := fnExactIsWholeStripRow.holds Try.pinned (OpenSpec.ofChange fnExactIsWholeStripWrong)

/-- 'laws.FnExactMeanSquares': WHATEVER THE INPUT: true; the input reads as it did. -/
def fnExactMeanSquaresSpec : ChangeSpec := { name := "fnExactMeanSquares", fn := fun _ => fun
  | [d1, d2] => { results := [.lit (.bool true)], args := [d1, d2] }
  | _ => none }
def fnExactMeanSquaresRow : OpenClaim := { program := "ytbmaofepmheeeaa", sum := "09652b0f8261ee7b05805ae75d23f8fe14d03fba5005b016a202d5b61e1dbb08", func := "loop.example/g01296/laws.FnExactMeanSquares", spec := "fnExactMeanSquares", recurses := true, plainKeys := false, apart := false }
def FnExactMeanSquaresSaid : Prop := fnExactMeanSquaresRow.holds Try.pinned (OpenSpec.ofChange fnExactMeanSquaresSpec)

/-- ITS FALSE NEIGHBOUR: 'it returns false'. Refute it at one input. -/
def fnExactMeanSquaresWrong : ChangeSpec := { name := "fnExactMeanSquares", fn := fun _ => fun
  | [d1, d2] => { results := [.lit (.bool false)], args := [d1, d2] }
  | _ => none }
def FnExactMeanSquaresWrongFalsely : Prop := fnExactMeanSquaresRow.holds Try.pinned (OpenSpec.ofChange fnExactMeanSquaresWrong)

/-- 'laws.FnExactCountWholeStrips': WHATEVER THE INPUT: true; the input reads as it did. -/
def fnExactCountWholeStripsSpec : ChangeSpec := { name := "fnExactCountWholeStrips", fn := fun _ => fun
  | [d1, d2] => { results := [.lit (.bool true)], args := [d1, d2] }
  | _ => none }
def fnExactCountWholeStripsRow : OpenClaim := { program := "ytbmaofepmheeeaa", sum := "09652b0f8261ee7b05805ae75d23f8fe14d03fba5005b016a202d5b61e1dbb08", func := "loop.example/g01296/laws.FnExactCountWholeStrips", spec := "fnExactCountWholeStrips", recurses := true, plainKeys := false, apart := false }
def FnExactCountWholeStripsSaid : Prop := fnExactCountWholeStripsRow.holds Try.pinned (OpenSpec.ofChange fnExactCountWholeStripsSpec)

/-- ITS FALSE NEIGHBOUR: 'it returns false'. Refute it at one input. -/
def fnExactCountWholeStripsWrong : ChangeSpec := { name := "fnExactCountWholeStrips", fn := fun _ => fun
  | [d1, d2] => { results := [.lit (.bool false)], args := [d1, d2] }
  | _ => none }
def FnExactCountWholeStripsWrongFalsely : Prop := fnExactCountWholeStripsRow.holds Try.pinned (OpenSpec.ofChange fnExactCountWholeStripsWrong)

/-- 'laws.FnExactStripsBySquares': WHATEVER THE INPUT: true; the input reads as it did. -/
def fnExactStripsBySquaresSpec : ChangeSpec := { name := "fnExactStripsBySquares", fn := fun _ => fun
  | [d1, d2] => { results := [.lit (.bool true)], args := [d1, d2] }
  | _ => none }
def fnExactStripsBySquaresRow : OpenClaim := { program := "ytbmaofepmheeeaa", sum := "09652b0f8261ee7b05805ae75d23f8fe14d03fba5005b016a202d5b61e1dbb08", func := "loop.example/g01296/laws.FnExactStripsBySquares", spec := "fnExactStripsBySquares", recurses := true, plainKeys := false, apart := false }
def FnExactStripsBySquaresSaid : Prop := fnExactStripsBySquaresRow.holds Try.pinned (OpenSpec.ofChange fnExactStripsBySquaresSpec)

/-- ITS FALSE NEIGHBOUR: 'it returns false'. Refute it at one input. -/
def fnExactStripsBySquaresWrong : ChangeSpec := { name := "fnExactStripsBySquares", fn := fun _ => fun
  | [d1, d2] => { results := [.lit (.bool false)], args := [d1, d2] }
  | _ => none }
def FnExactStripsBySquaresWrongFalsely : Prop := fnExactStripsBySquaresRow.holds Try.pinned (OpenSpec.ofChange fnExactStripsBySquaresWrong)

/-- 'laws.FnExactSquaresOfSide': WHATEVER THE INPUT: true; the input reads as it did. -/
def fnExactSquaresOfSideSpec : ChangeSpec := { name := "fnExactSquaresOfSide", fn := fun _ => fun
  | [d1, d2, d3] => { results := [.lit (.bool true)], args := [d1, d2, d3] }
  | _ => none }
def fnExactSquaresOfSideRow : OpenClaim := { program := "ytbmaofepmheeeaa", sum := "09652b0f8261ee7b05805ae75d23f8fe14d03fba5005b016a202d5b61e1dbb08", func := "loop.example/g01296/laws.FnExactSquaresOfSide", spec := "fnExactSquaresOfSide", recurses := true, plainKeys := false, apart := false }
def FnExactSquaresOfSideSaid : Prop := fnExactSquaresOfSideRow.holds Try.pinned (OpenSpec.ofChange fnExactSquaresOfSideSpec)

/-- ITS FALSE NEIGHBOUR: 'it returns false'. Refute it at one input. -/
def fnExactSquaresOfSideWrong : ChangeSpec := { name := "fnExactSquaresOfSide", fn := fun _ => fun
  | [d1, d2, d3] => { results := [.lit (.bool false)], args := [d1, d2, d3] }
  | _ => none }
def FnExactSquaresOfSideWrongFalsely : Prop := fnExactSquaresOfSideRow.holds Try.pinned (OpenSpec.ofChange fnExactSquaresOfSideWrong)

/-- 'laws.FnExactAddClue': WHATEVER THE INPUT: true; the input reads as it did. -/
def fnExactAddClueSpec : ChangeSpec := { name := "fnExactAddClue", fn := fun _ => fun
  | [d1, d2] => { results := [.lit (.bool true)], args := [d1, d2] }
  | _ => none }
def fnExactAddClueRow : OpenClaim := { program := "ytbmaofepmheeeaa", sum := "09652b0f8261ee7b05805ae75d23f8fe14d03fba5005b016a202d5b61e1dbb08", func := "loop.example/g01296/laws.FnExactAddClue", spec := "fnExactAddClue", unfollowed := true, recurses := true, plainKeys := false, apart := false }
def FnExactAddClueSaid : Prop := fnExactAddClueRow.holds Try.pinned (OpenSpec.ofChange fnExactAddClueSpec)

/-- ITS FALSE NEIGHBOUR: 'it returns false'. Refute it at one input. -/
def fnExactAddClueWrong : ChangeSpec := { name := "fnExactAddClue", fn := fun _ => fun
  | [d1, d2] => { results := [.lit (.bool false)], args := [d1, d2] }
  | _ => none }
def FnExactAddClueWrongFalsely : Prop := fnExactAddClueRow.holds Try.pinned (OpenSpec.ofChange fnExactAddClueWrong)

/-- 'laws.FnExactDropClue': WHATEVER THE INPUT: true; the input reads as it did. -/
def fnExactDropClueSpec : ChangeSpec := { name := "fnExactDropClue", fn := fun _ => fun
  | [d1, d2] => { results := [.lit (.bool true)], args := [d1, d2] }
  | _ => none }
def fnExactDropClueRow : OpenClaim := { program := "ytbmaofepmheeeaa", sum := "09652b0f8261ee7b05805ae75d23f8fe14d03fba5005b016a202d5b61e1dbb08", func := "loop.example/g01296/laws.FnExactDropClue", spec := "fnExactDropClue", unfollowed := true, recurses := true, plainKeys := false, apart := false }
def FnExactDropClueSaid : Prop := fnExactDropClueRow.holds Try.pinned (OpenSpec.ofChange fnExactDropClueSpec)

/-- ITS FALSE NEIGHBOUR: 'it returns false'. Refute it at one input. -/
def fnExactDropClueWrong : ChangeSpec := { name := "fnExactDropClue", fn := fun _ => fun
  | [d1, d2] => { results := [.lit (.bool false)], args := [d1, d2] }
  | _ => none }
def FnExactDropClueWrongFalsely : Prop := fnExactDropClueRow.holds Try.pinned (OpenSpec.ofChange fnExactDropClueWrong)

/- THE SECOND FORM. 'bulk': how many values and letters a reading holds, each counted each time it is reached (what is shared counts as often as it is met; a slice's spare places count too). A statement '..UptoSaid' is the law's where the arguments, and the package variables that the reading takes, are together of bulk at most 1048576: NARROWER than '..Said'. Prove '..Said' where nothing that the law and all that it calls make is longer than what came in: it says more and counts as full. Else prove '..UptoSaid'. A law counts once. -/
mutual
def uptoBulk {H : Type} : DataW H → Nat
  | .lit (.string bytes) => bytes.length + 1
  | .lit _ => 1
  | .nil => 1
  | .ptr d => uptoBulk d + 1
  | .slice elems spare => uptoBulkAll elems + uptoBulkAll spare + 1
  | .agg parts => uptoBulkAll parts + 1
  | .iface _ d => uptoBulk d + 1
  | .map entries => uptoBulkEntries entries + 1
  | .held _ => 1
def uptoBulkAll {H : Type} : List (DataW H) → Nat
  | [] => 0
  | d :: r => uptoBulk d + uptoBulkAll r
def uptoBulkEntries {H : Type} : List (Lit × DataW H) → Nat
  | [] => 0
  | x :: r => uptoBulkEntry x + uptoBulkEntries r
def uptoBulkEntry {H : Type} : Lit × DataW H → Nat
  | (.string bytes, d) => bytes.length + uptoBulk d + 1
  | (_, d) => uptoBulk d + 1
 end
def uptoSmall : (H : Type) → List (DataW H) → Bool := fun _ ds => decide (uptoBulkAll ds ≤ 1048576)
def OpenSpec.upto (s : _root_.Go.ChangeSpec) : _root_.Go.OpenSpec := { _root_.Go.OpenSpec.ofChange s with cond := some uptoSmall }

/-- 'laws.FnExactStripsThrough', WHERE WHAT IT READS IS OF BULK AT MOST 1048576: true; the input reads as it did. -/
def fnExactStripsThroughUptoRow : OpenClaim := { program := "ytbmaofepmheeeaa", sum := "09652b0f8261ee7b05805ae75d23f8fe14d03fba5005b016a202d5b61e1dbb08", func := "loop.example/g01296/laws.FnExactStripsThrough", spec := "fnExactStripsThrough", recurses := true, plainKeys := false, apart := false, narrowed := true }
def FnExactStripsThroughUptoSaid : Prop := fnExactStripsThroughUptoRow.holds Try.pinned (OpenSpec.upto fnExactStripsThroughSpec)

/-- 'laws.FnExactFewestInStrip', WHERE WHAT IT READS IS OF BULK AT MOST 1048576: true; the input reads as it did. -/
def fnExactFewestInStripUptoRow : OpenClaim := { program := "ytbmaofepmheeeaa", sum := "09652b0f8261ee7b05805ae75d23f8fe14d03fba5005b016a202d5b61e1dbb08", func := "loop.example/g01296/laws.FnExactFewestInStrip", spec := "fnExactFewestInStrip", unfollowed := true, recurses := true, plainKeys := false, apart := false, narrowed := true }
def FnExactFewestInStripUptoSaid : Prop := fnExactFewestInStripUptoRow.holds Try.pinned (OpenSpec.upto fnExactFewestInStripSpec)

/-- 'laws.FnExactIsWholeStrip', WHERE WHAT IT READS IS OF BULK AT MOST 1048576: true; the input reads as it did. -/
def fnExactIsWholeStripUptoRow : OpenClaim := { program := "ytbmaofepmheeeaa", sum := "09652b0f8261ee7b05805ae75d23f8fe14d03fba5005b016a202d5b61e1dbb08", func := "loop.example/g01296/laws.FnExactIsWholeStrip", spec := "fnExactIsWholeStrip", unfollowed := true, recurses := true, plainKeys := false, apart := false, narrowed := true }
def FnExactIsWholeStripUptoSaid : Prop := fnExactIsWholeStripUptoRow.holds Try.pinned (OpenSpec.upto fnExactIsWholeStripSpec)

/-- 'laws.FnExactMeanSquares', WHERE WHAT IT READS IS OF BULK AT MOST 1048576: true; the input reads as it did. -/
def fnExactMeanSquaresUptoRow : OpenClaim := { program := "ytbmaofepmheeeaa", sum := "09652b0f8261ee7b05805ae75d23f8fe14d03fba5005b016a202d5b61e1dbb08", func := "loop.example/g01296/laws.FnExactMeanSquares", spec := "fnExactMeanSquares", recurses := true, plainKeys := false, apart := false, narrowed := true }
def FnExactMeanSquaresUptoSaid : Prop := fnExactMeanSquaresUptoRow.holds Try.pinned (OpenSpec.upto fnExactMeanSquaresSpec)

/-- 'laws.FnExactCountWholeStrips', WHERE WHAT IT READS IS OF BULK AT MOST 1048576: true; the input reads as it did. -/
def fnExactCountWholeStripsUptoRow : OpenClaim := { program := "ytbmaofepmheeeaa", sum := "09652b0f8261ee7b05805ae75d23f8fe14d03fba5005b016a202d5b61e1dbb08", func := "loop.example/g01296/laws.FnExactCountWholeStrips", spec := "fnExactCountWholeStrips", recurses := true, plainKeys := false, apart := false, narrowed := true }
def FnExactCountWholeStripsUptoSaid : Prop := fnExactCountWholeStripsUptoRow.holds Try.pinned (OpenSpec.upto fnExactCountWholeStripsSpec)

/-- 'laws.FnExactStripsBySquares', WHERE WHAT IT READS IS OF BULK AT MOST 1048576: true; the input reads as it did. -/
def fnExactStripsBySquaresUptoRow : OpenClaim := { program := "ytbmaofepmheeeaa", sum := "09652b0f8261ee7b05805ae75d23f8fe14d03fba5005b016a202d5b61e1dbb08", func := "loop.example/g01296/laws.FnExactStripsBySquares", spec := "fnExactStripsBySquares", recurses := true, plainKeys := false, apart := false, narrowed := true }
def FnExactStripsBySquaresUptoSaid : Prop := fnExactStripsBySquaresUptoRow.holds Try.pinned (OpenSpec.upto fnExactStripsBySquaresSpec)

/-- 'laws.FnExactSquaresOfSide', WHERE WHAT IT READS IS OF BULK AT MOST 1048576: true; the input reads as it did. -/
def fnExactSquaresOfSideUptoRow : OpenClaim := { program := "ytbmaofepmheeeaa", sum := "09652b0f8261ee7b05805ae75d23f8fe14d03fba5005b016a202d5b61e1dbb08", func := "loop.example/g01296/laws.FnExactSquaresOfSide", spec := "fnExactSquaresOfSide", recurses := true, plainKeys := false, apart := false, narrowed := true }
def FnExactSquaresOfSideUptoSaid : Prop := fnExactSquaresOfSideUptoRow.holds Try.pinned (OpenSpec.upto fnExactSquaresOfSideSpec)

/-- 'laws.FnExactAddClue', WHERE WHAT IT READS IS OF BULK AT MOST 1048576: true; the input reads as it did. -/
def fnExactAddClueUptoRow : OpenClaim := { program := "ytbmaofepmheeeaa", sum := "09652b0f8261ee7b05805ae75d23f8fe14d03fba5005b016a202d5b61e1dbb08", func := "loop.example/g01296/laws.FnExactAddClue", spec := "fnExactAddClue", unfollowed := true, recurses := true, plainKeys := false, apart := false, narrowed := true }
def FnExactAddClueUptoSaid : Prop := fnExactAddClueUptoRow.holds Try.pinned (OpenSpec.upto fnExactAddClueSpec)

/-- 'laws.FnExactDropClue', WHERE WHAT IT READS IS OF BULK AT MOST 1048576: true; the input reads as it did. -/
def fnExactDropClueUptoRow : OpenClaim := { program := "ytbmaofepmheeeaa", sum := "09652b0f8261ee7b05805ae75d23f8fe14d03fba5005b016a202d5b61e1dbb08", func := "loop.example/g01296/laws.FnExactDropClue", spec := "fnExactDropClue", unfollowed := true, recurses := true, plainKeys := false, apart := false, narrowed := true }
def FnExactDropClueUptoSaid : Prop := fnExactDropClueUptoRow.holds Try.pinned (OpenSpec.upto fnExactDropClueSpec)

end Rows
end Go.Proofs.Ytbmaofepmheeeaa

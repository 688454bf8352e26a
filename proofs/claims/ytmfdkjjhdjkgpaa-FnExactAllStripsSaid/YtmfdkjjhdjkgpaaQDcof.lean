/- Filling by a list of sides: spec.CutOfFill. -/
import Derived.Test.YtmfdkjjhdjkgpaaQCcof
import Derived.Test.YtmfdkjjhdjkgpaaQMst
namespace Go.Proofs.Ytmfdkjjhdjkgpaa
open Go Go.RowKit
set_option maxRecDepth 10000
set_option maxHeartbeats 2000000
set_option linter.unusedSimpArgs false

theorem pair_if (C z : (Int × Int × List S3) × Bool) : (if C.2 = true ∧ C.1.1 ≤ 30 then C else z) = if (C.2 && decide (C.1.1 ≤ 30)) = true then (C.1, C.2 && decide (C.1.1 ≤ 30)) else z := by
  obtain ⟨⟨a, b, c⟩, d⟩ := C
  cases d <;> by_cases h : a ≤ 30 <;> simp [h]

theorem cofL_stF {h : Nat} {S : List Int} : cofL h S = if (stF h S).2 = true then stF h S else ((0, 0, []), false) := by
  unfold cofL stF
  cases stA h S S.length with
  | none => rfl
  | some p => exact pair_if _ _

end Go.Proofs.Ytmfdkjjhdjkgpaa

/- Rows of three numbers that a law has marked: they are found as marked. -/
import Derived.Test.YtbmaofepmheeeaaMark
namespace Go.Proofs.Ytbmaofepmheeeaa
open Go Go.RowKit
set_option maxRecDepth 10000
set_option linter.unusedSimpArgs false

theorem mk3_get {k : Int} {n j : Nat} {x : List DC} (h : ((mk3 k n).map r3)[j]? = some x) : x = [dI (k + 3 * (j : Int)), dI (k + 3 * (j : Int) + 1), dI (k + 3 * (j : Int) + 2)] := by
  simp only [mk3, List.getElem?_map, Option.map_eq_some_iff] at h
  obtain ⟨y, ⟨z, h1, rfl⟩, rfl⟩ := h
  obtain ⟨hj, h1⟩ := List.getElem?_eq_some_iff.1 h1
  simp at h1
  subst h1
  rfl

end Go.Proofs.Ytbmaofepmheeeaa

/- Rows of three numbers of one's own that a law marks, and looks at again. -/
import Derived.Test.YtbmaofepmheeeaaKs
import Derived.Test.YtbmaofepmheeeaaT
namespace Go.Proofs.Ytbmaofepmheeeaa
open Go Go.RowKit
set_option maxRecDepth 10000
set_option linter.unusedSimpArgs false

theorem mk3_succ (k : Int) (i : Nat) : mk3 k (i + 1) = mk3 k i ++ [(k + 3 * (i : Int), k + 3 * (i : Int) + 1, k + 3 * (i : Int) + 2)] := by
  simp [mk3, List.range_succ]

theorem mk3_len (k : Int) (n : Nat) : (mk3 k n).length = n := by simp [mk3]

theorem mark_set {k : Int} {i : Nat} {xs : List (Int × Int × Int)} {y : Int × Int × Int} (hi : i < xs.length) : ((mk3 k i ++ xs.drop i).map r3).set i (r3 y) = ((mk3 k i ++ [y]) ++ xs.drop (i + 1)).map r3 := by
  rw [← List.map_set, List.set_append_right _ _ (by rw [mk3_len]; omega), mk3_len, Nat.sub_self, List.drop_eq_getElem_cons hi, List.set_cons_zero]
  simp

end Go.Proofs.Ytbmaofepmheeeaa

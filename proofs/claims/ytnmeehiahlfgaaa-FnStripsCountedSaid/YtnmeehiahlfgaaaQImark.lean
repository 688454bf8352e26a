/- Rows of numbers that a law compares, marks and holds. -/
import Derived.Test.YtnmeehiahlfgaaaQZi
import Derived.Test.YtnmeehiahlfgaaaQZf
namespace Go.Proofs.Ytnmeehiahlfgaaa
open Go Go.RowKit
set_option maxRecDepth 10000
set_option linter.unusedSimpArgs false

/-- Numbers that a law has laid. -/
def mkI (k : Int) (n : Nat) : List Int := (List.range n).map fun i : Nat => k + (i : Int)

theorem mkI_len (k : Int) (n : Nat) : (mkI k n).length = n := by simp [mkI]

theorem mkI_get {k : Int} {n j : Nat} (h : j < n) : (mkI k n)[j]? = some (k + (j : Int)) := by
  simp [mkI, List.getElem?_range h]

/-- A row that is being marked. -/
theorem mkI_set {k : Int} {l : List Int} {i : Nat} (h : i < l.length) : ((mkI k i ++ l.drop i).map r1).set i [dI (k + (i : Int))] = (mkI k (i + 1) ++ l.drop (i + 1)).map r1 := by
  rw [show [dI (k + (i : Int))] = r1 (k + (i : Int)) from rfl, ← List.map_set, List.set_append_right _ _ (by simp [mkI_len]), mkI_len, Nat.sub_self, List.drop_eq_getElem_cons h, List.set_cons_zero]
  simp [mkI, List.range_succ]

end Go.Proofs.Ytnmeehiahlfgaaa

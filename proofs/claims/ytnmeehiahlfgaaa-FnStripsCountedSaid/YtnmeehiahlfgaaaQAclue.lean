/- Clues of puzzles: the reference's and the program's test of them come to one plain function. -/
import Derived.Test.YtnmeehiahlfgaaaQZd
import Derived.Test.YtnmeehiahlfgaaaQT
namespace Go.Proofs.Ytnmeehiahlfgaaa
open Go Go.RowKit
set_option maxRecDepth 10000
set_option linter.unusedSimpArgs false

def inB (n lo hi : Int) : Bool := decide (lo ≤ n ∧ n ≤ hi)

theorem l1In_ok (n lo hi : Int) : Fn G.P 46 [aI n, aI lo, aI hi] (.one (aB (inB n lo hi))) := by
  refine fn_of_body (G := G) Try.func46 rfl (by decide) (Nat.le_of_ble_eq_true rfl) ?_
  conv => whnf
  repeat' first
    | exact True.intro
    | (refine draw_mkF ?_ ?_ ?_; (focus (decide +kernel)); (focus (kernel_rfl)); conv => whnf)
    | (refine Both.mk ?_ ?_ <;> conv => whnf)
    | (refine NilQ.mk (fun hnil => ?_) ?_ <;> conv => whnf)
    | (refine draw_mk (by kernel_rfl) ?_; conv => whnf)
    | (refine Br.mk (fun hb => ?_) (fun hb => ?_) <;> conv => whnf)
    | (refine And.intro ?_ ?_; (focus (first | decide | omega | (simp at *; omega) | (simp_all; done))); conv => whnf)
  all_goals first | (simp_all [resOK_iff, resVs, resCell, resCells, refVs, refCV, refCs, inB]; done) | (simp_all [resOK_iff, resVs, resCell, resCells, refVs, refCV, refCs, inB]; omega)

theorem within_ok (n lo hi : Int) : Fn G.P 49 [aI n, aI lo, aI hi] (.one (aB (inB n lo hi))) := by
  refine fn_of_body (G := G) Try.func49 rfl (by decide) (Nat.le_of_ble_eq_true rfl) ?_
  conv => whnf
  repeat' first
    | exact True.intro
    | (refine draw_mkF ?_ ?_ ?_; (focus (decide +kernel)); (focus (kernel_rfl)); conv => whnf)
    | (refine Both.mk ?_ ?_ <;> conv => whnf)
    | (refine NilQ.mk (fun hnil => ?_) ?_ <;> conv => whnf)
    | (refine draw_mk (by kernel_rfl) ?_; conv => whnf)
    | (refine Br.mk (fun hb => ?_) (fun hb => ?_) <;> conv => whnf)
    | (refine And.intro ?_ ?_; (focus (first | decide | omega | (simp at *; omega) | (simp_all; done))); conv => whnf)
  all_goals first | (simp_all [resOK_iff, resVs, resCell, resCells, refVs, refCV, refCs, inB]; done) | (simp_all [resOK_iff, resVs, resCell, resCells, refVs, refCV, refCs, inB]; omega)

/-- Width and height of cuts that are counted. -/
def countedB (w h : Int) : Bool := inB w 1 6 && inB h 1 6

theorem mul_box {w h : Int} (hw : countedB w h = true) : 1 ≤ w * h ∧ w * h ≤ 36 := by
  simp only [countedB, inB, Bool.and_eq_true, decide_eq_true_eq] at hw
  have h1 : 1 * 1 ≤ w * h := Int.mul_le_mul (by omega) (by omega) (by omega) (by omega)
  have h2 : w * h ≤ 6 * 6 := Int.mul_le_mul (by omega) (by omega) (by omega) (by omega)
  omega

theorem wrap_box {w h : Int} (hw : countedB w h = true) : IntKind.i64.wrap (w * h) = w * h := by
  have := mul_box hw
  exact wrap_i64 _ (by omega) (by omega)

theorem wrap_box1 {w h : Int} (hw : countedB w h = true) : IntKind.i64.wrap (w * h - 1) = w * h - 1 := by
  have := mul_box hw
  exact wrap_i64 _ (by omega) (by omega)

/-- Width and height of hidden cuts. -/
def hiddenB (w h : Int) : Bool := countedB w h && decide (w * h ≤ 12)

/-- A clue, its size being right. -/
def clueB (w h k a b : Int) : Bool :=
  if k = 0 then inB a 1 12 && b == 0
  else if k = 1 then inB a 1 6 && inB b 0 12
  else if k = 2 then inB a 0 (w * h - 1) && inB b 1 6
  else if k = 3 then inB a 0 3 && inB b 0 12
  else if k = 4 then inB a 0 12 && b == 0
  else if k = 5 then inB a 0 6 && b == 0
  else false

abbrev dClue (k a b : Int) : List DC := [dI k, dI a, dI b]

theorem counted_of_hidden {w h : Int} (hw : hiddenB w h = true) : countedB w h = true := by
  simp only [hiddenB, Bool.and_eq_true] at hw; exact hw.1

/-- A clue of hidden cuts of a size. -/
def isClueB (w h k a b : Int) : Bool := hiddenB w h && clueB w h k a b

end Go.Proofs.Ytnmeehiahlfgaaa

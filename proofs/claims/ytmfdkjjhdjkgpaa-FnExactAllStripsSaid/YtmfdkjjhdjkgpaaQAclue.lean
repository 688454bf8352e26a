/- Clues of puzzles: the reference's and the program's test of them come to one plain function. -/
import Derived.Test.YtmfdkjjhdjkgpaaQZd
import Derived.Test.YtmfdkjjhdjkgpaaQT
namespace Go.Proofs.Ytmfdkjjhdjkgpaa
open Go Go.RowKit
set_option maxRecDepth 10000
set_option linter.unusedSimpArgs false

def inB (n lo hi : Int) : Bool := decide (lo ≤ n ∧ n ≤ hi)

theorem l1In_ok (n lo hi : Int) : Fn G.P 59 [aI n, aI lo, aI hi] (.one (aB (inB n lo hi))) := by
  refine fn_of_body (G := G) Try.func59 rfl (by decide) (Nat.le_of_ble_eq_true rfl) ?_
  conv => whnf
  repeat' first
    | exact True.intro
    | (refine draw_mkF ?_ ?_ ?_; (focus (decide +kernel)); (focus (kernel_rfl)); conv => whnf)
    | (refine Both.mk ?_ ?_ <;> conv => whnf)
    | (refine OwnQ.own ?_; conv => whnf)
    | (refine NilQ.mk (fun hnil => ?_) ?_ <;> conv => whnf)
    | (refine draw_mk (by kernel_rfl) ?_; conv => whnf)
    | (refine Br.mk (fun hb => ?_) (fun hb => ?_) <;> conv => whnf)
    | (refine And.intro ?_ ?_; (focus (first | decide | omega | (simp at *; omega) | (simp_all; done))); conv => whnf)
  all_goals first | (simp_all [resOK_iff, resVs, resCell, resCells, refVs, refCV, refCs, inB]; done) | (simp_all [resOK_iff, resVs, resCell, resCells, refVs, refCV, refCs, inB]; omega)

theorem within_ok (n lo hi : Int) : Fn G.P 63 [aI n, aI lo, aI hi] (.one (aB (inB n lo hi))) := by
  refine fn_of_body (G := G) Try.func63 rfl (by decide) (Nat.le_of_ble_eq_true rfl) ?_
  conv => whnf
  repeat' first
    | exact True.intro
    | (refine draw_mkF ?_ ?_ ?_; (focus (decide +kernel)); (focus (kernel_rfl)); conv => whnf)
    | (refine Both.mk ?_ ?_ <;> conv => whnf)
    | (refine OwnQ.own ?_; conv => whnf)
    | (refine NilQ.mk (fun hnil => ?_) ?_ <;> conv => whnf)
    | (refine draw_mk (by kernel_rfl) ?_; conv => whnf)
    | (refine Br.mk (fun hb => ?_) (fun hb => ?_) <;> conv => whnf)
    | (refine And.intro ?_ ?_; (focus (first | decide | omega | (simp at *; omega) | (simp_all; done))); conv => whnf)
  all_goals first | (simp_all [resOK_iff, resVs, resCell, resCells, refVs, refCV, refCs, inB]; done) | (simp_all [resOK_iff, resVs, resCell, resCells, refVs, refCV, refCs, inB]; omega)

end Go.Proofs.Ytmfdkjjhdjkgpaa

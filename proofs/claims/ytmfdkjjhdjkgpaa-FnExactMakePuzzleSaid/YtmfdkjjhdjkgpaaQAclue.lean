/- Clues of puzzles: the reference's and the program's test of them come to one plain function. -/
import Derived.Test.YtmfdkjjhdjkgpaaQZd
import Derived.Test.YtmfdkjjhdjkgpaaQT
namespace Go.Proofs.Ytmfdkjjhdjkgpaa
open Go Go.RowKit
set_option maxRecDepth 10000
set_option linter.unusedSimpArgs false

def inB (n lo hi : Int) : Bool := decide (lo ≤ n ∧ n ≤ hi)

theorem l1In_ok (n lo hi : Int) : Fn G.P 59 [aI n, aI lo, aI hi] (.one (aB (inB n lo hi))) := by
  refine fn_of_body (G := G) Try.func59 rfl (by decide) (Nat.le_of_ble_eq_true rfl) ?_
  conv => whnf
  repeat' first
    | exact True.intro
    | (refine draw_mkF ?_ ?_ ?_; (focus (decide +kernel)); (focus (kernel_rfl)); conv => whnf)
    | (refine Both.mk ?_ ?_ <;> conv => whnf)
    | (refine OwnQ.own ?_; conv => whnf)
    | (refine NilQ.mk (fun hnil => ?_) ?_ <;> conv => whnf)
    | (refine draw_mk (by kernel_rfl) ?_; conv => whnf)
    | (refine Br.mk (fun hb => ?_) (fun hb => ?_) <;> conv => whnf)
    | (refine And.intro ?_ ?_; (focus (first | decide | omega | (simp at *; omega) | (simp_all; done))); conv => whnf)
  all_goals first | (simp_all [resOK_iff, resVs, resCell, resCells, refVs, refCV, refCs, inB]; done) | (simp_all [resOK_iff, resVs, resCell, resCells, refVs, refCV, refCs, inB]; omega)

theorem within_ok (n lo hi : Int) : Fn G.P 63 [aI n, aI lo, aI hi] (.one (aB (inB n lo hi))) := by
  refine fn_of_body (G := G) Try.func63 rfl (by decide) (Nat.le_of_ble_eq_true rfl) ?_
  conv => whnf
  repeat' first
    | exact True.intro
    | (refine draw_mkF ?_ ?_ ?_; (focus (decide +kernel)); (focus (kernel_rfl)); conv => whnf)
    | (refine Both.mk ?_ ?_ <;> conv => whnf)
    | (refine OwnQ.own ?_; conv => whnf)
    | (refine NilQ.mk (fun hnil => ?_) ?_ <;> conv => whnf)
    | (refine draw_mk (by kernel_rfl) ?_; conv => whnf)
    | (refine Br.mk (fun hb => ?_) (fun hb => ?_) <;> conv => whnf)
    | (refine And.intro ?_ ?_; (focus (first | decide | omega | (simp at *; omega) | (simp_all; done))); conv => whnf)
  all_goals first | (simp_all [resOK_iff, resVs, resCell, resCells, refVs, refCV, refCs, inB]; done) | (simp_all [resOK_iff, resVs, resCell, resCells, refVs, refCV, refCs, inB]; omega)

/-- Width and height of cuts that are counted. -/
def countedB (w h : Int) : Bool := inB w 1 6 && inB h 1 6

theorem ctSize_ok (w h : Int) : Fn G.P 130 [aI w, aI h] (.one (aB (countedB w h))) := by
  refine fn_of_body (G := G) Try.func130 rfl (by decide) (Nat.le_of_ble_eq_true rfl) ?_
  conv => whnf
  repeat' first
    | exact True.intro
    | (refine draw_mkF ?_ ?_ ?_; (focus (decide +kernel)); (focus (kernel_rfl)); conv => whnf)
    | (refine Both.mk ?_ ?_ <;> conv => whnf)
    | (refine OwnQ.own ?_; conv => whnf)
    | (refine NilQ.mk (fun hnil => ?_) ?_ <;> conv => whnf)
    | (refine draw_mk (by kernel_rfl) ?_; conv => whnf)
    | (refine Br.mk (fun hb => ?_) (fun hb => ?_) <;> conv => whnf)
    | (refine call_sn ?_ (l1In_ok ?_ ?_ ?_) ?_; (focus ((repeat' first | exact snapRow | exact snap_row (by simp; done) | exact rfl | exact trivial | apply And.intro | omega | (simp; done)); done)); conv => whnf)
    | (refine callP_sn ?_ (l1In_ok ?_ ?_ ?_) ?_; (focus ((repeat' first | exact snapRow | exact snap_row (by simp; done) | exact rfl | exact trivial | apply And.intro | omega | (simp; done)); done)); conv => whnf)
    | (refine And.intro ?_ ?_; (focus (first | decide | omega | (simp at *; omega) | (simp_all; done))); conv => whnf)
  all_goals first | (simp_all [resOK_iff, resVs, resCell, resCells, refVs, refCV, refCs, countedB]; done) | (simp_all [resOK_iff, resVs, resCell, resCells, refVs, refCV, refCs, countedB]; omega)

theorem isCounted_ok (w h : Int) : Fn G.P 136 [aI w, aI h] (.one (aB (countedB w h))) := by
  refine fn_of_body (G := G) Try.func136 rfl (by decide) (Nat.le_of_ble_eq_true rfl) ?_
  conv => whnf
  repeat' first
    | exact True.intro
    | (refine draw_mkF ?_ ?_ ?_; (focus (decide +kernel)); (focus (kernel_rfl)); conv => whnf)
    | (refine Both.mk ?_ ?_ <;> conv => whnf)
    | (refine OwnQ.own ?_; conv => whnf)
    | (refine NilQ.mk (fun hnil => ?_) ?_ <;> conv => whnf)
    | (refine draw_mk (by kernel_rfl) ?_; conv => whnf)
    | (refine Br.mk (fun hb => ?_) (fun hb => ?_) <;> conv => whnf)
    | (refine call_sn ?_ (within_ok ?_ ?_ ?_) ?_; (focus ((repeat' first | exact snapRow | exact snap_row (by simp; done) | exact rfl | exact trivial | apply And.intro | omega | (simp; done)); done)); conv => whnf)
    | (refine callP_sn ?_ (within_ok ?_ ?_ ?_) ?_; (focus ((repeat' first | exact snapRow | exact snap_row (by simp; done) | exact rfl | exact trivial | apply And.intro | omega | (simp; done)); done)); conv => whnf)
    | (refine And.intro ?_ ?_; (focus (first | decide | omega | (simp at *; omega) | (simp_all; done))); conv => whnf)
  all_goals first | (simp_all [resOK_iff, resVs, resCell, resCells, refVs, refCV, refCs, countedB]; done) | (simp_all [resOK_iff, resVs, resCell, resCells, refVs, refCV, refCs, countedB]; omega)

theorem mul_box {w h : Int} (hw : countedB w h = true) : 1 ≤ w * h ∧ w * h ≤ 36 := by
  simp only [countedB, inB, Bool.and_eq_true, decide_eq_true_eq] at hw
  have h1 : 1 * 1 ≤ w * h := Int.mul_le_mul (by omega) (by omega) (by omega) (by omega)
  have h2 : w * h ≤ 6 * 6 := Int.mul_le_mul (by omega) (by omega) (by omega) (by omega)
  omega

theorem wrap_box {w h : Int} (hw : countedB w h = true) : IntKind.i64.wrap (w * h) = w * h := by
  have := mul_box hw
  exact wrap_i64 _ (by omega) (by omega)

/-- Width and height of hidden cuts. -/
def hiddenB (w h : Int) : Bool := countedB w h && decide (w * h ≤ 12)

theorem pzSize_ok (w h : Int) : Fn G.P 98 [aI w, aI h] (.one (aB (hiddenB w h))) := by
  refine fn_of_body (G := G) Try.func98 rfl (by decide) (Nat.le_of_ble_eq_true rfl) ?_
  conv => whnf
  repeat' first
    | exact True.intro
    | (refine draw_mkF ?_ ?_ ?_; (focus (decide +kernel)); (focus (kernel_rfl)); conv => whnf)
    | (refine Both.mk ?_ ?_ <;> conv => whnf)
    | (refine OwnQ.own ?_; conv => whnf)
    | (refine NilQ.mk (fun hnil => ?_) ?_ <;> conv => whnf)
    | (refine draw_mk (by kernel_rfl) ?_; conv => whnf)
    | (refine Br.mk (fun hb => ?_) (fun hb => ?_) <;> conv => whnf)
    | (refine call_sn ?_ (ctSize_ok ?_ ?_) ?_; (focus ((repeat' first | exact snapRow | exact snap_row (by simp; done) | exact rfl | exact trivial | apply And.intro | omega | (simp; done)); done)); conv => whnf)
    | (refine callP_sn ?_ (ctSize_ok ?_ ?_) ?_; (focus ((repeat' first | exact snapRow | exact snap_row (by simp; done) | exact rfl | exact trivial | apply And.intro | omega | (simp; done)); done)); conv => whnf)
    | (refine And.intro ?_ ?_; (focus (first | decide | omega | (simp at *; omega) | (simp_all; done))); conv => whnf)
  all_goals first | (simp_all [resOK_iff, resVs, resCell, resCells, refVs, refCV, refCs, hiddenB, wrap_box]; done) | (simp_all [resOK_iff, resVs, resCell, resCells, refVs, refCV, refCs, hiddenB, wrap_box]; omega)

theorem isHidden_ok (w h : Int) : Fn G.P 101 [aI w, aI h] (.one (aB (hiddenB w h))) := by
  refine fn_of_body (G := G) Try.func101 rfl (by decide) (Nat.le_of_ble_eq_true rfl) ?_
  conv => whnf
  repeat' first
    | exact True.intro
    | (refine draw_mkF ?_ ?_ ?_; (focus (decide +kernel)); (focus (kernel_rfl)); conv => whnf)
    | (refine Both.mk ?_ ?_ <;> conv => whnf)
    | (refine OwnQ.own ?_; conv => whnf)
    | (refine NilQ.mk (fun hnil => ?_) ?_ <;> conv => whnf)
    | (refine draw_mk (by kernel_rfl) ?_; conv => whnf)
    | (refine Br.mk (fun hb => ?_) (fun hb => ?_) <;> conv => whnf)
    | (refine call_sn ?_ (isCounted_ok ?_ ?_) ?_; (focus ((repeat' first | exact snapRow | exact snap_row (by simp; done) | exact rfl | exact trivial | apply And.intro | omega | (simp; done)); done)); conv => whnf)
    | (refine callP_sn ?_ (isCounted_ok ?_ ?_) ?_; (focus ((repeat' first | exact snapRow | exact snap_row (by simp; done) | exact rfl | exact trivial | apply And.intro | omega | (simp; done)); done)); conv => whnf)
    | (refine And.intro ?_ ?_; (focus (first | decide | omega | (simp at *; omega) | (simp_all; done))); conv => whnf)
  all_goals first | (simp_all [resOK_iff, resVs, resCell, resCells, refVs, refCV, refCs, hiddenB, wrap_box]; done) | (simp_all [resOK_iff, resVs, resCell, resCells, refVs, refCV, refCs, hiddenB, wrap_box]; omega)

abbrev dClue (k a b : Int) : List DC := [dI k, dI a, dI b]

end Go.Proofs.Ytmfdkjjhdjkgpaa

/- The law on clues. -/
import Derived.Test.YtmfdkjjhdjkgpaaQAclue
import Derived.Test.YtmfdkjjhdjkgpaaQZd
namespace Go.Proofs.Ytmfdkjjhdjkgpaa
open Go Go.RowKit
set_option maxRecDepth 10000
set_option linter.unusedSimpArgs false

theorem toClue_ok (k a b : Int) : Fn G.P 18 [.agg (dClue k a b)] (.one (.agg (dClue k a b))) := by
  refine fn_of_body (G := G) Try.func18 rfl (by decide) (Nat.le_of_ble_eq_true rfl) ?_
  conv => whnf
  repeat' first
    | exact True.intro
    | (refine draw_mkF ?_ ?_ ?_; (focus (decide +kernel)); (focus (kernel_rfl)); conv => whnf)
    | (refine Both.mk ?_ ?_ <;> conv => whnf)
    | (refine OwnQ.own ?_; conv => whnf)
    | (refine NilQ.mk (fun hnil => ?_) ?_ <;> conv => whnf)
    | (refine draw_mk (by kernel_rfl) ?_; conv => whnf)
    | (refine Br.mk (fun hb => ?_) (fun hb => ?_) <;> conv => whnf)
    | (refine And.intro ?_ ?_; (focus (first | decide | omega | (simp at *; omega) | (simp_all; done))); conv => whnf)
  all_goals first | (simp_all [resOK_iff, resVs, resCell, resCells, refVs, refCV, refCs]; done) | (simp_all [resOK_iff, resVs, resCell, resCells, refVs, refCV, refCs]; omega)

theorem clue_of_good {w : World} {R : Nat → Prop} {ds : List DC} {us : List Value} (h : Good w R [.int .i64, .int .i64, .int .i64] ds us) : ∃ k a b, ds = dClue k a b := by
  cases h with | cons h1 _ h2 =>
  cases h2 with | cons h3 _ h4 =>
  cases h4 with | cons h5 _ h6 =>
  cases h6
  cases h1; cases h3; cases h5
  exact ⟨_, _, _, rfl⟩

end Go.Proofs.Ytmfdkjjhdjkgpaa

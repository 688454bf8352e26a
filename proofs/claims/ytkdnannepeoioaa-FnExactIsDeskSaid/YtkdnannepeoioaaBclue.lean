/- The law on clues. -/
import Derived.Test.YtkdnannepeoioaaAclue
import Derived.Test.YtkdnannepeoioaaKp
namespace Go.Proofs.Ytkdnannepeoioaa
open Go Go.RowKit
set_option maxRecDepth 10000
set_option linter.unusedSimpArgs false

theorem toClue_ok (k a b : Int) : Fn G.P 10 [.agg (dClue k a b)] (.one (.agg (dClue k a b))) := by
  refine fn_of_body (G := G) Try.func10 rfl (by decide) (Nat.le_of_ble_eq_true rfl) ?_
  conv => whnf
  repeat' first
    | (refine draw_mk (by kernel_rfl) ?_; conv => whnf)
    | (refine Br.mk (fun hb => ?_) (fun hb => ?_) <;> conv => whnf)
    | (refine And.intro (by first | decide | omega | (simp at *; omega) | (simp_all; done)) ?_; conv => whnf)
  all_goals first | (simp_all [resOK_iff, resVs, resCell, resCells, refVs, refCV, refCs]; done) | (simp_all [resOK_iff, resVs, resCell, resCells, refVs, refCV, refCs]; omega)

theorem isClueLaw_ok (w h k a b : Int) : Fn G.P 3 [aI w, aI h, .agg (dClue k a b)] (.one (aB true)) := by
  refine fn_of_body (G := G) Try.func3 rfl (by decide) (Nat.le_of_ble_eq_true rfl) ?_
  conv => whnf
  repeat' first
    | (refine draw_mk (by kernel_rfl) ?_; conv => whnf)
    | (refine Br.mk (fun hb => ?_) (fun hb => ?_) <;> conv => whnf)
    | (refine call_sn (by repeat' first | exact snapRow | exact rfl | exact trivial | apply And.intro | omega | (simp; done)) (toClue_ok _ _ _) ?_; conv => whnf)
    | (refine callP_sn (by repeat' first | exact snapRow | exact rfl | exact trivial | apply And.intro | omega | (simp; done)) (toClue_ok _ _ _) ?_; conv => whnf)
    | (refine call_sn (by repeat' first | exact snapRow | exact rfl | exact trivial | apply And.intro | omega | (simp; done)) (specIsClue_ok _ _ _ _ _) ?_; conv => whnf)
    | (refine callP_sn (by repeat' first | exact snapRow | exact rfl | exact trivial | apply And.intro | omega | (simp; done)) (specIsClue_ok _ _ _ _ _) ?_; conv => whnf)
    | (refine call_sn (by repeat' first | exact snapRow | exact rfl | exact trivial | apply And.intro | omega | (simp; done)) (isClue_ok _ _ _ _ _) ?_; conv => whnf)
    | (refine callP_sn (by repeat' first | exact snapRow | exact rfl | exact trivial | apply And.intro | omega | (simp; done)) (isClue_ok _ _ _ _ _) ?_; conv => whnf)
    | (refine And.intro (by first | decide | omega | (simp at *; omega) | (simp_all; done)) ?_; conv => whnf)
  all_goals first | (simp_all [resOK_iff, resVs, resCell, resCells, refVs, refCV, refCs]; done) | (simp_all [resOK_iff, resVs, resCell, resCells, refVs, refCV, refCs]; omega)

theorem clue_of_good {w : World} {R : Nat → Prop} {ds : List DC} {us : List Value} (h : Good w R [.int .i64, .int .i64, .int .i64] ds us) : ∃ k a b, ds = dClue k a b := by
  cases h with | cons h1 _ h2 =>
  cases h2 with | cons h3 _ h4 =>
  cases h4 with | cons h5 _ h6 =>
  cases h6
  cases h1; cases h3; cases h5
  exact ⟨_, _, _, rfl⟩

theorem isClueLaw {W : World} {R : Nat → Prop} (w : Int) (_ : (Lit.int .i64 w).wf = true) (h : Int) (_ : (Lit.int .i64 h).wf = true) (ds : List DC) (hg : ∃ us, Good W R [.int .i64, .int .i64, .int .i64] ds us) :
    Fn G.P 3 [aI w, aI h, .agg ds] (.one (aB true)) := by
  obtain ⟨us, hg⟩ := hg
  obtain ⟨k, a, b, rfl⟩ := clue_of_good hg
  exact isClueLaw_ok w h k a b

end Go.Proofs.Ytkdnannepeoioaa

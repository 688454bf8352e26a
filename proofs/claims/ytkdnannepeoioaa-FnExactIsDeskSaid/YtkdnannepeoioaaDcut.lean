/- Desks: the reference's test of them. -/
import Derived.Test.YtkdnannepeoioaaCcut
namespace Go.Proofs.Ytkdnannepeoioaa
open Go Go.RowKit
set_option maxRecDepth 10000
set_option linter.unusedSimpArgs false

theorem coGood_ok (w h : Int) (sq : List (Int × Int × Int)) (v g : Int) (bq : List (Int × Int × Int)) (hn : sq.length ≤ 2 ^ 40) (hm : bq.length ≤ 2 ^ 40) :
    Fn G.P 54 [.agg (dDesk w h sq v g bq)] (.one (aB (goodCutB w h sq && goodCutB v g bq))) := by
  refine fn_of_body (G := G) Try.func54 rfl (by decide) (Nat.le_of_ble_eq_true rfl) ?_
  conv => whnf
  repeat' first
    | (refine draw_mk (by kernel_rfl) ?_; conv => whnf)
    | (refine Br.mk (fun hb => ?_) (fun hb => ?_) <;> conv => whnf)
    | (refine call_sn (by repeat' first | exact snapRow | exact rfl | exact trivial | apply And.intro | omega | (simp; done)) (cuGood_ok _ _ _ (by assumption)) ?_; conv => whnf)
    | (refine callP_sn (by repeat' first | exact snapRow | exact rfl | exact trivial | apply And.intro | omega | (simp; done)) (cuGood_ok _ _ _ (by assumption)) ?_; conv => whnf)
    | (refine And.intro (by first | decide | omega | (simp at *; omega) | (simp_all; done)) ?_; conv => whnf)
  · simp [resOK_iff, resVs, resCell, refVs, refCV, hb]
  · simp [resOK_iff, resVs, resCell, refVs, refCV, hb]

theorem specIsDesk_ok (w h : Int) (sq : List (Int × Int × Int)) (v g : Int) (bq : List (Int × Int × Int)) (hn : sq.length ≤ 2 ^ 40) (hm : bq.length ≤ 2 ^ 40) :
    Fn G.P 25 [.agg (dDesk w h sq v g bq)] (.one (aB (goodCutB w h sq && goodCutB v g bq))) := by
  refine fn_of_body (G := G) Try.func25 rfl (by decide) (Nat.le_of_ble_eq_true rfl) ?_
  conv => whnf
  repeat' first
    | (refine draw_mk (by kernel_rfl) ?_; conv => whnf)
    | (refine Br.mk (fun hb => ?_) (fun hb => ?_) <;> conv => whnf)
    | (refine call_sn (by repeat' first | exact snapRow | exact rfl | exact trivial | apply And.intro | omega | (simp; done)) (coGood_ok _ _ _ _ _ _ (by assumption) (by assumption)) ?_; conv => whnf)
    | (refine callP_sn (by repeat' first | exact snapRow | exact rfl | exact trivial | apply And.intro | omega | (simp; done)) (coGood_ok _ _ _ _ _ _ (by assumption) (by assumption)) ?_; conv => whnf)
    | (refine And.intro (by first | decide | omega | (simp at *; omega) | (simp_all; done)) ?_; conv => whnf)
  exact ⟨⟨rfl, trivial⟩, by simp [refVs, refCV]⟩

end Go.Proofs.Ytkdnannepeoioaa

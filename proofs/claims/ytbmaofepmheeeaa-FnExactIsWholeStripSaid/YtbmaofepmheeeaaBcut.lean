/- Squares beside each other: which comes first, which overlap. -/
import Derived.Test.YtbmaofepmheeeaaAcut
import Derived.Test.YtbmaofepmheeeaaAclue
namespace Go.Proofs.Ytbmaofepmheeeaa
open Go Go.RowKit
set_option maxRecDepth 10000
set_option linter.unusedSimpArgs false

/-- The first square comes before the second one. -/
def lessB (a b : Int × Int × Int) : Bool := decide (a.2.1 < b.2.1) || (a.2.1 == b.2.1 && decide (a.1 < b.1))

/-- Squares have a common cell. -/
def ovB (a b : Int × Int × Int) : Bool := decide (a.1 < b.1 + b.2.2) && decide (b.1 < a.1 + a.2.2) && decide (a.2.1 < b.2.1 + b.2.2) && decide (b.2.1 < a.2.1 + a.2.2)

/-- A square of small numbers. -/
def smallSq (a : Int × Int × Int) : Prop := 0 ≤ a.1 ∧ a.1 ≤ 500 ∧ 0 ≤ a.2.1 ∧ a.2.1 ≤ 500 ∧ 0 ≤ a.2.2 ∧ a.2.2 ≤ 500

theorem cuLess_ok (a b : Int × Int × Int) : Fn G.P 100 [.agg (r3 a), .agg (r3 b)] (.one (aB (lessB a b))) := by
  obtain ⟨x, y, s⟩ := a
  obtain ⟨x', y', s'⟩ := b
  refine fn_of_body (G := G) Try.func100 rfl (by decide) (Nat.le_of_ble_eq_true rfl) ?_
  conv => whnf
  repeat' first
    | (refine draw_mk (by kernel_rfl) ?_; conv => whnf)
    | (refine Br.mk (fun hb => ?_) (fun hb => ?_) <;> conv => whnf)
    | (refine And.intro ?_ ?_; (focus (first | decide | omega | (simp at *; omega) | (simp_all; done))); conv => whnf)
  all_goals simp only [decide_eq_true_eq, decide_eq_false_iff_not, beq_iff_eq, beq_eq_false_iff_ne] at *
  · simp [resOK_iff, resVs, resCell, refVs, refCV, lessB, hb]
  · subst hb
    simp [resOK_iff, resVs, resCell, refVs, refCV, lessB]
  · have h2 : ¬ y < y' := by omega
    simp [resOK_iff, resVs, resCell, refVs, refCV, lessB, h2, hb]

theorem comparePlaces_ok (a b : Int × Int × Int) (ha : smallSq a) (hb : smallSq b) : Fn G.P 102 [.agg (r3 a), .agg (r3 b)] (.one (aI (if a.2.1 = b.2.1 then a.1 - b.1 else a.2.1 - b.2.1))) := by
  obtain ⟨x, y, s⟩ := a
  obtain ⟨x', y', s'⟩ := b
  simp only [smallSq] at ha hb
  have h1 : IntKind.i64.wrap (y - y') = y - y' := wrap_i64 _ (by omega) (by omega)
  have h2 : IntKind.i64.wrap (x - x') = x - x' := wrap_i64 _ (by omega) (by omega)
  refine fn_of_body (G := G) Try.func102 rfl (by decide) (Nat.le_of_ble_eq_true rfl) ?_
  conv => whnf
  repeat' first
    | (refine draw_mk (by kernel_rfl) ?_; conv => whnf)
    | (refine Br.mk (fun hb => ?_) (fun hb => ?_) <;> conv => whnf)
    | (refine And.intro ?_ ?_; (focus (first | decide | omega | (simp at *; omega) | (simp_all; done))); conv => whnf)
  all_goals first | (simp_all [resOK_iff, resVs, resCell, resCells, refVs, refCV, refCs]; done) | (simp_all [resOK_iff, resVs, resCell, resCells, refVs, refCV, refCs]; omega)

theorem overlap_ok (a b : Int × Int × Int) (ha : smallSq a) (hb : smallSq b) : Fn G.P 104 [.agg (r3 a), .agg (r3 b)] (.one (aB (ovB a b))) := by
  obtain ⟨x, y, s⟩ := a
  obtain ⟨x', y', s'⟩ := b
  simp only [smallSq] at ha hb
  have h1 : IntKind.i64.wrap (x' + s') = x' + s' := wrap_i64 _ (by omega) (by omega)
  have h2 : IntKind.i64.wrap (x + s) = x + s := wrap_i64 _ (by omega) (by omega)
  have h3 : IntKind.i64.wrap (y' + s') = y' + s' := wrap_i64 _ (by omega) (by omega)
  have h4 : IntKind.i64.wrap (y + s) = y + s := wrap_i64 _ (by omega) (by omega)
  refine fn_of_body (G := G) Try.func104 rfl (by decide) (Nat.le_of_ble_eq_true rfl) ?_
  conv => whnf
  repeat' first
    | (refine draw_mk (by kernel_rfl) ?_; conv => whnf)
    | (refine Br.mk (fun hb => ?_) (fun hb => ?_) <;> conv => whnf)
    | (refine And.intro ?_ ?_; (focus (first | decide | omega | (simp at *; omega) | (simp_all; done))); conv => whnf)
  all_goals first | (simp_all [resOK_iff, resVs, resCell, resCells, refVs, refCV, refCs, ovB]; done) | (simp_all [resOK_iff, resVs, resCell, resCells, refVs, refCV, refCs, ovB]; omega)

theorem isWide_ok (n : Int) : Fn G.P 101 [aI n] (.one (aB (inB n 1 500))) := by
  refine fn_of_body (G := G) Try.func101 rfl (by decide) (Nat.le_of_ble_eq_true rfl) ?_
  conv => whnf
  repeat' first
    | (refine draw_mk (by kernel_rfl) ?_; conv => whnf)
    | (refine Br.mk (fun hb => ?_) (fun hb => ?_) <;> conv => whnf)
    | (refine call_sn ?_ (within_ok ?_ ?_ ?_) ?_; (focus ((repeat' first | exact snapRow | exact snap_row (by simp; done) | exact rfl | exact trivial | apply And.intro | omega | (simp; done)); done)); conv => whnf)
    | (refine callP_sn ?_ (within_ok ?_ ?_ ?_) ?_; (focus ((repeat' first | exact snapRow | exact snap_row (by simp; done) | exact rfl | exact trivial | apply And.intro | omega | (simp; done)); done)); conv => whnf)
    | (refine And.intro ?_ ?_; (focus (first | decide | omega | (simp at *; omega) | (simp_all; done))); conv => whnf)
  all_goals first | (simp_all [resOK_iff, resVs, resCell, resCells, refVs, refCV, refCs]; done) | (simp_all [resOK_iff, resVs, resCell, resCells, refVs, refCV, refCs]; omega)

theorem cuLess_ok3 (x y s x' y' s' : Int) : Fn G.P 100 [.agg [dI x, dI y, dI s], .agg [dI x', dI y', dI s']] (.one (aB (lessB (x, y, s) (x', y', s')))) := cuLess_ok (x, y, s) (x', y', s')

theorem comparePlaces_ok3 (x y s x' y' s' : Int) (ha : smallSq (x, y, s)) (hb : smallSq (x', y', s')) : Fn G.P 102 [.agg [dI x, dI y, dI s], .agg [dI x', dI y', dI s']] (.one (aI (if y = y' then x - x' else y - y'))) := comparePlaces_ok (x, y, s) (x', y', s') ha hb

theorem overlap_ok3 (x y s x' y' s' : Int) (ha : smallSq (x, y, s)) (hb : smallSq (x', y', s')) : Fn G.P 104 [.agg [dI x, dI y, dI s], .agg [dI x', dI y', dI s']] (.one (aB (ovB (x, y, s) (x', y', s')))) := overlap_ok (x, y, s) (x', y', s') ha hb

end Go.Proofs.Ytbmaofepmheeeaa

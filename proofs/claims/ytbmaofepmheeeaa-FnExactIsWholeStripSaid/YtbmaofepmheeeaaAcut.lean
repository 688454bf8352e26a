/- Cuts that come into a law: their copies and their sizes. -/
import Derived.Test.YtbmaofepmheeeaaAdesk
import Derived.Test.YtbmaofepmheeeaaKp
namespace Go.Proofs.Ytbmaofepmheeeaa
open Go Go.RowKit
set_option maxRecDepth 10000
set_option linter.unusedSimpArgs false

theorem toSquare_ok (k a b : Int) : Fn G.P 84 [.agg [dI k, dI a, dI b]] (.one (.agg [dI k, dI a, dI b])) := by
  refine fn_of_body (G := G) Try.func84 rfl (by decide) (Nat.le_of_ble_eq_true rfl) ?_
  conv => whnf
  repeat' first
    | (refine draw_mk (by kernel_rfl) ?_; conv => whnf)
    | (refine Br.mk (fun hb => ?_) (fun hb => ?_) <;> conv => whnf)
    | (refine And.intro ?_ ?_; (focus (first | decide | omega | (simp at *; omega) | (simp_all; done))); conv => whnf)
  all_goals first | (simp_all [resOK_iff, resVs, resCell, resCells, refVs, refCV, refCs]; done) | (simp_all [resOK_iff, resVs, resCell, resCells, refVs, refCV, refCs]; omega)

theorem toSquareS_ok (cl : List (Int × Int × Int)) (hn : cl.length ≤ 2 ^ 40) : Fn G.P 55 [.c (.list 3 (cl.map r3))] (.one (.c (.list 3 (cl.map r3)))) := by
  refine fn_of_body (G := G) Try.func55 rfl (by decide) (Nat.le_of_ble_eq_true rfl) ?_
  conv => whnf
  refine ⟨by simp, by simp, by simp; omega, by simp; omega, ?_⟩
  conv => whnf
  refine .inl ⟨Nat, fun i => cl.length - i, fun i => i ≤ cl.length, fun i => ⟨[(0, .one (.c (.d (.list 3 (cl.map r3))))), (3, .one (.c (.sl 0 0 3 0 cl.length (some cl.length)))), (4, .one (.c (vI i)))],
    [(0, .arr 3 ((cl.take i).map r3 ++ List.replicate (cl.length - i) [dI 0, dI 0, dI 0]))], _⟩, 0, Nat.zero_le _, weak_of ?_ ?_ rfl (Nat.zero_le _), fun i hi => ?_⟩
  · simp
  · (repeat' first | exact rfl | exact trivial | apply And.intro | (simp [getE]; done))
  conv => whnf
  repeat' first
    | (refine draw_mk (by kernel_rfl) ?_; conv => whnf)
    | (refine Br.mk (fun hb => ?_) (fun hb => ?_) <;> conv => whnf)
    | (refine El.mk (fun el hel => ?_); obtain ⟨k, a, b, hk, rfl⟩ := r3_get hel; conv => whnf)
    | (refine call_sn ?_ (toSquare_ok ?_ ?_ ?_) ?_; (focus ((repeat' first | exact snapRow | exact snap_row (by simp; done) | exact rfl | exact trivial | apply And.intro | omega | (simp; done)); done)); conv => whnf)
    | (refine callP_sn ?_ (toSquare_ok ?_ ?_ ?_) ?_; (focus ((repeat' first | exact snapRow | exact snap_row (by simp; done) | exact rfl | exact trivial | apply And.intro | omega | (simp; done)); done)); conv => whnf)
    | (refine And.intro ?_ ?_; (focus (first | decide | omega | (simp at *; omega) | (simp_all; done))); conv => whnf)
  · refine ⟨i + 1, ?_, ?_, weak_of ?_ ?_ rfl (Nat.zero_le _)⟩
    · simp at hb ⊢; omega
    · simp at hb ⊢; omega
    · have := fill_set (f := r3) (z := [dI 0, dI 0, dI 0]) (i := i) (by simpa using hk)
      simp only [Int.toNat_natCast, Nat.zero_add, List.length_cons, List.length_nil, List.take_succ_cons, List.take_zero]
      rw [← this]; rfl
    · have h1 : IntKind.i64.wrap ((i : Int) + 1) = ((i + 1 : Nat) : Int) := by
        simp at hb
        have := wrap_len (n := i + 1) (by omega)
        simpa using this
      simp [envOK, getE, h1]
  · simp at hb
    rw [fill_all (by omega)]
    exact res_row rfl (by simp) r3_flat

theorem szSquareS_ok (cl : List (Int × Int × Int)) (left : Int) (hn : cl.length ≤ maxLen) (hl : 0 ≤ left ∧ left ≤ 1048576) : Fn G.P 52 [.c (.list 3 (cl.map r3)), aI left] (.one (aI (if cl.length ≤ left then left - cl.length else -1))) := by
  have h1 : IntKind.i64.wrap (left - (cl.length : Int)) = left - cl.length := wrap_i64 _ (by simp [maxLen] at hn; omega) (by omega)
  refine fn_of_body (G := G) Try.func52 rfl (by decide) (Nat.le_of_ble_eq_true rfl) ?_
  conv => whnf
  repeat' first
    | (refine draw_mk (by kernel_rfl) ?_; conv => whnf)
    | (refine Br.mk (fun hb => ?_) (fun hb => ?_) <;> conv => whnf)
    | (refine And.intro ?_ ?_; (focus (first | decide | omega | (simp at *; omega) | (simp_all; done))); conv => whnf)
  all_goals first | (simp_all [resOK_iff, resVs, resCell, resCells, refVs, refCV, refCs]; done) | (simp_all [resOK_iff, resVs, resCell, resCells, refVs, refCV, refCs]; omega)

theorem szCut_ok (w h : Int) (cl : List (Int × Int × Int)) (left : Int) (hn : cl.length ≤ maxLen) (hl : 0 ≤ left ∧ left ≤ 1048576) : Fn G.P 16 [.agg (dCut w h cl), aI left] (.one (aI (if cl.length ≤ left then left - cl.length else -1))) := by
  refine fn_of_body (G := G) Try.func16 rfl (by decide) (Nat.le_of_ble_eq_true rfl) ?_
  conv => whnf
  repeat' first
    | (refine draw_mk (by kernel_rfl) ?_; conv => whnf)
    | (refine Br.mk (fun hb => ?_) (fun hb => ?_) <;> conv => whnf)
    | (refine call_sn ?_ (szSquareS_ok ?_ ?_ ?_ ?_) ?_; (focus ((repeat' first | exact snapRow | exact snap_row (by simp; done) | exact rfl | exact trivial | apply And.intro | omega | (simp; done)); done)); assumption; assumption; conv => whnf)
    | (refine callP_sn ?_ (szSquareS_ok ?_ ?_ ?_ ?_) ?_; (focus ((repeat' first | exact snapRow | exact snap_row (by simp; done) | exact rfl | exact trivial | apply And.intro | omega | (simp; done)); done)); assumption; assumption; conv => whnf)
    | (refine And.intro ?_ ?_; (focus (first | decide | omega | (simp at *; omega) | (simp_all; done))); conv => whnf)
  all_goals first | (simp_all [resOK_iff, resVs, resCell, resCells, refVs, refCV, refCs]; done) | (simp_all [resOK_iff, resVs, resCell, resCells, refVs, refCV, refCs]; omega)

theorem toCut_ok (w h : Int) (cl : List (Int × Int × Int)) (hn : cl.length ≤ 2 ^ 40) : Fn G.P 18 [.agg (dCut w h cl)] (.one (.agg (dCut w h cl))) := by
  refine fn_of_body (G := G) Try.func18 rfl (by decide) (Nat.le_of_ble_eq_true rfl) ?_
  conv => whnf
  repeat' first
    | (refine draw_mk (by kernel_rfl) ?_; conv => whnf)
    | (refine Br.mk (fun hb => ?_) (fun hb => ?_) <;> conv => whnf)
    | (refine call_sn ?_ (toSquareS_ok ?_ ?_) ?_; (focus ((repeat' first | exact snapRow | exact snap_row (by simp; done) | exact rfl | exact trivial | apply And.intro | omega | (simp; done)); done)); assumption; conv => whnf)
    | (refine callP_sn ?_ (toSquareS_ok ?_ ?_) ?_; (focus ((repeat' first | exact snapRow | exact snap_row (by simp; done) | exact rfl | exact trivial | apply And.intro | omega | (simp; done)); done)); assumption; conv => whnf)
    | (refine And.intro ?_ ?_; (focus (first | decide | omega | (simp at *; omega) | (simp_all; done))); conv => whnf)
  exact ⟨⟨⟨rfl, rfl, res_cell (by simp [objAt]) rfl r3_flat, trivial⟩, trivial⟩, by simp [refVs, refCs, refCV]⟩

end Go.Proofs.Ytbmaofepmheeeaa

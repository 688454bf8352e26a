/- The desk at first. -/
import Derived.Test.YtmfdkjjhdjkgpaaQZh
namespace Go.Proofs.Ytmfdkjjhdjkgpaa
open Go Go.RowKit
set_option maxRecDepth 10000
set_option linter.unusedSimpArgs false

abbrev dCut (w h : Int) (sq : List (Int × Int × Int)) : List DC := [dI w, dI h, .list 3 (sq.map r3)]

theorem eqSquare_ok (k a b k' a' b' : Int) : Fn G.P 102 [.agg [dI k, dI a, dI b], .agg [dI k', dI a', dI b']] (.one (aB (decide ((k, a, b) = (k', a', b'))))) := by
  refine fn_of_body (G := G) Try.func102 rfl (by decide) (Nat.le_of_ble_eq_true rfl) ?_
  conv => whnf
  repeat' first
    | exact True.intro
    | (refine draw_mkF ?_ ?_ ?_; (focus (decide +kernel)); (focus (kernel_rfl)); conv => whnf)
    | (refine Both.mk ?_ ?_ <;> conv => whnf)
    | (refine OwnQ.own ?_; conv => whnf)
    | (refine NilQ.mk (fun hnil => ?_) ?_ <;> conv => whnf)
    | (refine draw_mk (by kernel_rfl) ?_; conv => whnf)
    | (refine Br.mk (fun hb => ?_) (fun hb => ?_) <;> conv => whnf)
    | (refine And.intro ?_ ?_; (focus (first | decide | omega | (simp at *; omega) | (simp_all; done))); conv => whnf)
  all_goals first | (simp_all [resOK_iff, resVs, resCell, resCells, refVs, refCV, refCs]; done) | (simp_all [resOK_iff, resVs, resCell, resCells, refVs, refCV, refCs]; omega)

theorem eqSquareS_ok (cl cl' : List (Int × Int × Int)) (hn : cl.length ≤ 2 ^ 40) : Fn G.P 58 [.c (.list 3 (cl.map r3)), .c (.list 3 (cl'.map r3))] (.one (aB (decide (cl = cl')))) := by
  refine fn_of_body (G := G) Try.func58 rfl (by decide) (Nat.le_of_ble_eq_true rfl) ?_
  conv => whnf
  repeat' first
    | exact True.intro
    | (refine draw_mkF ?_ ?_ ?_; (focus (decide +kernel)); (focus (kernel_rfl)); conv => whnf)
    | (refine Both.mk ?_ ?_ <;> conv => whnf)
    | (refine OwnQ.own ?_; conv => whnf)
    | (refine NilQ.mk (fun hnil => ?_) ?_ <;> conv => whnf)
    | (refine draw_mk (by kernel_rfl) ?_; conv => whnf)
    | (refine Br.mk (fun hb => ?_) (fun hb => ?_) <;> conv => whnf)
    | (refine And.intro ?_ ?_; (focus (first | decide | omega | (simp at *; omega) | (simp_all; done))); conv => whnf)
  · have hne : cl ≠ cl' := by
      rintro rfl
      simp at hb
    simp [resOK_iff, resVs, resCell, refVs, refCV, hne]
  have hlen : cl.length = cl'.length := by simp at hb; omega
  clear hb
  refine .inl ⟨Nat, fun i => cl.length - i, fun i => i ≤ cl.length ∧ cl.take i = cl'.take i, fun i => ⟨[(0, .one (.c (.d (.list 3 (cl.map r3))))), (1, .one (.c (.d (.list 3 (cl'.map r3))))), (5, .one (.c (vI i)))],
    [], _⟩, 0, ⟨Nat.zero_le _, rfl⟩, weak_of rfl ?_ rfl (Nat.zero_le _), fun i hi => ?_⟩
  · (repeat' first | exact rfl | exact trivial | apply And.intro | (simp [getE]; done))
  conv => whnf
  repeat' first
    | exact True.intro
    | (refine draw_mkF ?_ ?_ ?_; (focus (decide +kernel)); (focus (kernel_rfl)); conv => whnf)
    | (refine Both.mk ?_ ?_ <;> conv => whnf)
    | (refine OwnQ.own ?_; conv => whnf)
    | (refine NilQ.mk (fun hnil => ?_) ?_ <;> conv => whnf)
    | (refine draw_mk (by kernel_rfl) ?_; conv => whnf)
    | (refine Br.mk (fun hb => ?_) (fun hb => ?_) <;> conv => whnf)
    | (refine El.mk (fun el hel => ?_); obtain ⟨k, a, b, hk, rfl⟩ := r3_get hel; conv => whnf)
    | (refine call_sn ?_ (eqSquare_ok ?_ ?_ ?_ ?_ ?_ ?_) ?_; (focus ((repeat' first | exact snapRow | exact snap_row (by simp; done) | exact rfl | exact trivial | apply And.intro | omega | (simp; done)); done)); conv => whnf)
    | (refine callP_sn ?_ (eqSquare_ok ?_ ?_ ?_ ?_ ?_ ?_) ?_; (focus ((repeat' first | exact snapRow | exact snap_row (by simp; done) | exact rfl | exact trivial | apply And.intro | omega | (simp; done)); done)); conv => whnf)
    | (refine And.intro ?_ ?_; (focus (first | decide | omega | (simp at *; omega) | (simp_all; done))); conv => whnf)
  · rename_i hlt k' a' b' hk' hel'
    have hne : cl ≠ cl' := by
      rintro rfl
      rw [hk'] at hk
      simp_all
    simp [resOK_iff, resVs, resCell, refVs, refCV, hne]
  · rename_i hlt k' a' b' hk' hel'
    simp at hlt
    simp at hb hk hk'
    refine ⟨i + 1, ⟨by omega, ?_⟩, by simp; omega, weak_of rfl ?_ rfl (Nat.zero_le _)⟩
    · rw [List.take_add_one, List.take_add_one, hi.2, hk, hk', hb.1, hb.2.1, hb.2.2]
    · have := wrap_len (n := i + 1) (by omega)
      simp [envOK, getE]
      simpa using this
  · simp at hb
    have : cl = cl' := by
      have := hi.2
      rwa [List.take_of_length_le (by omega), List.take_of_length_le (by omega)] at this
    simp [resOK_iff, resVs, resCell, refVs, refCV, this]

theorem eqCut_ok (w h : Int) (cl : List (Int × Int × Int)) (w' h' : Int) (cl' : List (Int × Int × Int)) (hn : cl.length ≤ 2 ^ 40) :
    Fn G.P 21 [.agg (dCut w h cl), .agg (dCut w' h' cl')] (.one (aB (decide ((w, h, cl) = (w', h', cl'))))) := by
  refine fn_of_body (G := G) Try.func21 rfl (by decide) (Nat.le_of_ble_eq_true rfl) ?_
  conv => whnf
  repeat' first
    | exact True.intro
    | (refine draw_mkF ?_ ?_ ?_; (focus (decide +kernel)); (focus (kernel_rfl)); conv => whnf)
    | (refine Both.mk ?_ ?_ <;> conv => whnf)
    | (refine OwnQ.own ?_; conv => whnf)
    | (refine NilQ.mk (fun hnil => ?_) ?_ <;> conv => whnf)
    | (refine draw_mk (by kernel_rfl) ?_; conv => whnf)
    | (refine Br.mk (fun hb => ?_) (fun hb => ?_) <;> conv => whnf)
    | (refine call_sn ?_ (eqSquareS_ok ?_ ?_ ?_) ?_; (focus ((repeat' first | exact snapRow | exact snap_row (by simp; done) | exact rfl | exact trivial | apply And.intro | omega | (simp; done)); done)); assumption; conv => whnf)
    | (refine callP_sn ?_ (eqSquareS_ok ?_ ?_ ?_) ?_; (focus ((repeat' first | exact snapRow | exact snap_row (by simp; done) | exact rfl | exact trivial | apply And.intro | omega | (simp; done)); done)); assumption; conv => whnf)
    | (refine And.intro ?_ ?_; (focus (first | decide | omega | (simp at *; omega) | (simp_all; done))); conv => whnf)
  all_goals first | (simp_all [resOK_iff, resVs, resCell, resCells, refVs, refCV, refCs]; done) | (simp_all [resOK_iff, resVs, resCell, resCells, refVs, refCV, refCs]; omega)

end Go.Proofs.Ytmfdkjjhdjkgpaa

/- The desk at first. -/
import Derived.Test.YtkdnannepeoioaaMarkh
namespace Go.Proofs.Ytkdnannepeoioaa
open Go Go.RowKit
set_option maxRecDepth 10000
set_option linter.unusedSimpArgs false

abbrev dCut (w h : Int) (sq : List (Int × Int × Int)) : List DC := [dI w, dI h, .list 3 (sq.map r3)]

abbrev dDesk (w h : Int) (sq : List (Int × Int × Int)) (w' h' : Int) (sq' : List (Int × Int × Int)) : List DC := [dI w, dI h, .list 3 (sq.map r3), dI w', dI h', .list 3 (sq'.map r3)]

theorem eqSquare_ok (k a b k' a' b' : Int) : Fn G.P 80 [.agg [dI k, dI a, dI b], .agg [dI k', dI a', dI b']] (.one (aB (decide ((k, a, b) = (k', a', b'))))) := by
  refine fn_of_body (G := G) Try.func80 rfl (by decide) (Nat.le_of_ble_eq_true rfl) ?_
  conv => whnf
  repeat' first
    | (refine draw_mk (by kernel_rfl) ?_; conv => whnf)
    | (refine Br.mk (fun hb => ?_) (fun hb => ?_) <;> conv => whnf)
    | (refine And.intro (by first | decide | omega | (simp at *; omega) | (simp_all; done)) ?_; conv => whnf)
  all_goals first | (simp_all [resOK_iff, resVs, resCell, resCells, refVs, refCV, refCs]; done) | (simp_all [resOK_iff, resVs, resCell, resCells, refVs, refCV, refCs]; omega)

theorem eqSquareS_ok (cl cl' : List (Int × Int × Int)) (hn : cl.length ≤ 2 ^ 40) : Fn G.P 61 [.c (.list 3 (cl.map r3)), .c (.list 3 (cl'.map r3))] (.one (aB (decide (cl = cl')))) := by
  refine fn_of_body (G := G) Try.func61 rfl (by decide) (Nat.le_of_ble_eq_true rfl) ?_
  conv => whnf
  repeat' first
    | (refine draw_mk (by kernel_rfl) ?_; conv => whnf)
    | (refine Br.mk (fun hb => ?_) (fun hb => ?_) <;> conv => whnf)
    | (refine And.intro (by first | decide | omega | (simp at *; omega) | (simp_all; done)) ?_; conv => whnf)
  · have hne : cl ≠ cl' := by
      rintro rfl
      simp at hb
    simp [resOK_iff, resVs, resCell, refVs, refCV, hne]
  have hlen : cl.length = cl'.length := by simp at hb; omega
  clear hb
  refine .inl ⟨Nat, fun i => cl.length - i, fun i => i ≤ cl.length ∧ cl.take i = cl'.take i, fun i => ⟨[(0, .one (.c (.d (.list 3 (cl.map r3))))), (1, .one (.c (.d (.list 3 (cl'.map r3))))), (5, .one (.c (vI i)))],
    [], _⟩, 0, ⟨Nat.zero_le _, rfl⟩, weak_of rfl ?_ rfl (Nat.zero_le _), fun i hi => ?_⟩
  · (repeat' first | exact rfl | exact trivial | apply And.intro | (simp [getE]; done))
  conv => whnf
  repeat' first
    | (refine draw_mk (by kernel_rfl) ?_; conv => whnf)
    | (refine Br.mk (fun hb => ?_) (fun hb => ?_) <;> conv => whnf)
    | (refine El.mk (fun el hel => ?_); obtain ⟨k, a, b, hk, rfl⟩ := r3_get hel; conv => whnf)
    | (refine call_sn (by repeat' first | exact snapRow | exact rfl | exact trivial | apply And.intro | omega | (simp; done)) (eqSquare_ok _ _ _ _ _ _) ?_; conv => whnf)
    | (refine callP_sn (by repeat' first | exact snapRow | exact rfl | exact trivial | apply And.intro | omega | (simp; done)) (eqSquare_ok _ _ _ _ _ _) ?_; conv => whnf)
    | (refine And.intro (by first | decide | omega | (simp at *; omega) | (simp_all; done)) ?_; conv => whnf)
  · rename_i hlt k' a' b' hk' hel'
    have hne : cl ≠ cl' := by
      rintro rfl
      rw [hk'] at hk
      simp_all
    simp [resOK_iff, resVs, resCell, refVs, refCV, hne]
  · rename_i hlt k' a' b' hk' hel'
    simp at hlt
    simp at hb hk hk'
    refine ⟨i + 1, ⟨by omega, ?_⟩, by simp; omega, weak_of rfl ?_ rfl (Nat.zero_le _)⟩
    · rw [List.take_add_one, List.take_add_one, hi.2, hk, hk', hb.1, hb.2.1, hb.2.2]
    · have := wrap_len (n := i + 1) (by omega)
      simp [envOK, getE]
      simpa using this
  · simp at hb
    have : cl = cl' := by
      have := hi.2
      rwa [List.take_of_length_le (by omega), List.take_of_length_le (by omega)] at this
    simp [resOK_iff, resVs, resCell, refVs, refCV, this]

theorem eqCut_ok (w h : Int) (cl : List (Int × Int × Int)) (w' h' : Int) (cl' : List (Int × Int × Int)) (hn : cl.length ≤ 2 ^ 40) :
    Fn G.P 34 [.agg (dCut w h cl), .agg (dCut w' h' cl')] (.one (aB (decide ((w, h, cl) = (w', h', cl'))))) := by
  refine fn_of_body (G := G) Try.func34 rfl (by decide) (Nat.le_of_ble_eq_true rfl) ?_
  conv => whnf
  repeat' first
    | (refine draw_mk (by kernel_rfl) ?_; conv => whnf)
    | (refine Br.mk (fun hb => ?_) (fun hb => ?_) <;> conv => whnf)
    | (refine call_sn (by repeat' first | exact snapRow | exact rfl | exact trivial | apply And.intro | omega | (simp; done)) (eqSquareS_ok _ _ (by assumption)) ?_; conv => whnf)
    | (refine callP_sn (by repeat' first | exact snapRow | exact rfl | exact trivial | apply And.intro | omega | (simp; done)) (eqSquareS_ok _ _ (by assumption)) ?_; conv => whnf)
    | (refine And.intro (by first | decide | omega | (simp at *; omega) | (simp_all; done)) ?_; conv => whnf)
  all_goals first | (simp_all [resOK_iff, resVs, resCell, resCells, refVs, refCV, refCs]; done) | (simp_all [resOK_iff, resVs, resCell, resCells, refVs, refCV, refCs]; omega)

theorem eqDesk_ok (w h : Int) (cl : List (Int × Int × Int)) (v g : Int) (bl : List (Int × Int × Int)) (w' h' : Int) (cl' : List (Int × Int × Int)) (v' g' : Int) (bl' : List (Int × Int × Int)) (hn : cl.length ≤ 2 ^ 40) (hm : bl.length ≤ 2 ^ 40) :
    Fn G.P 14 [.agg (dDesk w h cl v g bl), .agg (dDesk w' h' cl' v' g' bl')] (.one (aB (decide ((w, h, cl) = (w', h', cl')) && decide ((v, g, bl) = (v', g', bl'))))) := by
  refine fn_of_body (G := G) Try.func14 rfl (by decide) (Nat.le_of_ble_eq_true rfl) ?_
  conv => whnf
  repeat' first
    | (refine draw_mk (by kernel_rfl) ?_; conv => whnf)
    | (refine Br.mk (fun hb => ?_) (fun hb => ?_) <;> conv => whnf)
    | (refine call_sn (by repeat' first | exact snapRow | exact rfl | exact trivial | apply And.intro | omega | (simp; done)) (eqCut_ok _ _ _ _ _ _ (by assumption)) ?_; conv => whnf)
    | (refine callP_sn (by repeat' first | exact snapRow | exact rfl | exact trivial | apply And.intro | omega | (simp; done)) (eqCut_ok _ _ _ _ _ _ (by assumption)) ?_; conv => whnf)
    | (refine And.intro (by first | decide | omega | (simp at *; omega) | (simp_all; done)) ?_; conv => whnf)
  all_goals simp only [resOK_iff, resVs, resCell, refVs, refCV]
  all_goals generalize decide ((w, h, cl) = (w', h', cl')) = A at *
  · cases A <;> simp_all
  all_goals generalize decide ((v, g, bl) = (v', g', bl')) = B at *
  all_goals cases A <;> cases B <;> simp_all

abbrev dFirst : List DC := dDesk 3 2 [(0, 0, 2), (2, 0, 1), (2, 1, 1)] 1 1 [(0, 0, 1)]

theorem specFirstDesk_ok : Fn G.P 12 [] (.one (.agg dFirst)) := by
  refine fn_of_body (G := G) Try.func12 rfl (by decide) (Nat.le_of_ble_eq_true rfl) ?_
  conv => whnf
  repeat' first
    | (refine draw_mk (by kernel_rfl) ?_; conv => whnf)
    | (refine Br.mk (fun hb => ?_) (fun hb => ?_) <;> conv => whnf)
    | (refine And.intro (by first | decide | omega | (simp at *; omega) | (simp_all; done)) ?_; conv => whnf)
  simp [resOK_iff, resVs, resCells, resCell, objAt, refVs, refCs, refCV, r3, flatDC]

theorem firstDesk_ok : Fn G.P 13 [] (.one (.agg dFirst)) := by
  refine fn_of_body (G := G) Try.func13 rfl (by decide) (Nat.le_of_ble_eq_true rfl) ?_
  conv => whnf
  repeat' first
    | (refine draw_mk (by kernel_rfl) ?_; conv => whnf)
    | (refine Br.mk (fun hb => ?_) (fun hb => ?_) <;> conv => whnf)
    | (refine And.intro (by first | decide | omega | (simp at *; omega) | (simp_all; done)) ?_; conv => whnf)
  simp [resOK_iff, resVs, resCells, resCell, objAt, refVs, refCs, refCV, r3, flatDC]

theorem heldCut_ok (w h k : Int) (n : Nat) (hn : n ≤ 2 ^ 40) (hk : 0 ≤ k ∧ k ≤ 2 ^ 40) : Fn G.P 36 [.agg (dCut w h (mk3 k n)), aI k] (.one (aI (k + 3 * n))) := by
  refine fn_of_body (G := G) Try.func36 rfl (by decide) (Nat.le_of_ble_eq_true rfl) ?_
  conv => whnf
  repeat' first
    | (refine draw_mk (by kernel_rfl) ?_; conv => whnf)
    | (refine Br.mk (fun hb => ?_) (fun hb => ?_) <;> conv => whnf)
    | (refine call_sn (by repeat' first | exact snapRow | exact rfl | exact trivial | apply And.intro | omega | (simp; done)) (heldSquareS_ok _ _ (by assumption) (by assumption)) ?_; conv => whnf)
    | (refine callP_sn (by repeat' first | exact snapRow | exact rfl | exact trivial | apply And.intro | omega | (simp; done)) (heldSquareS_ok _ _ (by assumption) (by assumption)) ?_; conv => whnf)
    | (refine And.intro (by first | decide | omega | (simp at *; omega) | (simp_all; done)) ?_; conv => whnf)
  · simp at hb; omega
  · exact ⟨⟨rfl, trivial⟩, by simp [refVs, refCV]⟩

theorem heldDesk_ok (w h w' h' : Int) (k k' : Int) (n n' : Nat) (hk' : k' = k + 3 * (n : Int)) (hn : n ≤ 2 ^ 30) (hn' : n' ≤ 2 ^ 30) (hk : 0 ≤ k ∧ k ≤ 2 ^ 30) :
    Fn G.P 16 [.agg (dDesk w h (mk3 k n) w' h' (mk3 k' n')), aI k] (.one (aI (k' + 3 * n'))) := by
  subst hk'
  have h1 : n ≤ 2 ^ 40 := by omega
  have h2 : n' ≤ 2 ^ 40 := by omega
  have h3 : 0 ≤ k ∧ k ≤ 2 ^ 40 := by omega
  have h4 : 0 ≤ k + 3 * (n : Int) ∧ k + 3 * (n : Int) ≤ 2 ^ 40 := by omega
  refine fn_of_body (G := G) Try.func16 rfl (by decide) (Nat.le_of_ble_eq_true rfl) ?_
  conv => whnf
  repeat' first
    | (refine draw_mk (by kernel_rfl) ?_; conv => whnf)
    | (refine Br.mk (fun hb => ?_) (fun hb => ?_) <;> conv => whnf)
    | (refine call_sn (by repeat' first | exact snapRow | exact rfl | exact trivial | apply And.intro | omega | (simp; done)) (heldCut_ok _ _ _ _ (by assumption) (by assumption)) ?_; conv => whnf)
    | (refine callP_sn (by repeat' first | exact snapRow | exact rfl | exact trivial | apply And.intro | omega | (simp; done)) (heldCut_ok _ _ _ _ (by assumption) (by assumption)) ?_; conv => whnf)
    | (refine And.intro (by first | decide | omega | (simp at *; omega) | (simp_all; done)) ?_; conv => whnf)
  · simp at hb; omega
  · simp at hb; omega
  · exact ⟨⟨rfl, trivial⟩, by simp [refVs, refCV]⟩

theorem firstDeskLaw : Fn G.P 4 [] (.one (aB true)) := by
  refine fn_of_body (G := G) Try.func4 rfl (by decide) (Nat.le_of_ble_eq_true rfl) ?_
  conv => whnf
  repeat' first
    | (refine draw_mk (by kernel_rfl) ?_; conv => whnf)
    | (refine Br.mk (fun hb => ?_) (fun hb => ?_) <;> conv => whnf)
    | (refine call_sn (by repeat' first | exact snapRow | exact rfl | exact trivial | apply And.intro | omega | (simp; done)) (specFirstDesk_ok) ?_; conv => whnf)
    | (refine callP_sn (by repeat' first | exact snapRow | exact rfl | exact trivial | apply And.intro | omega | (simp; done)) (specFirstDesk_ok) ?_; conv => whnf)
    | (refine call_sn (by repeat' first | exact snapRow | exact rfl | exact trivial | apply And.intro | omega | (simp; done)) (firstDesk_ok) ?_; conv => whnf)
    | (refine callP_sn (by repeat' first | exact snapRow | exact rfl | exact trivial | apply And.intro | omega | (simp; done)) (firstDesk_ok) ?_; conv => whnf)
    | (refine And.intro (by first | decide | omega | (simp at *; omega) | (simp_all; done)) ?_; conv => whnf)
  refine call_sn (by repeat' first | exact snapRow | exact rfl | exact trivial | apply And.intro | omega | (simp; done)) (eqDesk_ok _ _ _ _ _ _ _ _ _ _ _ _ (by simp) (by simp)) ?_
  conv => whnf
  repeat' first
    | (refine draw_mk (by kernel_rfl) ?_; conv => whnf)
    | (refine Br.mk (fun hb => ?_) (fun hb => ?_) <;> conv => whnf)
    | (refine call_body (G := G) Try.func15 rfl (by decide) (Nat.le_of_ble_eq_true rfl) ?_; conv => whnf)
    | (refine call_body (G := G) Try.func35 rfl (by decide) (Nat.le_of_ble_eq_true rfl) ?_; conv => whnf)
    | (refine And.intro (by first | decide | omega | (simp at *; omega) | (simp_all; done)) ?_; conv => whnf)
  refine markSquareS_x rfl (by simp) (by omega) ?_
  conv => whnf
  repeat' first
    | (refine draw_mk (by kernel_rfl) ?_; conv => whnf)
    | (refine Br.mk (fun hb => ?_) (fun hb => ?_) <;> conv => whnf)
    | (refine call_body (G := G) Try.func15 rfl (by decide) (Nat.le_of_ble_eq_true rfl) ?_; conv => whnf)
    | (refine call_body (G := G) Try.func35 rfl (by decide) (Nat.le_of_ble_eq_true rfl) ?_; conv => whnf)
    | (refine And.intro (by first | decide | omega | (simp at *; omega) | (simp_all; done)) ?_; conv => whnf)
  refine markSquareS_x rfl (by simp) (by simp) ?_
  conv => whnf
  refine call_sn (by repeat' first | exact rfl | exact trivial | apply And.intro | decide) (heldDesk_ok 3 2 1 1 1 10 3 1 (by decide) (by decide) (by decide) (by decide)) ?_
  conv => whnf
  repeat' first
    | (refine draw_mk (by kernel_rfl) ?_; conv => whnf)
    | (refine Br.mk (fun hb => ?_) (fun hb => ?_) <;> conv => whnf)
    | (refine call_sn (by repeat' first | exact snapRow | exact rfl | exact trivial | apply And.intro | omega | (simp; done)) (firstDesk_ok) ?_; conv => whnf)
    | (refine callP_sn (by repeat' first | exact snapRow | exact rfl | exact trivial | apply And.intro | omega | (simp; done)) (firstDesk_ok) ?_; conv => whnf)
    | (refine And.intro (by first | decide | omega | (simp at *; omega) | (simp_all; done)) ?_; conv => whnf)
  refine call_sn (by repeat' first | exact snapRow | exact rfl | exact trivial | apply And.intro | omega | (simp; done)) (eqDesk_ok _ _ _ _ _ _ _ _ _ _ _ _ (by simp) (by simp)) ?_
  conv => whnf
  refine call_sn (by repeat' first | exact rfl | exact trivial | apply And.intro | decide) (heldDesk_ok 3 2 1 1 1 10 3 1 (by decide) (by decide) (by decide) (by decide)) ?_
  conv => whnf
  exact ⟨⟨rfl, trivial⟩, by simp [refVs, refCV]⟩

end Go.Proofs.Ytkdnannepeoioaa

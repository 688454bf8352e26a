/- Cuts that come into a law: their copies and their sizes. -/
import Derived.Test.YtkdnannepeoioaaAdesk
import Derived.Test.YtkdnannepeoioaaKp
namespace Go.Proofs.Ytkdnannepeoioaa
open Go Go.RowKit
set_option maxRecDepth 10000
set_option linter.unusedSimpArgs false

theorem toSquare_ok (k a b : Int) : Fn G.P 84 [.agg [dI k, dI a, dI b]] (.one (.agg [dI k, dI a, dI b])) := by
  refine fn_of_body (G := G) Try.func84 rfl (by decide) (Nat.le_of_ble_eq_true rfl) ?_
  conv => whnf
  repeat' first
    | (refine draw_mk (by kernel_rfl) ?_; conv => whnf)
    | (refine Br.mk (fun hb => ?_) (fun hb => ?_) <;> conv => whnf)
    | (refine And.intro (by first | decide | omega | (simp at *; omega) | (simp_all; done)) ?_; conv => whnf)
  all_goals first | (simp_all [resOK_iff, resVs, resCell, resCells, refVs, refCV, refCs]; done) | (simp_all [resOK_iff, resVs, resCell, resCells, refVs, refCV, refCs]; omega)

theorem toSquareS_ok (cl : List (Int × Int × Int)) (hn : cl.length ≤ 2 ^ 40) : Fn G.P 73 [.c (.list 3 (cl.map r3))] (.one (.c (.list 3 (cl.map r3)))) := by
  refine fn_of_body (G := G) Try.func73 rfl (by decide) (Nat.le_of_ble_eq_true rfl) ?_
  conv => whnf
  refine ⟨by simp, by simp, by simp; omega, by simp; omega, ?_⟩
  conv => whnf
  refine .inl ⟨Nat, fun i => cl.length - i, fun i => i ≤ cl.length, fun i => ⟨[(0, .one (.c (.d (.list 3 (cl.map r3))))), (3, .one (.c (.sl 0 0 3 0 cl.length (some cl.length)))), (4, .one (.c (vI i)))],
    [(0, .arr 3 ((cl.take i).map r3 ++ List.replicate (cl.length - i) [dI 0, dI 0, dI 0]))], _⟩, 0, Nat.zero_le _, weak_of ?_ ?_ rfl (Nat.zero_le _), fun i hi => ?_⟩
  · simp
  · (repeat' first | exact rfl | exact trivial | apply And.intro | (simp [getE]; done))
  conv => whnf
  repeat' first
    | (refine draw_mk (by kernel_rfl) ?_; conv => whnf)
    | (refine Br.mk (fun hb => ?_) (fun hb => ?_) <;> conv => whnf)
    | (refine El.mk (fun el hel => ?_); obtain ⟨k, a, b, hk, rfl⟩ := r3_get hel; conv => whnf)
    | (refine call_sn (by repeat' first | exact snapRow | exact rfl | exact trivial | apply And.intro | omega | (simp; done)) (toSquare_ok _ _ _) ?_; conv => whnf)
    | (refine callP_sn (by repeat' first | exact snapRow | exact rfl | exact trivial | apply And.intro | omega | (simp; done)) (toSquare_ok _ _ _) ?_; conv => whnf)
    | (refine And.intro (by first | decide | omega | (simp at *; omega) | (simp_all; done)) ?_; conv => whnf)
  · refine ⟨i + 1, ?_, ?_, weak_of ?_ ?_ rfl (Nat.zero_le _)⟩
    · simp at hb ⊢; omega
    · simp at hb ⊢; omega
    · have := fill_set (f := r3) (z := [dI 0, dI 0, dI 0]) (i := i) (by simpa using hk)
      simp only [Int.toNat_natCast, Nat.zero_add, List.length_cons, List.length_nil, List.take_succ_cons, List.take_zero]
      rw [← this]; rfl
    · have h1 : IntKind.i64.wrap ((i : Int) + 1) = ((i + 1 : Nat) : Int) := by
        simp at hb
        have := wrap_len (n := i + 1) (by omega)
        simpa using this
      simp [envOK, getE, h1]
  · simp at hb
    rw [fill_all (by omega)]
    exact res_row rfl (by simp) r3_flat

theorem szSquareS_ok (cl : List (Int × Int × Int)) (left : Int) (hn : cl.length ≤ maxLen) (hl : 0 ≤ left ∧ left ≤ 1048576) : Fn G.P 71 [.c (.list 3 (cl.map r3)), aI left] (.one (aI (if cl.length ≤ left then left - cl.length else -1))) := by
  have h1 : IntKind.i64.wrap (left - (cl.length : Int)) = left - cl.length := wrap_i64 _ (by simp [maxLen] at hn; omega) (by omega)
  refine fn_of_body (G := G) Try.func71 rfl (by decide) (Nat.le_of_ble_eq_true rfl) ?_
  conv => whnf
  repeat' first
    | (refine draw_mk (by kernel_rfl) ?_; conv => whnf)
    | (refine Br.mk (fun hb => ?_) (fun hb => ?_) <;> conv => whnf)
    | (refine And.intro (by first | decide | omega | (simp at *; omega) | (simp_all; done)) ?_; conv => whnf)
  all_goals first | (simp_all [resOK_iff, resVs, resCell, resCells, refVs, refCV, refCs]; done) | (simp_all [resOK_iff, resVs, resCell, resCells, refVs, refCV, refCs]; omega)

theorem szCut_ok (w h : Int) (cl : List (Int × Int × Int)) (left : Int) (hn : cl.length ≤ maxLen) (hl : 0 ≤ left ∧ left ≤ 1048576) : Fn G.P 53 [.agg (dCut w h cl), aI left] (.one (aI (if cl.length ≤ left then left - cl.length else -1))) := by
  refine fn_of_body (G := G) Try.func53 rfl (by decide) (Nat.le_of_ble_eq_true rfl) ?_
  conv => whnf
  repeat' first
    | (refine draw_mk (by kernel_rfl) ?_; conv => whnf)
    | (refine Br.mk (fun hb => ?_) (fun hb => ?_) <;> conv => whnf)
    | (refine call_sn (by repeat' first | exact snapRow | exact rfl | exact trivial | apply And.intro | omega | (simp; done)) (szSquareS_ok _ _ (by assumption) (by assumption)) ?_; conv => whnf)
    | (refine callP_sn (by repeat' first | exact snapRow | exact rfl | exact trivial | apply And.intro | omega | (simp; done)) (szSquareS_ok _ _ (by assumption) (by assumption)) ?_; conv => whnf)
    | (refine And.intro (by first | decide | omega | (simp at *; omega) | (simp_all; done)) ?_; conv => whnf)
  all_goals first | (simp_all [resOK_iff, resVs, resCell, resCells, refVs, refCV, refCs]; done) | (simp_all [resOK_iff, resVs, resCell, resCells, refVs, refCV, refCs]; omega)

theorem toCut_ok (w h : Int) (cl : List (Int × Int × Int)) (hn : cl.length ≤ 2 ^ 40) : Fn G.P 55 [.agg (dCut w h cl)] (.one (.agg (dCut w h cl))) := by
  refine fn_of_body (G := G) Try.func55 rfl (by decide) (Nat.le_of_ble_eq_true rfl) ?_
  conv => whnf
  repeat' first
    | (refine draw_mk (by kernel_rfl) ?_; conv => whnf)
    | (refine Br.mk (fun hb => ?_) (fun hb => ?_) <;> conv => whnf)
    | (refine call_sn (by repeat' first | exact snapRow | exact rfl | exact trivial | apply And.intro | omega | (simp; done)) (toSquareS_ok _ (by assumption)) ?_; conv => whnf)
    | (refine callP_sn (by repeat' first | exact snapRow | exact rfl | exact trivial | apply And.intro | omega | (simp; done)) (toSquareS_ok _ (by assumption)) ?_; conv => whnf)
    | (refine And.intro (by first | decide | omega | (simp at *; omega) | (simp_all; done)) ?_; conv => whnf)
  exact ⟨⟨⟨rfl, rfl, res_cell (by simp [objAt]) rfl r3_flat, trivial⟩, trivial⟩, by simp [refVs, refCs, refCV]⟩

theorem toDesk_ok (w h : Int) (cl : List (Int × Int × Int)) (v g : Int) (bl : List (Int × Int × Int)) (hn : cl.length ≤ 2 ^ 40) (hm : bl.length ≤ 2 ^ 40) : Fn G.P 26 [.agg (dDesk w h cl v g bl)] (.one (.agg (dDesk w h cl v g bl))) := by
  refine fn_of_body (G := G) Try.func26 rfl (by decide) (Nat.le_of_ble_eq_true rfl) ?_
  conv => whnf
  repeat' first
    | (refine draw_mk (by kernel_rfl) ?_; conv => whnf)
    | (refine Br.mk (fun hb => ?_) (fun hb => ?_) <;> conv => whnf)
    | (refine call_sn (by repeat' first | exact snapRow | exact rfl | exact trivial | apply And.intro | omega | (simp; done)) (toCut_ok _ _ _ (by assumption)) ?_; conv => whnf)
    | (refine callP_sn (by repeat' first | exact snapRow | exact rfl | exact trivial | apply And.intro | omega | (simp; done)) (toCut_ok _ _ _ (by assumption)) ?_; conv => whnf)
    | (refine And.intro (by first | decide | omega | (simp at *; omega) | (simp_all; done)) ?_; conv => whnf)
  exact ⟨⟨⟨rfl, rfl, res_cell (by simp [objAt]) rfl r3_flat, rfl, rfl, res_cell (by simp [objAt]) rfl r3_flat, trivial⟩, trivial⟩, by simp [refVs, refCs, refCV]⟩

theorem szDesk_ok (w h : Int) (cl : List (Int × Int × Int)) (v g : Int) (bl : List (Int × Int × Int)) (hn : cl.length ≤ maxLen) (hm : bl.length ≤ maxLen) : Fn G.P 24 [.agg (dDesk w h cl v g bl), aI 1048576]
    (.one (aI (if cl.length ≤ (1048576 : Int) then (if bl.length ≤ (1048576 : Int) - cl.length then 1048576 - cl.length - bl.length else -1) else -1))) := by
  have hl : (0 : Int) ≤ 1048576 ∧ (1048576 : Int) ≤ 1048576 := by omega
  refine fn_of_body (G := G) Try.func24 rfl (by decide) (Nat.le_of_ble_eq_true rfl) ?_
  conv => whnf
  repeat' first
    | (refine draw_mk (by kernel_rfl) ?_; conv => whnf)
    | (refine Br.mk (fun hb => ?_) (fun hb => ?_) <;> conv => whnf)
    | (refine call_sn (by repeat' first | exact snapRow | exact rfl | exact trivial | apply And.intro | omega | (simp; done)) (szCut_ok _ _ _ _ (by assumption) (by assumption)) ?_; conv => whnf)
    | (refine callP_sn (by repeat' first | exact snapRow | exact rfl | exact trivial | apply And.intro | omega | (simp; done)) (szCut_ok _ _ _ _ (by assumption) (by assumption)) ?_; conv => whnf)
    | (refine And.intro (by first | decide | omega | (simp at *; omega) | (simp_all; done)) ?_; conv => whnf)
  · split at hb
    · simp at hb; omega
    · rename_i hc
      rw [if_neg hc]
      exact ⟨⟨rfl, trivial⟩, by simp [refVs, refCV]⟩
  have hc : cl.length ≤ (1048576 : Int) := by
    rcases Decidable.em (cl.length ≤ (1048576 : Int)) with hc | hc
    · exact hc
    · rw [if_neg hc] at hb; simp at hb
  clear hb
  simp only [if_pos hc]
  have hl2 : (0 : Int) ≤ 1048576 - cl.length ∧ (1048576 : Int) - cl.length ≤ 1048576 := by omega
  repeat' first
    | (refine draw_mk (by kernel_rfl) ?_; conv => whnf)
    | (refine Br.mk (fun hb => ?_) (fun hb => ?_) <;> conv => whnf)
    | (refine call_sn (by repeat' first | exact snapRow | exact rfl | exact trivial | apply And.intro | omega | (simp; done)) (szCut_ok _ _ _ _ (by assumption) (by assumption)) ?_; conv => whnf)
    | (refine callP_sn (by repeat' first | exact snapRow | exact rfl | exact trivial | apply And.intro | omega | (simp; done)) (szCut_ok _ _ _ _ (by assumption) (by assumption)) ?_; conv => whnf)
    | (refine And.intro (by first | decide | omega | (simp at *; omega) | (simp_all; done)) ?_; conv => whnf)
  · split at hb
    · simp at hb; omega
    · rename_i hc2
      rw [if_neg hc2]
      exact ⟨⟨rfl, trivial⟩, by simp [refVs, refCV]⟩
  · exact ⟨⟨rfl, trivial⟩, by simp [refVs, refCV]⟩

end Go.Proofs.Ytkdnannepeoioaa

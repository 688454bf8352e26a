/- Filling by a list of sides: spec.CutOfFill. -/
import Derived.Test.YtmjaefnmianfpaaQCcof
import Derived.Test.YtmjaefnmianfpaaQMst
namespace Go.Proofs.Ytmjaefnmianfpaa
open Go Go.RowKit
set_option maxRecDepth 10000
set_option maxHeartbeats 2000000
set_option linter.unusedSimpArgs false

/-- What CutOfFill gives. -/
noncomputable def cofC (h : Int) (S : List Int) : (Int × Int × List S3) × Bool :=
  if 1 ≤ h ∧ h ≤ 4 ∧ 1 ≤ S.length ∧ S.length ≤ 30 then cofL h.toNat S else ((0, 0, []), false)

theorem pair_if (C z : (Int × Int × List S3) × Bool) : (if C.2 = true ∧ C.1.1 ≤ 30 then C else z) = if (C.2 && decide (C.1.1 ≤ 30)) = true then (C.1, C.2 && decide (C.1.1 ≤ 30)) else z := by
  obtain ⟨⟨a, b, c⟩, d⟩ := C
  cases d <;> by_cases h : a ≤ 30 <;> simp [h]

theorem cofL_stF {h : Nat} {S : List Int} : cofL h S = if (stF h S).2 = true then stF h S else ((0, 0, []), false) := by
  unfold cofL stF
  cases stA h S S.length with
  | none => rfl
  | some p => exact pair_if _ _

theorem specCof (h : Int) (S : List Int) (hi : ∀ s ∈ S, s ≤ 2 ^ 63 - 1 ∧ - 2 ^ 63 ≤ s) (hl : S.length ≤ 2 ^ 40) : Fn G.P 29 [aI h, .c (.list 1 (S.map r1))] (.tup [.agg (dCut (cofC h S).1.1 (cofC h S).1.2.1 (cofC h S).1.2.2), aB (cofC h S).2]) := by
  unfold cofC
  by_cases c : 1 ≤ h ∧ h ≤ 4 ∧ 1 ≤ S.length ∧ S.length ≤ 30
  · rw [if_pos c]
    obtain ⟨H, rfl⟩ : ∃ H : Nat, h = H := ⟨h.toNat, by omega⟩
    have hf := stFill_ok H S (by omega) (by omega) hi
    rw [Int.toNat_natCast, cofL_stF]
    generalize stF H S = C at hf
    obtain ⟨⟨cw, ch, cl⟩, cb⟩ := C
    cases cb
    all_goals
      refine fn_of_body (G := G) Try.func29 rfl (by decide) (Nat.le_of_ble_eq_true rfl) ?_
      conv => whnf
      repeat' first
        | exact True.intro
        | (refine draw_mkF ?_ ?_ ?_; (focus (decide +kernel)); (focus (kernel_rfl)); conv => whnf)
        | (refine Both.mk ?_ ?_ <;> conv => whnf)
        | (refine NilQ.mk (fun hnil => ?_) ?_ <;> conv => whnf)
        | (refine draw_mk (by kernel_rfl) ?_; conv => whnf)
        | (refine Br.mk (fun hb => ?_) (fun hb => ?_) <;> conv => whnf)
        | (refine call_sn ?_ (l1In_ok ?_ ?_ ?_) ?_; (focus ((repeat' first | exact snapRow | exact snap_row (by simp; done) | exact rfl | exact trivial | apply And.intro | omega | (simp; done)); done)); conv => whnf)
        | (refine callP_sn ?_ (l1In_ok ?_ ?_ ?_) ?_; (focus ((repeat' first | exact snapRow | exact snap_row (by simp; done) | exact rfl | exact trivial | apply And.intro | omega | (simp; done)); done)); conv => whnf)
        | (refine call_sn ?_ (hf) ?_; (focus ((repeat' first | exact snapRow | exact snap_row (by simp; done) | exact rfl | exact trivial | apply And.intro | omega | (simp; done)); done)); conv => whnf)
        | (refine callP_sn ?_ (hf) ?_; (focus ((repeat' first | exact snapRow | exact snap_row (by simp; done) | exact rfl | exact trivial | apply And.intro | omega | (simp; done)); done)); conv => whnf)
        | (refine And.intro ?_ ?_; (focus (first | decide | omega | (simp [contentOK, objRd, objAt, peel, List.length_map]; done) | (simp [contentOK, objRd, objAt, peel, List.length_map]; omega) | (simp [contentOK, objRd, objAt, peel, List.length_map] at *; omega))); conv => whnf)
      all_goals first
        | (simp [resOK_iff, resVs, resCell, resCells, refVs, refCV, refCs, dCut]; done)
        | exact ⟨⟨⟨rfl, rfl, res_cell (by simp [objAt]) (by simp) r3_flat, trivial⟩, rfl, trivial⟩, by simp [refVs, refCV, refCs]⟩
        | (exfalso; simp_all [inB]; done)
        | (exfalso; simp_all [inB]; omega)
  · rw [if_neg c]
    have c' : inB h 1 4 = false ∨ inB (S.length : Int) 1 30 = false := by
      by_cases g : inB h 1 4 = true
      · refine .inr ?_
        simp only [inB, decide_eq_true_eq, decide_eq_false_iff_not] at g ⊢
        omega
      · exact .inl (by simpa using g)
    clear c
    rcases c' with c' | c'
    all_goals
      refine fn_of_body (G := G) Try.func29 rfl (by decide) (Nat.le_of_ble_eq_true rfl) ?_
      conv => whnf
      repeat' first
        | exact True.intro
        | (refine draw_mkF ?_ ?_ ?_; (focus (decide +kernel)); (focus (kernel_rfl)); conv => whnf)
        | (refine Both.mk ?_ ?_ <;> conv => whnf)
        | (refine NilQ.mk (fun hnil => ?_) ?_ <;> conv => whnf)
        | (refine draw_mk (by kernel_rfl) ?_; conv => whnf)
        | (refine Br.mk (fun hb => ?_) (fun hb => ?_) <;> conv => whnf)
        | (refine call_sn ?_ (l1In_ok ?_ ?_ ?_) ?_; (focus ((repeat' first | exact snapRow | exact snap_row (by simp; done) | exact rfl | exact trivial | apply And.intro | omega | (simp; done)); done)); conv => whnf)
        | (refine callP_sn ?_ (l1In_ok ?_ ?_ ?_) ?_; (focus ((repeat' first | exact snapRow | exact snap_row (by simp; done) | exact rfl | exact trivial | apply And.intro | omega | (simp; done)); done)); conv => whnf)
        | (refine And.intro ?_ ?_; (focus (first | decide | omega | (simp [contentOK, objRd, objAt, peel, List.length_map]; done) | (simp [contentOK, objRd, objAt, peel, List.length_map]; omega) | (simp [contentOK, objRd, objAt, peel, List.length_map] at *; omega))); conv => whnf)
      all_goals first
        | (simp [resOK_iff, resVs, resCell, resCells, refVs, refCV, refCs, dCut]; done)
        | (exfalso; simp_all; done)

end Go.Proofs.Ytmjaefnmianfpaa

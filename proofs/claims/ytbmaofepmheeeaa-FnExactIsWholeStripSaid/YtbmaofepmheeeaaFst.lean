/- Strips without squares of a side: the program's function. -/
import Derived.Test.YtbmaofepmheeeaaEst
namespace Go.Proofs.Ytbmaofepmheeeaa
open Go Go.RowKit
set_option maxRecDepth 10000
set_option linter.unusedSimpArgs false

/-- Heights and lengths of strips. -/
def stripB (h l : Int) : Bool := inB h 1 4 && inB l 1 30

theorem strip_nat {h l : Int} (hb : stripB h l = true) : ∃ a b : Nat, h = a ∧ l = b ∧ 1 ≤ a ∧ a < 5 ∧ 1 ≤ b ∧ b ≤ 30 := by
  simp only [stripB, inB, Bool.and_eq_true, decide_eq_true_eq] at hb
  exact ⟨h.toNat, l.toNat, by omega, by omega, by omega, by omega, by omega, by omega⟩

theorem isStripSize_ok (h l : Int) : Fn G.P 46 [aI h, aI l] (.one (aB (stripB h l))) := by
  refine fn_of_body (G := G) Try.func46 rfl (by decide) (Nat.le_of_ble_eq_true rfl) ?_
  conv => whnf
  repeat' first
    | (refine draw_mk (by kernel_rfl) ?_; conv => whnf)
    | (refine Br.mk (fun hb => ?_) (fun hb => ?_) <;> conv => whnf)
    | (refine call_sn ?_ (within_ok ?_ ?_ ?_) ?_; (focus ((repeat' first | exact snapRow | exact snap_row (by simp; done) | exact rfl | exact trivial | apply And.intro | omega | (simp; done)); done)); conv => whnf)
    | (refine callP_sn ?_ (within_ok ?_ ?_ ?_) ?_; (focus ((repeat' first | exact snapRow | exact snap_row (by simp; done) | exact rfl | exact trivial | apply And.intro | omega | (simp; done)); done)); conv => whnf)
    | (refine And.intro ?_ ?_; (focus (first | decide | omega | (simp at *; omega) | (simp_all; done))); conv => whnf)
  all_goals first | (simp_all [resOK_iff, resVs, resCell, resCells, refVs, refCV, refCs, stripB]; done) | (simp_all [resOK_iff, resVs, resCell, resCells, refVs, refCV, refCs, stripB]; omega)

theorem at_start {h l : Nat} (hh : 1 ≤ h ∧ h < 5) : At h l 0 0 [0, 0, 0, 0] := by
  have hg : ∀ i, [0, 0, 0, 0].getD i 0 = 0 := by
    intro i
    match i with
    | 0 => rfl
    | 1 => rfl
    | 2 => rfl
    | 3 => rfl
    | i + 4 => rfl
  refine ⟨fun i hi => by rw [hg]; simp [dg], Nat.pow_pos (by omega), ?_, fun i hi => by rw [hg]; omega, fun i => by rw [hg]; omega⟩
  have hc : h = 1 ∨ h = 2 ∨ h = 3 ∨ h = 4 := by omega
  rcases hc with rfl | rfl | rfl | rfl <;> decide

theorem isSide_ok (s : Int) : Fn G.P 65 [aI s] (.one (aB (inB s 1 4))) := by
  refine fn_of_body (G := G) Try.func65 rfl (by decide) (Nat.le_of_ble_eq_true rfl) ?_
  conv => whnf
  repeat' first
    | (refine draw_mk (by kernel_rfl) ?_; conv => whnf)
    | (refine Br.mk (fun hb => ?_) (fun hb => ?_) <;> conv => whnf)
    | (refine call_sn ?_ (within_ok ?_ ?_ ?_) ?_; (focus ((repeat' first | exact snapRow | exact snap_row (by simp; done) | exact rfl | exact trivial | apply And.intro | omega | (simp; done)); done)); conv => whnf)
    | (refine callP_sn ?_ (within_ok ?_ ?_ ?_) ?_; (focus ((repeat' first | exact snapRow | exact snap_row (by simp; done) | exact rfl | exact trivial | apply And.intro | omega | (simp; done)); done)); conv => whnf)
    | (refine And.intro ?_ ?_; (focus (first | decide | omega | (simp at *; omega) | (simp_all; done))); conv => whnf)
  all_goals first | (simp_all [resOK_iff, resVs, resCell, resCells, refVs, refCV, refCs]; done) | (simp_all [resOK_iff, resVs, resCell, resCells, refVs, refCV, refCs]; omega)

end Go.Proofs.Ytbmaofepmheeeaa

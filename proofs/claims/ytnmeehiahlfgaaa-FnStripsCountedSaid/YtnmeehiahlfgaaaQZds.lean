/- The law on all counts of strips, drawn from any bytes. -/
import Derived.Test.YtnmeehiahlfgaaaQZdr
namespace Go.Proofs.Ytnmeehiahlfgaaa
open Go Go.RowKit
set_option maxRecDepth 10000
set_option maxHeartbeats 2000000
set_option linter.unusedSimpArgs false

theorem drawnLaw (x : DC) (hx : DCok (.slice [.int .u8]) x) (y : DC) (hy : DCok (.slice [.int .u8]) y) : Fn G.P 3 [.c x, .c y] (.one (aB true)) := by
  obtain ⟨D, rfl, hD, hDb⟩ := bytes_of hx
  obtain ⟨E, rfl, hE, hEb⟩ := bytes_of hy
  by_cases hbig : (D.length : Int) ≤ 1048576 ∧ (E.length : Int) ≤ 1048576 - (D.length : Int)
  · exact drawn_ok D E (by omega) hDb (by omega) hEb hbig
  · have hw : (D.length : Int) ≤ 1048576 → IntKind.i64.wrap (1048576 - (D.length : Int)) = 1048576 - (D.length : Int) := fun h => wrap_i64 _ (by omega) (by omega)
    rcases (show ¬ (D.length : Int) ≤ 1048576 ∨ ((D.length : Int) ≤ 1048576 ∧ ¬ (E.length : Int) ≤ 1048576 - (D.length : Int)) by omega) with g | ⟨g1, g2⟩
    · skip
      refine fn_of_body (G := G) Try.func3 rfl (by decide) (Nat.le_of_ble_eq_true rfl) ?_
      conv => whnf
      repeat' first
        | exact True.intro
        | (refine Both.mk ?_ ?_ <;> conv => whnf)
        | (refine NilQ.mk (fun hnil => ?_) ?_ <;> conv => whnf)
        | (refine Br.mk (fun hb => (by exfalso; first | (simp [List.length_map, g] at hb; done) | (simp [List.length_map, g] at hb; omega))) (fun hb => ?_); clear hb; conv => whnf)
        | (refine Br.mk (fun hb => ?_) (fun hb => (by exfalso; first | (simp [List.length_map, g] at hb; done) | (simp [List.length_map, g] at hb; omega))); clear hb; conv => whnf)
        | (refine Br.mk (fun hb => ?_) (fun hb => ?_) <;> conv => whnf)
        | (refine call_body (G := G) Try.func4 rfl (by decide) (Nat.le_of_ble_eq_true rfl) ?_; conv => whnf)
        | (refine callP_text (call_body (G := G) Try.func4 rfl (by decide) (Nat.le_of_ble_eq_true rfl) ?_); conv => whnf)
        | (refine And.intro ?_ ?_; (focus (first | decide | omega | (simp [contentOK, objRd, objAt, peel, List.length_map]; done) | (simp [contentOK, objRd, objAt, peel, List.length_map]; omega) | (simp [contentOK, objRd, objAt, peel, List.length_map] at *; omega))); conv => whnf)
      exact ⟨⟨rfl, trivial⟩, by simp [refVs, refCV]⟩
    · have hw := hw g1
      refine fn_of_body (G := G) Try.func3 rfl (by decide) (Nat.le_of_ble_eq_true rfl) ?_
      conv => whnf
      repeat' first
        | exact True.intro
        | (refine Both.mk ?_ ?_ <;> conv => whnf)
        | (refine NilQ.mk (fun hnil => ?_) ?_ <;> conv => whnf)
        | (refine Br.mk (fun hb => (by exfalso; first | (simp [List.length_map, hw, g1, g2] at hb; done) | (simp [List.length_map, hw, g1, g2] at hb; omega))) (fun hb => ?_); clear hb; conv => whnf)
        | (refine Br.mk (fun hb => ?_) (fun hb => (by exfalso; first | (simp [List.length_map, hw, g1, g2] at hb; done) | (simp [List.length_map, hw, g1, g2] at hb; omega))); clear hb; conv => whnf)
        | (refine Br.mk (fun hb => ?_) (fun hb => ?_) <;> conv => whnf)
        | (refine call_body (G := G) Try.func4 rfl (by decide) (Nat.le_of_ble_eq_true rfl) ?_; conv => whnf)
        | (refine callP_text (call_body (G := G) Try.func4 rfl (by decide) (Nat.le_of_ble_eq_true rfl) ?_); conv => whnf)
        | (refine And.intro ?_ ?_; (focus (first | decide | omega | (simp [contentOK, objRd, objAt, peel, List.length_map]; done) | (simp [contentOK, objRd, objAt, peel, List.length_map]; omega) | (simp [contentOK, objRd, objAt, peel, List.length_map] at *; omega))); conv => whnf)
      exact ⟨⟨rfl, trivial⟩, by simp [refVs, refCV]⟩

end Go.Proofs.Ytnmeehiahlfgaaa

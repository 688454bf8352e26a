/- Clues cloned. -/
import Derived.Test.YtbmaofepmheeeaaMarkh
import Derived.Test.YtbmaofepmheeeaaCclue
import Derived.Test.YtbmaofepmheeeaaKv
namespace Go.Proofs.Ytbmaofepmheeeaa
open Go Go.RowKit
set_option maxRecDepth 10000
set_option linter.unusedSimpArgs false

theorem cloneClues_ok (xs : List (Int × Int × Int)) (hl : xs.length ≤ 2 ^ 20) : Fn G.P 73 [.c (.list 3 (xs.map r3))] (.one (.c (.list 3 (xs.map r3)))) := by
  refine fn_of_body (G := G) Try.func73 rfl (by decide) (Nat.le_of_ble_eq_true rfl) ?_
  conv => whnf
  repeat' first
    | exact True.intro
    | (refine draw_mkF ?_ ?_ ?_; (focus (decide +kernel)); (focus (kernel_rfl)); conv => whnf)
    | (refine Both.mk ?_ ?_ <;> conv => whnf)
    | (refine NilQ.mk (fun hnil => ?_) ?_ <;> conv => whnf)
    | (refine draw_mk (by kernel_rfl) ?_; conv => whnf)
    | (refine Br.mk (fun hb => ?_) (fun hb => ?_) <;> conv => whnf)
    | (refine And.intro ?_ ?_; (focus (first | decide | omega | (simp [contentOK, objRd, objAt, peel, List.length_map]; done) | (simp [contentOK, objRd, objAt, peel, List.length_map]; omega) | (simp [contentOK, objRd, objAt, peel, List.length_map] at *; omega))); conv => whnf)
  · obtain rfl : xs = [] := by simpa using hnil
    exact ⟨⟨rfl, trivial⟩, by simp [refVs, refCV]⟩
  · simp only [List.replicate_zero, List.drop_nil, List.take_nil, List.nil_append, Nat.zero_add]
    exact res_row rfl (by simp) r3_flat

end Go.Proofs.Ytbmaofepmheeeaa

/- Rows of three numbers of one's own that a law marks, and looks at again. -/
import Derived.Test.YtmfdkjjhdjkgpaaQZe
import Derived.Test.YtmfdkjjhdjkgpaaQT
namespace Go.Proofs.Ytmfdkjjhdjkgpaa
open Go Go.RowKit
set_option maxRecDepth 10000
set_option linter.unusedSimpArgs false

theorem mk3_succ (k : Int) (i : Nat) : mk3 k (i + 1) = mk3 k i ++ [(k + 3 * (i : Int), k + 3 * (i : Int) + 1, k + 3 * (i : Int) + 2)] := by
  simp [mk3, List.range_succ]

theorem mk3_len (k : Int) (n : Nat) : (mk3 k n).length = n := by simp [mk3]

theorem mark_set {k : Int} {i : Nat} {xs : List (Int × Int × Int)} {y : Int × Int × Int} (hi : i < xs.length) : ((mk3 k i ++ xs.drop i).map r3).set i (r3 y) = ((mk3 k i ++ [y]) ++ xs.drop (i + 1)).map r3 := by
  rw [← List.map_set, List.set_append_right _ _ (by rw [mk3_len]; omega), mk3_len, Nat.sub_self, List.drop_eq_getElem_cons hi, List.set_cons_zero]
  simp

theorem markSquareS_min {cap : Option Nat} {xs : List (Int × Int × Int)} {k : Int} (hl : xs.length ≤ 2 ^ 40) (hk : 0 ≤ k ∧ k ≤ 2 ^ 40) :
    CallX G.P 48 [.c (.sl 0 0 3 0 xs.length cap), .c (vI k)] [(0, .arr 3 (xs.map r3))] (fun sv objs' => sv = .one (.c (vI (k + 3 * xs.length))) ∧ ∃ gs, objs' = (0, .arr 3 ((mk3 k xs.length).map r3)) :: gs) := by
  refine call_body (G := G) Try.func48 rfl (by decide) (Nat.le_of_ble_eq_true rfl) ?_
  conv => whnf
  refine .inl ⟨Nat, fun i => xs.length - i, fun i => i ≤ xs.length, fun i => ⟨[(0, .one (.c (.sl 0 0 3 0 xs.length cap))), (1, .one (.c (vI (k + 3 * (i : Int))))), (5, .one (.c (vI i)))],
    [(0, .arr 3 ((mk3 k i ++ xs.drop i).map r3))], _⟩, 0, Nat.zero_le _, weak_same ?_ ?_, fun i hi => ?_⟩
  · simp [mk3]
  · simp [envOK, getE, envOf]
  have hml := mk3_len k i
  have hi' : i ≤ xs.length := hi
  conv => whnf
  repeat' first
    | exact True.intro
    | (refine draw_mkF ?_ ?_ ?_; (focus (decide +kernel)); (focus (kernel_rfl)); conv => whnf)
    | (refine Both.mk ?_ ?_ <;> conv => whnf)
    | (refine OwnQ.own ?_; conv => whnf)
    | (refine NilQ.mk (fun hnil => ?_) ?_ <;> conv => whnf)
    | (refine draw_mk (by kernel_rfl) ?_; conv => whnf)
    | (refine Br.mk (fun hb => ?_) (fun hb => ?_) <;> conv => whnf)
    | (refine El.mk (fun el hel => ?_); obtain rfl := set_get hel; conv => whnf)
    | (refine El.mk (fun el hel => ?_); obtain ⟨a, b, c, hk, rfl⟩ := r3_get hel; conv => whnf)
    | (refine And.intro ?_ ?_; (focus (first | decide | omega | (simp at *; omega) | (simp_all; done))); conv => whnf)
  · simp only [decide_eq_true_eq] at hb
    have hlt : i < xs.length := by omega
    have w1 : IntKind.i64.wrap (k + 3 * (i : Int) + 1) = k + 3 * (i : Int) + 1 := wrap_i64 _ (by omega) (by omega)
    have w2 : IntKind.i64.wrap (k + 3 * (i : Int) + 1 + 1) = k + 3 * (i : Int) + 2 := by rw [wrap_i64 _ (by omega) (by omega)]; omega
    have w3 : IntKind.i64.wrap (k + 3 * (i : Int) + 2 + 1) = k + 3 * (i : Int) + 3 := by rw [wrap_i64 _ (by omega) (by omega)]; omega
    have w4 : IntKind.i64.wrap ((i : Int) + 1) = ((i + 1 : Nat) : Int) := by rw [wrap_i64 _ (by omega) (by omega)]; omega
    refine ⟨i + 1, by omega, by simp; omega, weak_same ?_ ?_⟩
    · rw [w1, w2, mk3_succ, ← mark_set hlt]
      simp only [List.set_set, Int.toNat_natCast, Nat.zero_add]
      rfl
    · rw [w1, w2, w3, w4]
      simp [envOK, getE]
      omega
  · simp only [decide_eq_false_iff_not] at hb
    have : i = xs.length := by omega
    subst this
    exact ⟨[], by simp⟩

end Go.Proofs.Ytmfdkjjhdjkgpaa

namespace Go.Proofs.Ytmfdkjjhdjkgpaa
open Go Go.RowKit
set_option maxRecDepth 10000
set_option linter.unusedSimpArgs false

theorem mk3_get {k : Int} {n j : Nat} {x : List DC} (h : ((mk3 k n).map r3)[j]? = some x) : x = [dI (k + 3 * (j : Int)), dI (k + 3 * (j : Int) + 1), dI (k + 3 * (j : Int) + 2)] := by
  simp only [mk3, List.getElem?_map, Option.map_eq_some_iff] at h
  obtain ⟨y, ⟨z, h1, rfl⟩, rfl⟩ := h
  obtain ⟨hj, h1⟩ := List.getElem?_eq_some_iff.1 h1
  simp at h1
  subst h1
  rfl

end Go.Proofs.Ytmfdkjjhdjkgpaa

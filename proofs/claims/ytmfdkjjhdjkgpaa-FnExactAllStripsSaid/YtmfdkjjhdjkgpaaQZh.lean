/- Rows of three numbers of one's own that a law marks, and looks at again. -/
import Derived.Test.YtmfdkjjhdjkgpaaQZe
import Derived.Test.YtmfdkjjhdjkgpaaQT
namespace Go.Proofs.Ytmfdkjjhdjkgpaa
open Go Go.RowKit
set_option maxRecDepth 10000
set_option linter.unusedSimpArgs false

theorem mk3_succ (k : Int) (i : Nat) : mk3 k (i + 1) = mk3 k i ++ [(k + 3 * (i : Int), k + 3 * (i : Int) + 1, k + 3 * (i : Int) + 2)] := by
  simp [mk3, List.range_succ]

theorem mk3_len (k : Int) (n : Nat) : (mk3 k n).length = n := by simp [mk3]

theorem mark_set {k : Int} {i : Nat} {xs : List (Int × Int × Int)} {y : Int × Int × Int} (hi : i < xs.length) : ((mk3 k i ++ xs.drop i).map r3).set i (r3 y) = ((mk3 k i ++ [y]) ++ xs.drop (i + 1)).map r3 := by
  rw [← List.map_set, List.set_append_right _ _ (by rw [mk3_len]; omega), mk3_len, Nat.sub_self, List.drop_eq_getElem_cons hi, List.set_cons_zero]
  simp

end Go.Proofs.Ytmfdkjjhdjkgpaa

namespace Go.Proofs.Ytmfdkjjhdjkgpaa
open Go Go.RowKit
set_option maxRecDepth 10000
set_option linter.unusedSimpArgs false

theorem mk3_get {k : Int} {n j : Nat} {x : List DC} (h : ((mk3 k n).map r3)[j]? = some x) : x = [dI (k + 3 * (j : Int)), dI (k + 3 * (j : Int) + 1), dI (k + 3 * (j : Int) + 2)] := by
  simp only [mk3, List.getElem?_map, Option.map_eq_some_iff] at h
  obtain ⟨y, ⟨z, h1, rfl⟩, rfl⟩ := h
  obtain ⟨hj, h1⟩ := List.getElem?_eq_some_iff.1 h1
  simp at h1
  subst h1
  rfl

theorem heldSquareS_ok (n : Nat) (k : Int) (hn : n ≤ 2 ^ 40) (hk : 0 ≤ k ∧ k ≤ 2 ^ 40) : Fn G.P 49 [.c (.list 3 ((mk3 k n).map r3)), aI k] (.one (aI (k + 3 * n))) := by
  refine fn_of_body (G := G) Try.func49 rfl (by decide) (Nat.le_of_ble_eq_true rfl) ?_
  conv => whnf
  refine .inl ⟨Nat, fun i => n - i, fun i => i ≤ n, fun i => ⟨[(0, .one (.c (.d (.list 3 ((mk3 k n).map r3))))), (1, .one (.c (vI (k + 3 * (i : Int))))), (5, .one (.c (vI i)))], [], _⟩, 0, Nat.zero_le _, weak_same rfl ?_, fun i hi => ?_⟩
  · simp [envOK, getE, envOf, DV.toV1, cvOf, constCV]
  have hml := mk3_len k n
  have hi' : i ≤ n := hi
  have w1 : IntKind.i64.wrap (k + 3 * (i : Int) + 1) = k + 3 * (i : Int) + 1 := wrap_i64 _ (by omega) (by omega)
  have w2 : IntKind.i64.wrap (k + 3 * (i : Int) + 1 + 1) = k + 3 * (i : Int) + 2 := by rw [wrap_i64 _ (by omega) (by omega)]; omega
  have w3 : IntKind.i64.wrap (k + 3 * (i : Int) + 2 + 1) = k + 3 * (i : Int) + 3 := by rw [wrap_i64 _ (by omega) (by omega)]; omega
  have w4 : IntKind.i64.wrap ((i : Int) + 1) = ((i + 1 : Nat) : Int) := by rw [wrap_i64 _ (by omega) (by omega)]; omega
  conv => whnf
  repeat' first
    | exact True.intro
    | (refine draw_mkF ?_ ?_ ?_; (focus (decide +kernel)); (focus (kernel_rfl)); conv => whnf)
    | (refine Both.mk ?_ ?_ <;> conv => whnf)
    | (refine OwnQ.own ?_; conv => whnf)
    | (refine NilQ.mk (fun hnil => ?_) ?_ <;> conv => whnf)
    | (refine draw_mk (by kernel_rfl) ?_; conv => whnf)
    | (refine Br.mk (fun hb => ?_) (fun hb => ?_) <;> conv => whnf)
    | (refine El.mk (fun el hel => ?_); obtain rfl := mk3_get hel; conv => whnf)
    | (refine And.intro ?_ ?_; (focus (first | decide | omega | (simp at *; omega) | (simp_all; done))); conv => whnf)
  · exact absurd hb (by rw [Int.toNat_natCast]; simp)
  · exact absurd hb (by rw [Int.toNat_natCast, w1]; simp)
  · exact absurd hb (by rw [Int.toNat_natCast, w1, w2]; simp)
  · rename_i hlt _ _ _ _
    simp only [decide_eq_true_eq, List.length_map, hml] at hlt
    refine ⟨i + 1, by omega, by simp; omega, weak_same rfl ?_⟩
    rw [w1, w2, w3, w4]
    simp [envOK, getE]
    omega
  · simp only [decide_eq_false_iff_not, List.length_map, hml] at hb
    obtain rfl : i = n := by omega
    exact ⟨⟨rfl, trivial⟩, by simp [refVs, refCV]⟩

end Go.Proofs.Ytmfdkjjhdjkgpaa

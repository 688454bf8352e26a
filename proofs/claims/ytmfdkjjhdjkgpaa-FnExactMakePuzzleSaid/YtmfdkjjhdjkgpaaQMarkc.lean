/- Clues that a law marks, and looks at again. -/
import Derived.Test.YtmfdkjjhdjkgpaaQZh
import Derived.Test.YtmfdkjjhdjkgpaaQCclue
import Derived.Test.YtmfdkjjhdjkgpaaQZf
namespace Go.Proofs.Ytmfdkjjhdjkgpaa
open Go Go.RowKit
set_option maxRecDepth 10000
set_option linter.unusedSimpArgs false

theorem markClueS_min {cap : Option Nat} {xs : List (Int × Int × Int)} {k : Int} (hl : xs.length ≤ 2 ^ 40) (hk : 0 ≤ k ∧ k ≤ 2 ^ 40) :
    CallX G.P 68 [.c (.sl 0 0 3 0 xs.length cap), .c (vI k)] [(0, .arr 3 (xs.map r3))] (fun sv objs' => sv = .one (.c (vI (k + 3 * xs.length))) ∧ ∃ gs, objs' = (0, .arr 3 ((mk3 k xs.length).map r3)) :: gs) := by
  refine call_body (G := G) Try.func68 rfl (by decide) (Nat.le_of_ble_eq_true rfl) ?_
  conv => whnf
  refine .inl ⟨Nat, fun i => xs.length - i, fun i => i ≤ xs.length, fun i => ⟨[(0, .one (.c (.sl 0 0 3 0 xs.length cap))), (1, .one (.c (vI (k + 3 * (i : Int))))), (5, .one (.c (vI i)))],
    [(0, .arr 3 ((mk3 k i ++ xs.drop i).map r3))], _⟩, 0, Nat.zero_le _, weak_same ?_ ?_, fun i hi => ?_⟩
  · simp [mk3]
  · simp [envOK, getE, envOf]
  have hml := mk3_len k i
  have hi' : i ≤ xs.length := hi
  conv => whnf
  repeat' first
    | exact True.intro
    | (refine draw_mkF ?_ ?_ ?_; (focus (decide +kernel)); (focus (kernel_rfl)); conv => whnf)
    | (refine Both.mk ?_ ?_ <;> conv => whnf)
    | (refine OwnQ.own ?_; conv => whnf)
    | (refine NilQ.mk (fun hnil => ?_) ?_ <;> conv => whnf)
    | (refine draw_mk (by kernel_rfl) ?_; conv => whnf)
    | (refine Br.mk (fun hb => ?_) (fun hb => ?_) <;> conv => whnf)
    | (refine El.mk (fun el hel => ?_); obtain rfl := set_get hel; conv => whnf)
    | (refine El.mk (fun el hel => ?_); obtain ⟨a, b, c, hk, rfl⟩ := r3_get hel; conv => whnf)
    | (refine And.intro ?_ ?_; (focus (first | decide | omega | (simp at *; omega) | (simp_all; done))); conv => whnf)
  · simp only [decide_eq_true_eq] at hb
    have hlt : i < xs.length := by omega
    have w1 : IntKind.i64.wrap (k + 3 * (i : Int) + 1) = k + 3 * (i : Int) + 1 := wrap_i64 _ (by omega) (by omega)
    have w2 : IntKind.i64.wrap (k + 3 * (i : Int) + 1 + 1) = k + 3 * (i : Int) + 2 := by rw [wrap_i64 _ (by omega) (by omega)]; omega
    have w3 : IntKind.i64.wrap (k + 3 * (i : Int) + 2 + 1) = k + 3 * (i : Int) + 3 := by rw [wrap_i64 _ (by omega) (by omega)]; omega
    have w4 : IntKind.i64.wrap ((i : Int) + 1) = ((i + 1 : Nat) : Int) := by rw [wrap_i64 _ (by omega) (by omega)]; omega
    refine ⟨i + 1, by omega, by simp; omega, weak_same ?_ ?_⟩
    · rw [w1, w2, mk3_succ, ← mark_set hlt]
      simp only [List.set_set, Int.toNat_natCast, Nat.zero_add]
      rfl
    · rw [w1, w2, w3, w4]
      simp [envOK, getE]
      omega
  · simp only [decide_eq_false_iff_not] at hb
    have : i = xs.length := by omega
    subst this
    exact ⟨[], by simp⟩

theorem heldClueS_ok (n : Nat) (k : Int) (hn : n ≤ 2 ^ 40) (hk : 0 ≤ k ∧ k ≤ 2 ^ 40) : Fn G.P 69 [.c (.list 3 ((mk3 k n).map r3)), aI k] (.one (aI (k + 3 * n))) := by
  refine fn_of_body (G := G) Try.func69 rfl (by decide) (Nat.le_of_ble_eq_true rfl) ?_
  conv => whnf
  refine .inl ⟨Nat, fun i => n - i, fun i => i ≤ n, fun i => ⟨[(0, .one (.c (.d (.list 3 ((mk3 k n).map r3))))), (1, .one (.c (vI (k + 3 * (i : Int))))), (5, .one (.c (vI i)))], [], _⟩, 0, Nat.zero_le _, weak_same rfl ?_, fun i hi => ?_⟩
  · simp [envOK, getE, envOf, DV.toV1, cvOf, constCV]
  have hml := mk3_len k n
  have hi' : i ≤ n := hi
  have w1 : IntKind.i64.wrap (k + 3 * (i : Int) + 1) = k + 3 * (i : Int) + 1 := wrap_i64 _ (by omega) (by omega)
  have w2 : IntKind.i64.wrap (k + 3 * (i : Int) + 1 + 1) = k + 3 * (i : Int) + 2 := by rw [wrap_i64 _ (by omega) (by omega)]; omega
  have w3 : IntKind.i64.wrap (k + 3 * (i : Int) + 2 + 1) = k + 3 * (i : Int) + 3 := by rw [wrap_i64 _ (by omega) (by omega)]; omega
  have w4 : IntKind.i64.wrap ((i : Int) + 1) = ((i + 1 : Nat) : Int) := by rw [wrap_i64 _ (by omega) (by omega)]; omega
  conv => whnf
  repeat' first
    | exact True.intro
    | (refine draw_mkF ?_ ?_ ?_; (focus (decide +kernel)); (focus (kernel_rfl)); conv => whnf)
    | (refine Both.mk ?_ ?_ <;> conv => whnf)
    | (refine OwnQ.own ?_; conv => whnf)
    | (refine NilQ.mk (fun hnil => ?_) ?_ <;> conv => whnf)
    | (refine draw_mk (by kernel_rfl) ?_; conv => whnf)
    | (refine Br.mk (fun hb => ?_) (fun hb => ?_) <;> conv => whnf)
    | (refine El.mk (fun el hel => ?_); obtain rfl := mk3_get hel; conv => whnf)
    | (refine And.intro ?_ ?_; (focus (first | decide | omega | (simp at *; omega) | (simp_all; done))); conv => whnf)
  · exact absurd hb (by rw [Int.toNat_natCast]; simp)
  · exact absurd hb (by rw [Int.toNat_natCast, w1]; simp)
  · exact absurd hb (by rw [Int.toNat_natCast, w1, w2]; simp)
  · rename_i hlt _ _ _ _
    simp only [decide_eq_true_eq, List.length_map, hml] at hlt
    refine ⟨i + 1, by omega, by simp; omega, weak_same rfl ?_⟩
    rw [w1, w2, w3, w4]
    simp [envOK, getE]
    omega
  · simp only [decide_eq_false_iff_not, List.length_map, hml] at hb
    obtain rfl : i = n := by omega
    exact ⟨⟨rfl, trivial⟩, by simp [refVs, refCV]⟩

/-- A puzzle that lies in a memory of its own is marked. -/
theorem markPuzzle_min {cap : Option Nat} {xs : List (Int × Int × Int)} {w h k : Int} (hl : xs.length ≤ 2 ^ 40) (hk : 0 ≤ k ∧ k ≤ 2 ^ 40) :
    CallX G.P 26 [.agg [.d (dI w), .d (dI h), .sl 0 0 3 0 xs.length cap], .c (vI k)] [(0, .arr 3 (xs.map r3))] (fun sv objs' => sv = .one (.c (vI (k + 3 * xs.length))) ∧ ∃ gs, objs' = (0, .arr 3 ((mk3 k xs.length).map r3)) :: gs) := by
  refine call_body (G := G) Try.func26 rfl (by decide) (Nat.le_of_ble_eq_true rfl) ?_
  conv => whnf
  refine frameN [0] (markClueS_min (cap := cap) hl hk) rfl (by decide) ⟨rfl, rfl⟩ rfl ?_
  rintro _ _ ⟨rfl, gs, rfl⟩
  refine ⟨[_], gs, rfl, Nat.le_refl _, rfl, ?_⟩
  conv => whnf
  exact ⟨rfl, _, rfl⟩

theorem heldPuzzle_ok (w h : Int) (n : Nat) (k : Int) (hn : n ≤ 2 ^ 30) (hk : 0 ≤ k ∧ k ≤ 2 ^ 30) : Fn G.P 27 [.agg [dI w, dI h, .list 3 ((mk3 k n).map r3)], aI k] (.one (aI (k + 3 * n))) := by
  have hh := heldClueS_ok n k (by omega) (by omega)
  refine fn_of_body (G := G) Try.func27 rfl (by decide) (Nat.le_of_ble_eq_true rfl) ?_
  conv => whnf
  repeat' first
    | exact True.intro
    | (refine draw_mkF ?_ ?_ ?_; (focus (decide +kernel)); (focus (kernel_rfl)); conv => whnf)
    | (refine Both.mk ?_ ?_ <;> conv => whnf)
    | (refine OwnQ.own ?_; conv => whnf)
    | (refine NilQ.mk (fun hnil => ?_) ?_ <;> conv => whnf)
    | (refine draw_mk (by kernel_rfl) ?_; conv => whnf)
    | (refine Br.mk (fun hb => ?_) (fun hb => ?_) <;> conv => whnf)
    | (refine call_sn ?_ (hh) ?_; (focus ((repeat' first | exact snapRow | exact snap_row (by simp; done) | exact rfl | exact trivial | apply And.intro | omega | (simp; done)); done)); conv => whnf)
    | (refine callP_sn ?_ (hh) ?_; (focus ((repeat' first | exact snapRow | exact snap_row (by simp; done) | exact rfl | exact trivial | apply And.intro | omega | (simp; done)); done)); conv => whnf)
    | (refine And.intro ?_ ?_; (focus (first | decide | omega | (simp at *; omega) | (simp_all; done))); conv => whnf)
  · simp at hb; omega
  · exact ⟨⟨rfl, trivial⟩, by simp [refVs, refCV]⟩

end Go.Proofs.Ytmfdkjjhdjkgpaa

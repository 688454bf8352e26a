/- Rows of numbers that a law compares, marks and holds. -/
import Derived.Test.YtmjaefnmianfpaaQZi
import Derived.Test.YtmjaefnmianfpaaQZf
namespace Go.Proofs.Ytmjaefnmianfpaa
open Go Go.RowKit
set_option maxRecDepth 10000
set_option linter.unusedSimpArgs false

theorem eqIntS_ok (l : List Int) (hn : l.length ≤ 2 ^ 40) : Fn G.P 33 [.c (.list 1 (l.map r1)), .c (.list 1 (l.map r1))] (.one (aB true)) := by
  refine fn_of_body (G := G) Try.func33 rfl (by decide) (Nat.le_of_ble_eq_true rfl) ?_
  conv => whnf
  refine Br.mk (fun hb => ?_) (fun hb => ?_) <;> conv => whnf
  · simp at hb
  refine .inl ⟨Nat, fun i => l.length - i, fun i => i ≤ l.length, fun i => ⟨[(0, .one (.c (.d (.list 1 (l.map r1))))), (1, .one (.c (.d (.list 1 (l.map r1))))), (5, .one (.c (vI i)))], [], _⟩, 0, Nat.zero_le _, weak_of rfl ?_ rfl (Nat.zero_le _), fun i hi => ?_⟩
  · (repeat' first | exact rfl | exact trivial | apply And.intro | (simp [getE]; done))
  replace hi : i ≤ l.length := hi
  conv => whnf
  refine Br.mk (fun hb1 => ?_) (fun hb1 => ?_) <;> conv => whnf
  · have hlt : i < l.length := by simp at hb1; omega
    have hg : l[i]? = some (l.getD i 0) := by simp [List.getD, List.getElem?_eq_getElem hlt]
    have hw : IntKind.i64.wrap ((i : Int) + 1) = ((i + 1 : Nat) : Int) := by rw [wrap_i64 _ (by omega) (by omega)]; omega
    have hx : (l.map r1)[((i : Int)).toNat]? = some [dI (l.getD i 0)] := by rw [Int.toNat_natCast, List.getElem?_map, hg]; rfl
    repeat' first
      | (refine draw_mk (by kernel_rfl) ?_; conv => whnf)
      | (refine El.get hx ?_; conv => whnf)
      | (refine And.intro (by simp; try omega) ?_; conv => whnf)
    refine Br.mk (fun hb2 => ?_) (fun hb2 => ?_) <;> conv => whnf
    · simp at hb2
    · refine ⟨i + 1, hlt, (by omega : l.length - (i + 1) < l.length - i), weak_of rfl ?_ rfl (Nat.zero_le _)⟩
      rw [hw]
      (repeat' first | exact rfl | exact trivial | apply And.intro | (simp [getE]; done))
  · exact ⟨⟨rfl, trivial⟩, by simp [refVs, refCV]⟩

/-- Numbers that a law has laid. -/
def mkI (k : Int) (n : Nat) : List Int := (List.range n).map fun i : Nat => k + (i : Int)

theorem mkI_len (k : Int) (n : Nat) : (mkI k n).length = n := by simp [mkI]

theorem mkI_get {k : Int} {n j : Nat} (h : j < n) : (mkI k n)[j]? = some (k + (j : Int)) := by
  simp [mkI, List.getElem?_range h]

/-- A row that is being marked. -/
theorem mkI_set {k : Int} {l : List Int} {i : Nat} (h : i < l.length) : ((mkI k i ++ l.drop i).map r1).set i [dI (k + (i : Int))] = (mkI k (i + 1) ++ l.drop (i + 1)).map r1 := by
  rw [show [dI (k + (i : Int))] = r1 (k + (i : Int)) from rfl, ← List.map_set, List.set_append_right _ _ (by simp [mkI_len]), mkI_len, Nat.sub_self, List.drop_eq_getElem_cons h, List.set_cons_zero]
  simp [mkI, List.range_succ]

theorem markIntS_x (l : List Int) (k : Int) (cap : Option Nat) (hn : l.length ≤ 2 ^ 40) (hk : 0 ≤ k ∧ k ≤ 2 ^ 40) : CallX G.P 34 [.c (.sl 0 0 1 0 l.length cap), .c (vI k)] [(0, .arr 1 (l.map r1))]
    (fun sv objs' => sv = .one (.c (vI (k + l.length))) ∧ ∃ gs, objs' = (0, .arr 1 ((mkI k l.length).map r1)) :: gs) := by
  refine call_body (G := G) Try.func34 rfl (by decide) (Nat.le_of_ble_eq_true rfl) ?_
  conv => whnf
  refine .inl ⟨Nat, fun i => l.length - i, fun i => i ≤ l.length, fun i => ⟨[(0, .one (.c (.sl 0 0 1 0 l.length cap))), (1, .one (.c (vI (k + (i : Int))))), (5, .one (.c (vI i)))], [(0, .arr 1 ((mkI k i ++ l.drop i).map r1))], _⟩, 0, Nat.zero_le _, weak_of rfl ?_ rfl (Nat.le_of_ble_eq_true rfl), fun i hi => ?_⟩
  · simp only [Int.natCast_zero, Int.add_zero, show k + ((0 : Nat) : Int) = k by simp]
    (repeat' first | exact rfl | exact trivial | apply And.intro | (simp [getE]; done))
  replace hi : i ≤ l.length := hi
  conv => whnf
  refine Br.mk (fun hb1 => ?_) (fun hb1 => ?_) <;> conv => whnf
  · have hlt : i < l.length := by simp at hb1; omega
    have hw : IntKind.i64.wrap ((i : Int) + 1) = ((i + 1 : Nat) : Int) := by rw [wrap_i64 _ (by omega) (by omega)]; omega
    have hw2 : IntKind.i64.wrap (k + (i : Int) + 1) = k + ((i + 1 : Nat) : Int) := by rw [wrap_i64 _ (by omega) (by omega)]; omega
    refine ⟨by omega, by omega, ?_⟩
    conv => whnf
    refine ⟨by simp [mkI_len]; omega, ?_⟩
    conv => whnf
    rw [show 0 + ((i : Int)).toNat = i by simp, mkI_set hlt]
    refine ⟨i + 1, hlt, (by omega : l.length - (i + 1) < l.length - i), weak_of rfl ?_ rfl (Nat.le_of_ble_eq_true rfl)⟩
    rw [hw, hw2]
    (repeat' first | exact rfl | exact trivial | apply And.intro | (simp [getE]; done))
  · have hie : i = l.length := by simp at hb1; omega
    subst hie
    rw [List.drop_length, List.append_nil]
    exact ⟨rfl, [], rfl⟩

theorem heldIntS_ok (n : Nat) (k : Int) (hn : n ≤ 2 ^ 40) (hk : 0 ≤ k ∧ k ≤ 2 ^ 40) : Fn G.P 41 [.c (.list 1 ((mkI k n).map r1)), aI k] (.one (aI (k + n))) := by
  have hml := mkI_len k n
  refine fn_of_body (G := G) Try.func41 rfl (by decide) (Nat.le_of_ble_eq_true rfl) ?_
  conv => whnf
  refine .inl ⟨Nat, fun i => n - i, fun i => i ≤ n, fun i => ⟨[(0, .one (.c (.d (.list 1 ((mkI k n).map r1))))), (1, .one (.c (vI (k + (i : Int))))), (5, .one (.c (vI i)))], [], _⟩, 0, Nat.zero_le _, weak_of rfl ?_ rfl (Nat.zero_le _), fun i hi => ?_⟩
  · simp only [Int.natCast_zero, Int.add_zero, show k + ((0 : Nat) : Int) = k by simp]
    (repeat' first | exact rfl | exact trivial | apply And.intro | (simp [getE]; done))
  replace hi : i ≤ n := hi
  conv => whnf
  refine Br.mk (fun hb1 => ?_) (fun hb1 => ?_) <;> conv => whnf
  · have hlt : i < n := by simp [hml] at hb1; omega
    have hw : IntKind.i64.wrap ((i : Int) + 1) = ((i + 1 : Nat) : Int) := by rw [wrap_i64 _ (by omega) (by omega)]; omega
    have hw2 : IntKind.i64.wrap (k + (i : Int) + 1) = k + ((i + 1 : Nat) : Int) := by rw [wrap_i64 _ (by omega) (by omega)]; omega
    have hx : ((mkI k n).map r1)[((i : Int)).toNat]? = some [dI (k + (i : Int))] := by rw [Int.toNat_natCast, List.getElem?_map, mkI_get hlt]; rfl
    repeat' first
      | (refine draw_mk (by kernel_rfl) ?_; conv => whnf)
      | (refine El.get hx ?_; conv => whnf)
      | (refine And.intro (by simp [hml]; try omega) ?_; conv => whnf)
    refine Br.mk (fun hb2 => ?_) (fun hb2 => ?_) <;> conv => whnf
    · simp at hb2
    · refine ⟨i + 1, hlt, (by omega : n - (i + 1) < n - i), weak_of rfl ?_ rfl (Nat.zero_le _)⟩
      rw [hw, hw2]
      (repeat' first | exact rfl | exact trivial | apply And.intro | (simp [getE]; done))
  · have hie : i = n := by simp [hml] at hb1; omega
    subst hie
    exact ⟨⟨rfl, trivial⟩, by simp [refVs, refCV]⟩

end Go.Proofs.Ytmjaefnmianfpaa

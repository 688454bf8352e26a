/- Strips: rows with a square more. -/
import Derived.Test.YtbmaofepmheeeaaAst
namespace Go.Proofs.Ytbmaofepmheeeaa
open Go Go.RowKit
set_option maxRecDepth 10000
set_option linter.unusedSimpArgs false

theorem put4_01 (a b c d : Int) (ha : 0 ≤ a ∧ a ≤ 100) (hb : 0 ≤ b ∧ b ≤ 100) (hc : 0 ≤ c ∧ c ≤ 100) (hd : 0 ≤ d ∧ d ≤ 100) : Fn G.P 107 [.agg [dI a, dI b, dI c, dI d], aI 0, aI 1] (.one (.agg [dI (a + 1), dI b, dI c, dI d])) := by
  have wa : IntKind.i64.wrap (a + 1) = a + 1 := wrap_i64 _ (by omega) (by omega)
  have wb : IntKind.i64.wrap (b + 1) = b + 1 := wrap_i64 _ (by omega) (by omega)
  have wc : IntKind.i64.wrap (c + 1) = c + 1 := wrap_i64 _ (by omega) (by omega)
  have wd : IntKind.i64.wrap (d + 1) = d + 1 := wrap_i64 _ (by omega) (by omega)
  refine fn_of_body (G := G) Try.func107 rfl (by decide) (Nat.le_of_ble_eq_true rfl) ?_
  conv => whnf
  refine .inl ⟨Nat, fun k => 5 - k, fun k => k ≤ 1,
    fun k => ⟨[(1, .one (.c (vI 0))), (2, .one (.c (vI 1))), (3, .one (.c (.ptr 0 0 0))), (6, .one (.c (.ptr 1 0 0))), (8, .one (.c (vI 1))), (9, .one (.c (vI k)))],
      [(0, .box (if k = 0 then [.d (dI a), .d (dI b), .d (dI c), .d (dI d)] else [.d (dI (a + 1)), .d (dI b), .d (dI c), .d (dI d)])), (0, .box [.d (dI 0), .d (dI 0), .d (dI 0), .d (dI 0)])], _⟩, 0, by omega, weak_of rfl ?_ rfl (Nat.le_of_ble_eq_true rfl), ?_⟩
  · (repeat' first | exact rfl | exact trivial | apply And.intro | (simp [getE]; done))
  intro k hk
  have hc : k = 0 ∨ k = 1 := by omega
  rcases hc with rfl | rfl
  · conv => whnf
    repeat' first
      | (refine And.intro (Int.le_of_lt (by decide)) (And.intro (by decide) ?_); conv => whnf)
      | (refine And.intro (by decide) (And.intro (by decide) ?_); conv => whnf)
    rw [wa]
    have e : IntKind.i64.wrap (((0 : Nat) : Int) + 1) = ((1 : Nat) : Int) := by decide
    refine ⟨1, by omega, by decide, weak_of rfl ?_ rfl (Nat.le_of_ble_eq_true rfl)⟩
    simp only [e]; (repeat' first | exact rfl | exact trivial | apply And.intro | (simp [getE]; done))
  · conv => whnf
    exact ⟨⟨⟨rfl, rfl, rfl, rfl, trivial⟩, trivial⟩, by simp [refVs, refCs, refCV]⟩

theorem put4_02 (a b c d : Int) (ha : 0 ≤ a ∧ a ≤ 100) (hb : 0 ≤ b ∧ b ≤ 100) (hc : 0 ≤ c ∧ c ≤ 100) (hd : 0 ≤ d ∧ d ≤ 100) : Fn G.P 107 [.agg [dI a, dI b, dI c, dI d], aI 0, aI 2] (.one (.agg [dI (a + 2), dI (b + 2), dI c, dI d])) := by
  have wa : IntKind.i64.wrap (a + 2) = a + 2 := wrap_i64 _ (by omega) (by omega)
  have wb : IntKind.i64.wrap (b + 2) = b + 2 := wrap_i64 _ (by omega) (by omega)
  have wc : IntKind.i64.wrap (c + 2) = c + 2 := wrap_i64 _ (by omega) (by omega)
  have wd : IntKind.i64.wrap (d + 2) = d + 2 := wrap_i64 _ (by omega) (by omega)
  refine fn_of_body (G := G) Try.func107 rfl (by decide) (Nat.le_of_ble_eq_true rfl) ?_
  conv => whnf
  refine .inl ⟨Nat, fun k => 5 - k, fun k => k ≤ 2,
    fun k => ⟨[(1, .one (.c (vI 0))), (2, .one (.c (vI 2))), (3, .one (.c (.ptr 0 0 0))), (6, .one (.c (.ptr 1 0 0))), (8, .one (.c (vI 2))), (9, .one (.c (vI k)))],
      [(0, .box (if k = 0 then [.d (dI a), .d (dI b), .d (dI c), .d (dI d)] else if k = 1 then [.d (dI (a + 2)), .d (dI b), .d (dI c), .d (dI d)] else [.d (dI (a + 2)), .d (dI (b + 2)), .d (dI c), .d (dI d)])), (0, .box [.d (dI 0), .d (dI 0), .d (dI 0), .d (dI 0)])], _⟩, 0, by omega, weak_of rfl ?_ rfl (Nat.le_of_ble_eq_true rfl), ?_⟩
  · (repeat' first | exact rfl | exact trivial | apply And.intro | (simp [getE]; done))
  intro k hk
  have hc : k = 0 ∨ k = 1 ∨ k = 2 := by omega
  rcases hc with rfl | rfl | rfl
  · conv => whnf
    repeat' first
      | (refine And.intro (Int.le_of_lt (by decide)) (And.intro (by decide) ?_); conv => whnf)
      | (refine And.intro (by decide) (And.intro (by decide) ?_); conv => whnf)
    rw [wa]
    have e : IntKind.i64.wrap (((0 : Nat) : Int) + 1) = ((1 : Nat) : Int) := by decide
    refine ⟨1, by omega, by decide, weak_of rfl ?_ rfl (Nat.le_of_ble_eq_true rfl)⟩
    simp only [e]; (repeat' first | exact rfl | exact trivial | apply And.intro | (simp [getE]; done))
  · conv => whnf
    repeat' first
      | (refine And.intro (Int.le_of_lt (by decide)) (And.intro (by decide) ?_); conv => whnf)
      | (refine And.intro (by decide) (And.intro (by decide) ?_); conv => whnf)
    rw [wb]
    have e : IntKind.i64.wrap (((1 : Nat) : Int) + 1) = ((2 : Nat) : Int) := by decide
    refine ⟨2, by omega, by decide, weak_of rfl ?_ rfl (Nat.le_of_ble_eq_true rfl)⟩
    simp only [e]; (repeat' first | exact rfl | exact trivial | apply And.intro | (simp [getE]; done))
  · conv => whnf
    exact ⟨⟨⟨rfl, rfl, rfl, rfl, trivial⟩, trivial⟩, by simp [refVs, refCs, refCV]⟩

theorem put4_03 (a b c d : Int) (ha : 0 ≤ a ∧ a ≤ 100) (hb : 0 ≤ b ∧ b ≤ 100) (hc : 0 ≤ c ∧ c ≤ 100) (hd : 0 ≤ d ∧ d ≤ 100) : Fn G.P 107 [.agg [dI a, dI b, dI c, dI d], aI 0, aI 3] (.one (.agg [dI (a + 3), dI (b + 3), dI (c + 3), dI d])) := by
  have wa : IntKind.i64.wrap (a + 3) = a + 3 := wrap_i64 _ (by omega) (by omega)
  have wb : IntKind.i64.wrap (b + 3) = b + 3 := wrap_i64 _ (by omega) (by omega)
  have wc : IntKind.i64.wrap (c + 3) = c + 3 := wrap_i64 _ (by omega) (by omega)
  have wd : IntKind.i64.wrap (d + 3) = d + 3 := wrap_i64 _ (by omega) (by omega)
  refine fn_of_body (G := G) Try.func107 rfl (by decide) (Nat.le_of_ble_eq_true rfl) ?_
  conv => whnf
  refine .inl ⟨Nat, fun k => 5 - k, fun k => k ≤ 3,
    fun k => ⟨[(1, .one (.c (vI 0))), (2, .one (.c (vI 3))), (3, .one (.c (.ptr 0 0 0))), (6, .one (.c (.ptr 1 0 0))), (8, .one (.c (vI 3))), (9, .one (.c (vI k)))],
      [(0, .box (if k = 0 then [.d (dI a), .d (dI b), .d (dI c), .d (dI d)] else if k = 1 then [.d (dI (a + 3)), .d (dI b), .d (dI c), .d (dI d)] else if k = 2 then [.d (dI (a + 3)), .d (dI (b + 3)), .d (dI c), .d (dI d)] else [.d (dI (a + 3)), .d (dI (b + 3)), .d (dI (c + 3)), .d (dI d)])), (0, .box [.d (dI 0), .d (dI 0), .d (dI 0), .d (dI 0)])], _⟩, 0, by omega, weak_of rfl ?_ rfl (Nat.le_of_ble_eq_true rfl), ?_⟩
  · (repeat' first | exact rfl | exact trivial | apply And.intro | (simp [getE]; done))
  intro k hk
  have hc : k = 0 ∨ k = 1 ∨ k = 2 ∨ k = 3 := by omega
  rcases hc with rfl | rfl | rfl | rfl
  · conv => whnf
    repeat' first
      | (refine And.intro (Int.le_of_lt (by decide)) (And.intro (by decide) ?_); conv => whnf)
      | (refine And.intro (by decide) (And.intro (by decide) ?_); conv => whnf)
    rw [wa]
    have e : IntKind.i64.wrap (((0 : Nat) : Int) + 1) = ((1 : Nat) : Int) := by decide
    refine ⟨1, by omega, by decide, weak_of rfl ?_ rfl (Nat.le_of_ble_eq_true rfl)⟩
    simp only [e]; (repeat' first | exact rfl | exact trivial | apply And.intro | (simp [getE]; done))
  · conv => whnf
    repeat' first
      | (refine And.intro (Int.le_of_lt (by decide)) (And.intro (by decide) ?_); conv => whnf)
      | (refine And.intro (by decide) (And.intro (by decide) ?_); conv => whnf)
    rw [wb]
    have e : IntKind.i64.wrap (((1 : Nat) : Int) + 1) = ((2 : Nat) : Int) := by decide
    refine ⟨2, by omega, by decide, weak_of rfl ?_ rfl (Nat.le_of_ble_eq_true rfl)⟩
    simp only [e]; (repeat' first | exact rfl | exact trivial | apply And.intro | (simp [getE]; done))
  · conv => whnf
    repeat' first
      | (refine And.intro (Int.le_of_lt (by decide)) (And.intro (by decide) ?_); conv => whnf)
      | (refine And.intro (by decide) (And.intro (by decide) ?_); conv => whnf)
    rw [wc]
    have e : IntKind.i64.wrap (((2 : Nat) : Int) + 1) = ((3 : Nat) : Int) := by decide
    refine ⟨3, by omega, by decide, weak_of rfl ?_ rfl (Nat.le_of_ble_eq_true rfl)⟩
    simp only [e]; (repeat' first | exact rfl | exact trivial | apply And.intro | (simp [getE]; done))
  · conv => whnf
    exact ⟨⟨⟨rfl, rfl, rfl, rfl, trivial⟩, trivial⟩, by simp [refVs, refCs, refCV]⟩

theorem put4_04 (a b c d : Int) (ha : 0 ≤ a ∧ a ≤ 100) (hb : 0 ≤ b ∧ b ≤ 100) (hc : 0 ≤ c ∧ c ≤ 100) (hd : 0 ≤ d ∧ d ≤ 100) : Fn G.P 107 [.agg [dI a, dI b, dI c, dI d], aI 0, aI 4] (.one (.agg [dI (a + 4), dI (b + 4), dI (c + 4), dI (d + 4)])) := by
  have wa : IntKind.i64.wrap (a + 4) = a + 4 := wrap_i64 _ (by omega) (by omega)
  have wb : IntKind.i64.wrap (b + 4) = b + 4 := wrap_i64 _ (by omega) (by omega)
  have wc : IntKind.i64.wrap (c + 4) = c + 4 := wrap_i64 _ (by omega) (by omega)
  have wd : IntKind.i64.wrap (d + 4) = d + 4 := wrap_i64 _ (by omega) (by omega)
  refine fn_of_body (G := G) Try.func107 rfl (by decide) (Nat.le_of_ble_eq_true rfl) ?_
  conv => whnf
  refine .inl ⟨Nat, fun k => 5 - k, fun k => k ≤ 4,
    fun k => ⟨[(1, .one (.c (vI 0))), (2, .one (.c (vI 4))), (3, .one (.c (.ptr 0 0 0))), (6, .one (.c (.ptr 1 0 0))), (8, .one (.c (vI 4))), (9, .one (.c (vI k)))],
      [(0, .box (if k = 0 then [.d (dI a), .d (dI b), .d (dI c), .d (dI d)] else if k = 1 then [.d (dI (a + 4)), .d (dI b), .d (dI c), .d (dI d)] else if k = 2 then [.d (dI (a + 4)), .d (dI (b + 4)), .d (dI c), .d (dI d)] else if k = 3 then [.d (dI (a + 4)), .d (dI (b + 4)), .d (dI (c + 4)), .d (dI d)] else [.d (dI (a + 4)), .d (dI (b + 4)), .d (dI (c + 4)), .d (dI (d + 4))])), (0, .box [.d (dI 0), .d (dI 0), .d (dI 0), .d (dI 0)])], _⟩, 0, by omega, weak_of rfl ?_ rfl (Nat.le_of_ble_eq_true rfl), ?_⟩
  · (repeat' first | exact rfl | exact trivial | apply And.intro | (simp [getE]; done))
  intro k hk
  have hc : k = 0 ∨ k = 1 ∨ k = 2 ∨ k = 3 ∨ k = 4 := by omega
  rcases hc with rfl | rfl | rfl | rfl | rfl
  · conv => whnf
    repeat' first
      | (refine And.intro (Int.le_of_lt (by decide)) (And.intro (by decide) ?_); conv => whnf)
      | (refine And.intro (by decide) (And.intro (by decide) ?_); conv => whnf)
    rw [wa]
    have e : IntKind.i64.wrap (((0 : Nat) : Int) + 1) = ((1 : Nat) : Int) := by decide
    refine ⟨1, by omega, by decide, weak_of rfl ?_ rfl (Nat.le_of_ble_eq_true rfl)⟩
    simp only [e]; (repeat' first | exact rfl | exact trivial | apply And.intro | (simp [getE]; done))
  · conv => whnf
    repeat' first
      | (refine And.intro (Int.le_of_lt (by decide)) (And.intro (by decide) ?_); conv => whnf)
      | (refine And.intro (by decide) (And.intro (by decide) ?_); conv => whnf)
    rw [wb]
    have e : IntKind.i64.wrap (((1 : Nat) : Int) + 1) = ((2 : Nat) : Int) := by decide
    refine ⟨2, by omega, by decide, weak_of rfl ?_ rfl (Nat.le_of_ble_eq_true rfl)⟩
    simp only [e]; (repeat' first | exact rfl | exact trivial | apply And.intro | (simp [getE]; done))
  · conv => whnf
    repeat' first
      | (refine And.intro (Int.le_of_lt (by decide)) (And.intro (by decide) ?_); conv => whnf)
      | (refine And.intro (by decide) (And.intro (by decide) ?_); conv => whnf)
    rw [wc]
    have e : IntKind.i64.wrap (((2 : Nat) : Int) + 1) = ((3 : Nat) : Int) := by decide
    refine ⟨3, by omega, by decide, weak_of rfl ?_ rfl (Nat.le_of_ble_eq_true rfl)⟩
    simp only [e]; (repeat' first | exact rfl | exact trivial | apply And.intro | (simp [getE]; done))
  · conv => whnf
    repeat' first
      | (refine And.intro (Int.le_of_lt (by decide)) (And.intro (by decide) ?_); conv => whnf)
      | (refine And.intro (by decide) (And.intro (by decide) ?_); conv => whnf)
    rw [wd]
    have e : IntKind.i64.wrap (((3 : Nat) : Int) + 1) = ((4 : Nat) : Int) := by decide
    refine ⟨4, by omega, by decide, weak_of rfl ?_ rfl (Nat.le_of_ble_eq_true rfl)⟩
    simp only [e]; (repeat' first | exact rfl | exact trivial | apply And.intro | (simp [getE]; done))
  · conv => whnf
    exact ⟨⟨⟨rfl, rfl, rfl, rfl, trivial⟩, trivial⟩, by simp [refVs, refCs, refCV]⟩

theorem put4_11 (a b c d : Int) (ha : 0 ≤ a ∧ a ≤ 100) (hb : 0 ≤ b ∧ b ≤ 100) (hc : 0 ≤ c ∧ c ≤ 100) (hd : 0 ≤ d ∧ d ≤ 100) : Fn G.P 107 [.agg [dI a, dI b, dI c, dI d], aI 1, aI 1] (.one (.agg [dI a, dI (b + 1), dI c, dI d])) := by
  have wa : IntKind.i64.wrap (a + 1) = a + 1 := wrap_i64 _ (by omega) (by omega)
  have wb : IntKind.i64.wrap (b + 1) = b + 1 := wrap_i64 _ (by omega) (by omega)
  have wc : IntKind.i64.wrap (c + 1) = c + 1 := wrap_i64 _ (by omega) (by omega)
  have wd : IntKind.i64.wrap (d + 1) = d + 1 := wrap_i64 _ (by omega) (by omega)
  refine fn_of_body (G := G) Try.func107 rfl (by decide) (Nat.le_of_ble_eq_true rfl) ?_
  conv => whnf
  refine .inl ⟨Nat, fun k => 5 - k, fun k => k ≤ 1,
    fun k => ⟨[(1, .one (.c (vI 1))), (2, .one (.c (vI 1))), (3, .one (.c (.ptr 0 0 0))), (6, .one (.c (.ptr 1 0 0))), (8, .one (.c (vI 1))), (9, .one (.c (vI k)))],
      [(0, .box (if k = 0 then [.d (dI a), .d (dI b), .d (dI c), .d (dI d)] else [.d (dI a), .d (dI (b + 1)), .d (dI c), .d (dI d)])), (0, .box [.d (dI 0), .d (dI 0), .d (dI 0), .d (dI 0)])], _⟩, 0, by omega, weak_of rfl ?_ rfl (Nat.le_of_ble_eq_true rfl), ?_⟩
  · (repeat' first | exact rfl | exact trivial | apply And.intro | (simp [getE]; done))
  intro k hk
  have hc : k = 0 ∨ k = 1 := by omega
  rcases hc with rfl | rfl
  · conv => whnf
    repeat' first
      | (refine And.intro (Int.le_of_lt (by decide)) (And.intro (by decide) ?_); conv => whnf)
      | (refine And.intro (by decide) (And.intro (by decide) ?_); conv => whnf)
    rw [wb]
    have e : IntKind.i64.wrap (((0 : Nat) : Int) + 1) = ((1 : Nat) : Int) := by decide
    refine ⟨1, by omega, by decide, weak_of rfl ?_ rfl (Nat.le_of_ble_eq_true rfl)⟩
    simp only [e]; (repeat' first | exact rfl | exact trivial | apply And.intro | (simp [getE]; done))
  · conv => whnf
    exact ⟨⟨⟨rfl, rfl, rfl, rfl, trivial⟩, trivial⟩, by simp [refVs, refCs, refCV]⟩

theorem put4_12 (a b c d : Int) (ha : 0 ≤ a ∧ a ≤ 100) (hb : 0 ≤ b ∧ b ≤ 100) (hc : 0 ≤ c ∧ c ≤ 100) (hd : 0 ≤ d ∧ d ≤ 100) : Fn G.P 107 [.agg [dI a, dI b, dI c, dI d], aI 1, aI 2] (.one (.agg [dI a, dI (b + 2), dI (c + 2), dI d])) := by
  have wa : IntKind.i64.wrap (a + 2) = a + 2 := wrap_i64 _ (by omega) (by omega)
  have wb : IntKind.i64.wrap (b + 2) = b + 2 := wrap_i64 _ (by omega) (by omega)
  have wc : IntKind.i64.wrap (c + 2) = c + 2 := wrap_i64 _ (by omega) (by omega)
  have wd : IntKind.i64.wrap (d + 2) = d + 2 := wrap_i64 _ (by omega) (by omega)
  refine fn_of_body (G := G) Try.func107 rfl (by decide) (Nat.le_of_ble_eq_true rfl) ?_
  conv => whnf
  refine .inl ⟨Nat, fun k => 5 - k, fun k => k ≤ 2,
    fun k => ⟨[(1, .one (.c (vI 1))), (2, .one (.c (vI 2))), (3, .one (.c (.ptr 0 0 0))), (6, .one (.c (.ptr 1 0 0))), (8, .one (.c (vI 2))), (9, .one (.c (vI k)))],
      [(0, .box (if k = 0 then [.d (dI a), .d (dI b), .d (dI c), .d (dI d)] else if k = 1 then [.d (dI a), .d (dI (b + 2)), .d (dI c), .d (dI d)] else [.d (dI a), .d (dI (b + 2)), .d (dI (c + 2)), .d (dI d)])), (0, .box [.d (dI 0), .d (dI 0), .d (dI 0), .d (dI 0)])], _⟩, 0, by omega, weak_of rfl ?_ rfl (Nat.le_of_ble_eq_true rfl), ?_⟩
  · (repeat' first | exact rfl | exact trivial | apply And.intro | (simp [getE]; done))
  intro k hk
  have hc : k = 0 ∨ k = 1 ∨ k = 2 := by omega
  rcases hc with rfl | rfl | rfl
  · conv => whnf
    repeat' first
      | (refine And.intro (Int.le_of_lt (by decide)) (And.intro (by decide) ?_); conv => whnf)
      | (refine And.intro (by decide) (And.intro (by decide) ?_); conv => whnf)
    rw [wb]
    have e : IntKind.i64.wrap (((0 : Nat) : Int) + 1) = ((1 : Nat) : Int) := by decide
    refine ⟨1, by omega, by decide, weak_of rfl ?_ rfl (Nat.le_of_ble_eq_true rfl)⟩
    simp only [e]; (repeat' first | exact rfl | exact trivial | apply And.intro | (simp [getE]; done))
  · conv => whnf
    repeat' first
      | (refine And.intro (Int.le_of_lt (by decide)) (And.intro (by decide) ?_); conv => whnf)
      | (refine And.intro (by decide) (And.intro (by decide) ?_); conv => whnf)
    rw [wc]
    have e : IntKind.i64.wrap (((1 : Nat) : Int) + 1) = ((2 : Nat) : Int) := by decide
    refine ⟨2, by omega, by decide, weak_of rfl ?_ rfl (Nat.le_of_ble_eq_true rfl)⟩
    simp only [e]; (repeat' first | exact rfl | exact trivial | apply And.intro | (simp [getE]; done))
  · conv => whnf
    exact ⟨⟨⟨rfl, rfl, rfl, rfl, trivial⟩, trivial⟩, by simp [refVs, refCs, refCV]⟩

theorem put4_13 (a b c d : Int) (ha : 0 ≤ a ∧ a ≤ 100) (hb : 0 ≤ b ∧ b ≤ 100) (hc : 0 ≤ c ∧ c ≤ 100) (hd : 0 ≤ d ∧ d ≤ 100) : Fn G.P 107 [.agg [dI a, dI b, dI c, dI d], aI 1, aI 3] (.one (.agg [dI a, dI (b + 3), dI (c + 3), dI (d + 3)])) := by
  have wa : IntKind.i64.wrap (a + 3) = a + 3 := wrap_i64 _ (by omega) (by omega)
  have wb : IntKind.i64.wrap (b + 3) = b + 3 := wrap_i64 _ (by omega) (by omega)
  have wc : IntKind.i64.wrap (c + 3) = c + 3 := wrap_i64 _ (by omega) (by omega)
  have wd : IntKind.i64.wrap (d + 3) = d + 3 := wrap_i64 _ (by omega) (by omega)
  refine fn_of_body (G := G) Try.func107 rfl (by decide) (Nat.le_of_ble_eq_true rfl) ?_
  conv => whnf
  refine .inl ⟨Nat, fun k => 5 - k, fun k => k ≤ 3,
    fun k => ⟨[(1, .one (.c (vI 1))), (2, .one (.c (vI 3))), (3, .one (.c (.ptr 0 0 0))), (6, .one (.c (.ptr 1 0 0))), (8, .one (.c (vI 3))), (9, .one (.c (vI k)))],
      [(0, .box (if k = 0 then [.d (dI a), .d (dI b), .d (dI c), .d (dI d)] else if k = 1 then [.d (dI a), .d (dI (b + 3)), .d (dI c), .d (dI d)] else if k = 2 then [.d (dI a), .d (dI (b + 3)), .d (dI (c + 3)), .d (dI d)] else [.d (dI a), .d (dI (b + 3)), .d (dI (c + 3)), .d (dI (d + 3))])), (0, .box [.d (dI 0), .d (dI 0), .d (dI 0), .d (dI 0)])], _⟩, 0, by omega, weak_of rfl ?_ rfl (Nat.le_of_ble_eq_true rfl), ?_⟩
  · (repeat' first | exact rfl | exact trivial | apply And.intro | (simp [getE]; done))
  intro k hk
  have hc : k = 0 ∨ k = 1 ∨ k = 2 ∨ k = 3 := by omega
  rcases hc with rfl | rfl | rfl | rfl
  · conv => whnf
    repeat' first
      | (refine And.intro (Int.le_of_lt (by decide)) (And.intro (by decide) ?_); conv => whnf)
      | (refine And.intro (by decide) (And.intro (by decide) ?_); conv => whnf)
    rw [wb]
    have e : IntKind.i64.wrap (((0 : Nat) : Int) + 1) = ((1 : Nat) : Int) := by decide
    refine ⟨1, by omega, by decide, weak_of rfl ?_ rfl (Nat.le_of_ble_eq_true rfl)⟩
    simp only [e]; (repeat' first | exact rfl | exact trivial | apply And.intro | (simp [getE]; done))
  · conv => whnf
    repeat' first
      | (refine And.intro (Int.le_of_lt (by decide)) (And.intro (by decide) ?_); conv => whnf)
      | (refine And.intro (by decide) (And.intro (by decide) ?_); conv => whnf)
    rw [wc]
    have e : IntKind.i64.wrap (((1 : Nat) : Int) + 1) = ((2 : Nat) : Int) := by decide
    refine ⟨2, by omega, by decide, weak_of rfl ?_ rfl (Nat.le_of_ble_eq_true rfl)⟩
    simp only [e]; (repeat' first | exact rfl | exact trivial | apply And.intro | (simp [getE]; done))
  · conv => whnf
    repeat' first
      | (refine And.intro (Int.le_of_lt (by decide)) (And.intro (by decide) ?_); conv => whnf)
      | (refine And.intro (by decide) (And.intro (by decide) ?_); conv => whnf)
    rw [wd]
    have e : IntKind.i64.wrap (((2 : Nat) : Int) + 1) = ((3 : Nat) : Int) := by decide
    refine ⟨3, by omega, by decide, weak_of rfl ?_ rfl (Nat.le_of_ble_eq_true rfl)⟩
    simp only [e]; (repeat' first | exact rfl | exact trivial | apply And.intro | (simp [getE]; done))
  · conv => whnf
    exact ⟨⟨⟨rfl, rfl, rfl, rfl, trivial⟩, trivial⟩, by simp [refVs, refCs, refCV]⟩

theorem put4_21 (a b c d : Int) (ha : 0 ≤ a ∧ a ≤ 100) (hb : 0 ≤ b ∧ b ≤ 100) (hc : 0 ≤ c ∧ c ≤ 100) (hd : 0 ≤ d ∧ d ≤ 100) : Fn G.P 107 [.agg [dI a, dI b, dI c, dI d], aI 2, aI 1] (.one (.agg [dI a, dI b, dI (c + 1), dI d])) := by
  have wa : IntKind.i64.wrap (a + 1) = a + 1 := wrap_i64 _ (by omega) (by omega)
  have wb : IntKind.i64.wrap (b + 1) = b + 1 := wrap_i64 _ (by omega) (by omega)
  have wc : IntKind.i64.wrap (c + 1) = c + 1 := wrap_i64 _ (by omega) (by omega)
  have wd : IntKind.i64.wrap (d + 1) = d + 1 := wrap_i64 _ (by omega) (by omega)
  refine fn_of_body (G := G) Try.func107 rfl (by decide) (Nat.le_of_ble_eq_true rfl) ?_
  conv => whnf
  refine .inl ⟨Nat, fun k => 5 - k, fun k => k ≤ 1,
    fun k => ⟨[(1, .one (.c (vI 2))), (2, .one (.c (vI 1))), (3, .one (.c (.ptr 0 0 0))), (6, .one (.c (.ptr 1 0 0))), (8, .one (.c (vI 1))), (9, .one (.c (vI k)))],
      [(0, .box (if k = 0 then [.d (dI a), .d (dI b), .d (dI c), .d (dI d)] else [.d (dI a), .d (dI b), .d (dI (c + 1)), .d (dI d)])), (0, .box [.d (dI 0), .d (dI 0), .d (dI 0), .d (dI 0)])], _⟩, 0, by omega, weak_of rfl ?_ rfl (Nat.le_of_ble_eq_true rfl), ?_⟩
  · (repeat' first | exact rfl | exact trivial | apply And.intro | (simp [getE]; done))
  intro k hk
  have hc : k = 0 ∨ k = 1 := by omega
  rcases hc with rfl | rfl
  · conv => whnf
    repeat' first
      | (refine And.intro (Int.le_of_lt (by decide)) (And.intro (by decide) ?_); conv => whnf)
      | (refine And.intro (by decide) (And.intro (by decide) ?_); conv => whnf)
    rw [wc]
    have e : IntKind.i64.wrap (((0 : Nat) : Int) + 1) = ((1 : Nat) : Int) := by decide
    refine ⟨1, by omega, by decide, weak_of rfl ?_ rfl (Nat.le_of_ble_eq_true rfl)⟩
    simp only [e]; (repeat' first | exact rfl | exact trivial | apply And.intro | (simp [getE]; done))
  · conv => whnf
    exact ⟨⟨⟨rfl, rfl, rfl, rfl, trivial⟩, trivial⟩, by simp [refVs, refCs, refCV]⟩

theorem put4_22 (a b c d : Int) (ha : 0 ≤ a ∧ a ≤ 100) (hb : 0 ≤ b ∧ b ≤ 100) (hc : 0 ≤ c ∧ c ≤ 100) (hd : 0 ≤ d ∧ d ≤ 100) : Fn G.P 107 [.agg [dI a, dI b, dI c, dI d], aI 2, aI 2] (.one (.agg [dI a, dI b, dI (c + 2), dI (d + 2)])) := by
  have wa : IntKind.i64.wrap (a + 2) = a + 2 := wrap_i64 _ (by omega) (by omega)
  have wb : IntKind.i64.wrap (b + 2) = b + 2 := wrap_i64 _ (by omega) (by omega)
  have wc : IntKind.i64.wrap (c + 2) = c + 2 := wrap_i64 _ (by omega) (by omega)
  have wd : IntKind.i64.wrap (d + 2) = d + 2 := wrap_i64 _ (by omega) (by omega)
  refine fn_of_body (G := G) Try.func107 rfl (by decide) (Nat.le_of_ble_eq_true rfl) ?_
  conv => whnf
  refine .inl ⟨Nat, fun k => 5 - k, fun k => k ≤ 2,
    fun k => ⟨[(1, .one (.c (vI 2))), (2, .one (.c (vI 2))), (3, .one (.c (.ptr 0 0 0))), (6, .one (.c (.ptr 1 0 0))), (8, .one (.c (vI 2))), (9, .one (.c (vI k)))],
      [(0, .box (if k = 0 then [.d (dI a), .d (dI b), .d (dI c), .d (dI d)] else if k = 1 then [.d (dI a), .d (dI b), .d (dI (c + 2)), .d (dI d)] else [.d (dI a), .d (dI b), .d (dI (c + 2)), .d (dI (d + 2))])), (0, .box [.d (dI 0), .d (dI 0), .d (dI 0), .d (dI 0)])], _⟩, 0, by omega, weak_of rfl ?_ rfl (Nat.le_of_ble_eq_true rfl), ?_⟩
  · (repeat' first | exact rfl | exact trivial | apply And.intro | (simp [getE]; done))
  intro k hk
  have hc : k = 0 ∨ k = 1 ∨ k = 2 := by omega
  rcases hc with rfl | rfl | rfl
  · conv => whnf
    repeat' first
      | (refine And.intro (Int.le_of_lt (by decide)) (And.intro (by decide) ?_); conv => whnf)
      | (refine And.intro (by decide) (And.intro (by decide) ?_); conv => whnf)
    rw [wc]
    have e : IntKind.i64.wrap (((0 : Nat) : Int) + 1) = ((1 : Nat) : Int) := by decide
    refine ⟨1, by omega, by decide, weak_of rfl ?_ rfl (Nat.le_of_ble_eq_true rfl)⟩
    simp only [e]; (repeat' first | exact rfl | exact trivial | apply And.intro | (simp [getE]; done))
  · conv => whnf
    repeat' first
      | (refine And.intro (Int.le_of_lt (by decide)) (And.intro (by decide) ?_); conv => whnf)
      | (refine And.intro (by decide) (And.intro (by decide) ?_); conv => whnf)
    rw [wd]
    have e : IntKind.i64.wrap (((1 : Nat) : Int) + 1) = ((2 : Nat) : Int) := by decide
    refine ⟨2, by omega, by decide, weak_of rfl ?_ rfl (Nat.le_of_ble_eq_true rfl)⟩
    simp only [e]; (repeat' first | exact rfl | exact trivial | apply And.intro | (simp [getE]; done))
  · conv => whnf
    exact ⟨⟨⟨rfl, rfl, rfl, rfl, trivial⟩, trivial⟩, by simp [refVs, refCs, refCV]⟩

theorem put4_31 (a b c d : Int) (ha : 0 ≤ a ∧ a ≤ 100) (hb : 0 ≤ b ∧ b ≤ 100) (hc : 0 ≤ c ∧ c ≤ 100) (hd : 0 ≤ d ∧ d ≤ 100) : Fn G.P 107 [.agg [dI a, dI b, dI c, dI d], aI 3, aI 1] (.one (.agg [dI a, dI b, dI c, dI (d + 1)])) := by
  have wa : IntKind.i64.wrap (a + 1) = a + 1 := wrap_i64 _ (by omega) (by omega)
  have wb : IntKind.i64.wrap (b + 1) = b + 1 := wrap_i64 _ (by omega) (by omega)
  have wc : IntKind.i64.wrap (c + 1) = c + 1 := wrap_i64 _ (by omega) (by omega)
  have wd : IntKind.i64.wrap (d + 1) = d + 1 := wrap_i64 _ (by omega) (by omega)
  refine fn_of_body (G := G) Try.func107 rfl (by decide) (Nat.le_of_ble_eq_true rfl) ?_
  conv => whnf
  refine .inl ⟨Nat, fun k => 5 - k, fun k => k ≤ 1,
    fun k => ⟨[(1, .one (.c (vI 3))), (2, .one (.c (vI 1))), (3, .one (.c (.ptr 0 0 0))), (6, .one (.c (.ptr 1 0 0))), (8, .one (.c (vI 1))), (9, .one (.c (vI k)))],
      [(0, .box (if k = 0 then [.d (dI a), .d (dI b), .d (dI c), .d (dI d)] else [.d (dI a), .d (dI b), .d (dI c), .d (dI (d + 1))])), (0, .box [.d (dI 0), .d (dI 0), .d (dI 0), .d (dI 0)])], _⟩, 0, by omega, weak_of rfl ?_ rfl (Nat.le_of_ble_eq_true rfl), ?_⟩
  · (repeat' first | exact rfl | exact trivial | apply And.intro | (simp [getE]; done))
  intro k hk
  have hc : k = 0 ∨ k = 1 := by omega
  rcases hc with rfl | rfl
  · conv => whnf
    repeat' first
      | (refine And.intro (Int.le_of_lt (by decide)) (And.intro (by decide) ?_); conv => whnf)
      | (refine And.intro (by decide) (And.intro (by decide) ?_); conv => whnf)
    rw [wd]
    have e : IntKind.i64.wrap (((0 : Nat) : Int) + 1) = ((1 : Nat) : Int) := by decide
    refine ⟨1, by omega, by decide, weak_of rfl ?_ rfl (Nat.le_of_ble_eq_true rfl)⟩
    simp only [e]; (repeat' first | exact rfl | exact trivial | apply And.intro | (simp [getE]; done))
  · conv => whnf
    exact ⟨⟨⟨rfl, rfl, rfl, rfl, trivial⟩, trivial⟩, by simp [refVs, refCs, refCV]⟩

end Go.Proofs.Ytbmaofepmheeeaa

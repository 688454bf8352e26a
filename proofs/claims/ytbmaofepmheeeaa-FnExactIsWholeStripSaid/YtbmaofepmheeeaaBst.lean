/- Strips: the first free cell. -/
import Derived.Test.YtbmaofepmheeeaaAst
import Derived.Test.YtbmaofepmheeeaaPs
namespace Go.Proofs.Ytbmaofepmheeeaa
open Go Go.RowKit
set_option maxRecDepth 10000
set_option linter.unusedSimpArgs false

/-- How far a square may reach from row y on. -/
def mostI (h : Nat) (l X : Int) (R : List Int) (y : Nat) : Nat → Nat → Nat
  | 0, s => s
  | n + 1, s => if y + s < h ∧ R.getD (y + s) 0 = X ∧ X + s < l then mostI h l X R y n (s + 1) else s

theorem next_10 (es : List (List Int × DV)) (l a b c d X : Int) (hX : 0 ≤ X ∧ X ≤ 100) (hmin : minL [a] = X) (hidx : idxL [a] X = 0) :
    CallX G.P 106 [.agg [.d (dI 1), .d (dI l), .mp 0 0], .agg [.d (dI a), .d (dI b), .d (dI c), .d (dI d)]] [(0, .map 4 es)]
      (fun sv objs1 => sv = .tup [.c (vI X), .c (vI 0), .c (vI (mostI 1 l X [a, b, c, d] 0 5 0))] ∧ ∃ gs, objs1 = (0, .map 4 es) :: gs) := by
  have hm := minInts_ok a [] (by simp)
  have hi := indexInts_ok [a] X (by simp)
  rw [hmin] at hm
  rw [hidx] at hi
  refine call_body (G := G) Try.func106 rfl (by decide) (Nat.le_of_ble_eq_true rfl) ?_
  conv => whnf
  refine ⟨by decide, by decide, by decide, ?_⟩
  conv => whnf
  refine call_sn (by repeat' first | exact rfl | exact trivial | exact Nat.le_of_ble_eq_true rfl | apply And.intro) hm ?_
  conv => whnf
  refine ⟨by decide, by decide, by decide, ?_⟩
  conv => whnf
  refine call_sn (by repeat' first | exact rfl | exact trivial | exact Nat.le_of_ble_eq_true rfl | apply And.intro) hi ?_
  conv => whnf
  clear hm hi hmin hidx
  refine .inl ⟨Nat, fun s => 5 - s, fun s => s ≤ 1 ∧ mostI 1 l X [a, b, c, d] 0 5 0 = mostI 1 l X [a, b, c, d] 0 (5 - s) s,
    fun s => ⟨[(2, .one (.c (.ptr 1 0 0))), (3, .one (.c (.ptr 2 0 0))), (7, .one (.c (vI X))), (8, .one (.c (vI 0))), (9, .one (.c (vI s)))],
      [(0, .map 4 es), (0, .box [.d (dI 1), .d (dI l), .mp 0 0]), (0, .box [.d (dI a), .d (dI b), .d (dI c), .d (dI d)])], _⟩, 0, ⟨by omega, rfl⟩, weak_of rfl ?_ rfl (Nat.le_of_ble_eq_true rfl), ?_⟩
  · (repeat' first | exact rfl | exact trivial | apply And.intro | (simp [getE]; done))
  rintro s ⟨hs, hinv⟩
  have hc : s = 0 ∨ s = 1 := by omega
  rw [hinv]
  clear hinv
  have f : ∀ k : Nat, k ≤ 4 → IntKind.i64.wrap (X + (k : Int)) = X + k := fun k hk => wrap_i64 _ (by omega) (by omega)
  rcases hc with rfl | rfl
  · conv => whnf
    repeat' first
      | (refine Br.mk (fun hb => ?_) (fun hb => ?_) <;> conv => whnf)
      | (refine And.intro (Int.le_of_lt (by decide)) (And.intro (by decide) ?_); conv => whnf)
      | (refine And.intro (by decide) (And.intro (by decide) ?_); conv => whnf)
    · rename_i hb0
      rw [f 0 (by omega)] at hb
      refine ⟨1, ⟨by omega, ?_⟩, by decide, weak_of rfl ?_ rfl (Nat.le_of_ble_eq_true rfl)⟩
      · show mostI 1 l X [a, b, c, d] 0 (4 + 1) 0 = mostI 1 l X [a, b, c, d] 0 4 1
        rw [mostI, if_pos ⟨by omega, beq_iff_eq.1 hb0, of_decide_eq_true hb⟩]
      · have e : IntKind.i64.wrap (((0 : Nat) : Int) + 1) = ((1 : Nat) : Int) := by decide
        simp only [e]; (repeat' first | exact rfl | exact trivial | apply And.intro | (simp [getE]; done))
    · rename_i hb0
      rw [f 0 (by omega)] at hb
      refine ⟨?_, _, rfl⟩
      rw [show mostI 1 l X [a, b, c, d] 0 (5 - 0) 0 = 0 from by rw [show 5 - 0 = 4 + 1 from rfl, mostI, if_neg (fun hc => of_decide_eq_false hb hc.2.2)]]
    · refine ⟨?_, _, rfl⟩
      rw [show mostI 1 l X [a, b, c, d] 0 (5 - 0) 0 = 0 from by rw [show 5 - 0 = 4 + 1 from rfl, mostI, if_neg (fun hc => (beq_eq_false_iff_ne.1 hb) hc.2.1)]]
  · conv => whnf
    refine ⟨?_, _, rfl⟩
    rw [show mostI 1 l X [a, b, c, d] 0 (5 - 1) 1 = 1 from by rw [show 5 - 1 = 3 + 1 from rfl, mostI, if_neg (by omega)]]
theorem next_20 (es : List (List Int × DV)) (l a b c d X : Int) (hX : 0 ≤ X ∧ X ≤ 100) (hmin : minL [a, b] = X) (hidx : idxL [a, b] X = 0) :
    CallX G.P 106 [.agg [.d (dI 2), .d (dI l), .mp 0 0], .agg [.d (dI a), .d (dI b), .d (dI c), .d (dI d)]] [(0, .map 4 es)]
      (fun sv objs1 => sv = .tup [.c (vI X), .c (vI 0), .c (vI (mostI 2 l X [a, b, c, d] 0 5 0))] ∧ ∃ gs, objs1 = (0, .map 4 es) :: gs) := by
  have hm := minInts_ok a [b] (by simp)
  have hi := indexInts_ok [a, b] X (by simp)
  rw [hmin] at hm
  rw [hidx] at hi
  refine call_body (G := G) Try.func106 rfl (by decide) (Nat.le_of_ble_eq_true rfl) ?_
  conv => whnf
  refine ⟨by decide, by decide, by decide, ?_⟩
  conv => whnf
  refine call_sn (by repeat' first | exact rfl | exact trivial | exact Nat.le_of_ble_eq_true rfl | apply And.intro) hm ?_
  conv => whnf
  refine ⟨by decide, by decide, by decide, ?_⟩
  conv => whnf
  refine call_sn (by repeat' first | exact rfl | exact trivial | exact Nat.le_of_ble_eq_true rfl | apply And.intro) hi ?_
  conv => whnf
  clear hm hi hmin hidx
  refine .inl ⟨Nat, fun s => 5 - s, fun s => s ≤ 2 ∧ mostI 2 l X [a, b, c, d] 0 5 0 = mostI 2 l X [a, b, c, d] 0 (5 - s) s,
    fun s => ⟨[(2, .one (.c (.ptr 1 0 0))), (3, .one (.c (.ptr 2 0 0))), (7, .one (.c (vI X))), (8, .one (.c (vI 0))), (9, .one (.c (vI s)))],
      [(0, .map 4 es), (0, .box [.d (dI 2), .d (dI l), .mp 0 0]), (0, .box [.d (dI a), .d (dI b), .d (dI c), .d (dI d)])], _⟩, 0, ⟨by omega, rfl⟩, weak_of rfl ?_ rfl (Nat.le_of_ble_eq_true rfl), ?_⟩
  · (repeat' first | exact rfl | exact trivial | apply And.intro | (simp [getE]; done))
  rintro s ⟨hs, hinv⟩
  have hc : s = 0 ∨ s = 1 ∨ s = 2 := by omega
  rw [hinv]
  clear hinv
  have f : ∀ k : Nat, k ≤ 4 → IntKind.i64.wrap (X + (k : Int)) = X + k := fun k hk => wrap_i64 _ (by omega) (by omega)
  rcases hc with rfl | rfl | rfl
  · conv => whnf
    repeat' first
      | (refine Br.mk (fun hb => ?_) (fun hb => ?_) <;> conv => whnf)
      | (refine And.intro (Int.le_of_lt (by decide)) (And.intro (by decide) ?_); conv => whnf)
      | (refine And.intro (by decide) (And.intro (by decide) ?_); conv => whnf)
    · rename_i hb0
      rw [f 0 (by omega)] at hb
      refine ⟨1, ⟨by omega, ?_⟩, by decide, weak_of rfl ?_ rfl (Nat.le_of_ble_eq_true rfl)⟩
      · show mostI 2 l X [a, b, c, d] 0 (4 + 1) 0 = mostI 2 l X [a, b, c, d] 0 4 1
        rw [mostI, if_pos ⟨by omega, beq_iff_eq.1 hb0, of_decide_eq_true hb⟩]
      · have e : IntKind.i64.wrap (((0 : Nat) : Int) + 1) = ((1 : Nat) : Int) := by decide
        simp only [e]; (repeat' first | exact rfl | exact trivial | apply And.intro | (simp [getE]; done))
    · rename_i hb0
      rw [f 0 (by omega)] at hb
      refine ⟨?_, _, rfl⟩
      rw [show mostI 2 l X [a, b, c, d] 0 (5 - 0) 0 = 0 from by rw [show 5 - 0 = 4 + 1 from rfl, mostI, if_neg (fun hc => of_decide_eq_false hb hc.2.2)]]
    · refine ⟨?_, _, rfl⟩
      rw [show mostI 2 l X [a, b, c, d] 0 (5 - 0) 0 = 0 from by rw [show 5 - 0 = 4 + 1 from rfl, mostI, if_neg (fun hc => (beq_eq_false_iff_ne.1 hb) hc.2.1)]]
  · conv => whnf
    repeat' first
      | (refine Br.mk (fun hb => ?_) (fun hb => ?_) <;> conv => whnf)
      | (refine And.intro (Int.le_of_lt (by decide)) (And.intro (by decide) ?_); conv => whnf)
      | (refine And.intro (by decide) (And.intro (by decide) ?_); conv => whnf)
    · rename_i hb0
      rw [f 1 (by omega)] at hb
      refine ⟨2, ⟨by omega, ?_⟩, by decide, weak_of rfl ?_ rfl (Nat.le_of_ble_eq_true rfl)⟩
      · show mostI 2 l X [a, b, c, d] 0 (3 + 1) 1 = mostI 2 l X [a, b, c, d] 0 3 2
        rw [mostI, if_pos ⟨by omega, beq_iff_eq.1 hb0, of_decide_eq_true hb⟩]
      · have e : IntKind.i64.wrap (((1 : Nat) : Int) + 1) = ((2 : Nat) : Int) := by decide
        simp only [e]; (repeat' first | exact rfl | exact trivial | apply And.intro | (simp [getE]; done))
    · rename_i hb0
      rw [f 1 (by omega)] at hb
      refine ⟨?_, _, rfl⟩
      rw [show mostI 2 l X [a, b, c, d] 0 (5 - 1) 1 = 1 from by rw [show 5 - 1 = 3 + 1 from rfl, mostI, if_neg (fun hc => of_decide_eq_false hb hc.2.2)]]
    · refine ⟨?_, _, rfl⟩
      rw [show mostI 2 l X [a, b, c, d] 0 (5 - 1) 1 = 1 from by rw [show 5 - 1 = 3 + 1 from rfl, mostI, if_neg (fun hc => (beq_eq_false_iff_ne.1 hb) hc.2.1)]]
  · conv => whnf
    refine ⟨?_, _, rfl⟩
    rw [show mostI 2 l X [a, b, c, d] 0 (5 - 2) 2 = 2 from by rw [show 5 - 2 = 2 + 1 from rfl, mostI, if_neg (by omega)]]
theorem next_21 (es : List (List Int × DV)) (l a b c d X : Int) (hX : 0 ≤ X ∧ X ≤ 100) (hmin : minL [a, b] = X) (hidx : idxL [a, b] X = 1) :
    CallX G.P 106 [.agg [.d (dI 2), .d (dI l), .mp 0 0], .agg [.d (dI a), .d (dI b), .d (dI c), .d (dI d)]] [(0, .map 4 es)]
      (fun sv objs1 => sv = .tup [.c (vI X), .c (vI 1), .c (vI (mostI 2 l X [a, b, c, d] 1 5 0))] ∧ ∃ gs, objs1 = (0, .map 4 es) :: gs) := by
  have hm := minInts_ok a [b] (by simp)
  have hi := indexInts_ok [a, b] X (by simp)
  rw [hmin] at hm
  rw [hidx] at hi
  refine call_body (G := G) Try.func106 rfl (by decide) (Nat.le_of_ble_eq_true rfl) ?_
  conv => whnf
  refine ⟨by decide, by decide, by decide, ?_⟩
  conv => whnf
  refine call_sn (by repeat' first | exact rfl | exact trivial | exact Nat.le_of_ble_eq_true rfl | apply And.intro) hm ?_
  conv => whnf
  refine ⟨by decide, by decide, by decide, ?_⟩
  conv => whnf
  refine call_sn (by repeat' first | exact rfl | exact trivial | exact Nat.le_of_ble_eq_true rfl | apply And.intro) hi ?_
  conv => whnf
  clear hm hi hmin hidx
  refine .inl ⟨Nat, fun s => 5 - s, fun s => s ≤ 1 ∧ mostI 2 l X [a, b, c, d] 1 5 0 = mostI 2 l X [a, b, c, d] 1 (5 - s) s,
    fun s => ⟨[(2, .one (.c (.ptr 1 0 0))), (3, .one (.c (.ptr 2 0 0))), (7, .one (.c (vI X))), (8, .one (.c (vI 1))), (9, .one (.c (vI s)))],
      [(0, .map 4 es), (0, .box [.d (dI 2), .d (dI l), .mp 0 0]), (0, .box [.d (dI a), .d (dI b), .d (dI c), .d (dI d)])], _⟩, 0, ⟨by omega, rfl⟩, weak_of rfl ?_ rfl (Nat.le_of_ble_eq_true rfl), ?_⟩
  · (repeat' first | exact rfl | exact trivial | apply And.intro | (simp [getE]; done))
  rintro s ⟨hs, hinv⟩
  have hc : s = 0 ∨ s = 1 := by omega
  rw [hinv]
  clear hinv
  have f : ∀ k : Nat, k ≤ 4 → IntKind.i64.wrap (X + (k : Int)) = X + k := fun k hk => wrap_i64 _ (by omega) (by omega)
  rcases hc with rfl | rfl
  · conv => whnf
    repeat' first
      | (refine Br.mk (fun hb => ?_) (fun hb => ?_) <;> conv => whnf)
      | (refine And.intro (Int.le_of_lt (by decide)) (And.intro (by decide) ?_); conv => whnf)
      | (refine And.intro (by decide) (And.intro (by decide) ?_); conv => whnf)
    · rename_i hb0
      rw [f 0 (by omega)] at hb
      refine ⟨1, ⟨by omega, ?_⟩, by decide, weak_of rfl ?_ rfl (Nat.le_of_ble_eq_true rfl)⟩
      · show mostI 2 l X [a, b, c, d] 1 (4 + 1) 0 = mostI 2 l X [a, b, c, d] 1 4 1
        rw [mostI, if_pos ⟨by omega, beq_iff_eq.1 hb0, of_decide_eq_true hb⟩]
      · have e : IntKind.i64.wrap (((0 : Nat) : Int) + 1) = ((1 : Nat) : Int) := by decide
        simp only [e]; (repeat' first | exact rfl | exact trivial | apply And.intro | (simp [getE]; done))
    · rename_i hb0
      rw [f 0 (by omega)] at hb
      refine ⟨?_, _, rfl⟩
      rw [show mostI 2 l X [a, b, c, d] 1 (5 - 0) 0 = 0 from by rw [show 5 - 0 = 4 + 1 from rfl, mostI, if_neg (fun hc => of_decide_eq_false hb hc.2.2)]]
    · refine ⟨?_, _, rfl⟩
      rw [show mostI 2 l X [a, b, c, d] 1 (5 - 0) 0 = 0 from by rw [show 5 - 0 = 4 + 1 from rfl, mostI, if_neg (fun hc => (beq_eq_false_iff_ne.1 hb) hc.2.1)]]
  · conv => whnf
    refine ⟨?_, _, rfl⟩
    rw [show mostI 2 l X [a, b, c, d] 1 (5 - 1) 1 = 1 from by rw [show 5 - 1 = 3 + 1 from rfl, mostI, if_neg (by omega)]]
theorem next_30 (es : List (List Int × DV)) (l a b c d X : Int) (hX : 0 ≤ X ∧ X ≤ 100) (hmin : minL [a, b, c] = X) (hidx : idxL [a, b, c] X = 0) :
    CallX G.P 106 [.agg [.d (dI 3), .d (dI l), .mp 0 0], .agg [.d (dI a), .d (dI b), .d (dI c), .d (dI d)]] [(0, .map 4 es)]
      (fun sv objs1 => sv = .tup [.c (vI X), .c (vI 0), .c (vI (mostI 3 l X [a, b, c, d] 0 5 0))] ∧ ∃ gs, objs1 = (0, .map 4 es) :: gs) := by
  have hm := minInts_ok a [b, c] (by simp)
  have hi := indexInts_ok [a, b, c] X (by simp)
  rw [hmin] at hm
  rw [hidx] at hi
  refine call_body (G := G) Try.func106 rfl (by decide) (Nat.le_of_ble_eq_true rfl) ?_
  conv => whnf
  refine ⟨by decide, by decide, by decide, ?_⟩
  conv => whnf
  refine call_sn (by repeat' first | exact rfl | exact trivial | exact Nat.le_of_ble_eq_true rfl | apply And.intro) hm ?_
  conv => whnf
  refine ⟨by decide, by decide, by decide, ?_⟩
  conv => whnf
  refine call_sn (by repeat' first | exact rfl | exact trivial | exact Nat.le_of_ble_eq_true rfl | apply And.intro) hi ?_
  conv => whnf
  clear hm hi hmin hidx
  refine .inl ⟨Nat, fun s => 5 - s, fun s => s ≤ 3 ∧ mostI 3 l X [a, b, c, d] 0 5 0 = mostI 3 l X [a, b, c, d] 0 (5 - s) s,
    fun s => ⟨[(2, .one (.c (.ptr 1 0 0))), (3, .one (.c (.ptr 2 0 0))), (7, .one (.c (vI X))), (8, .one (.c (vI 0))), (9, .one (.c (vI s)))],
      [(0, .map 4 es), (0, .box [.d (dI 3), .d (dI l), .mp 0 0]), (0, .box [.d (dI a), .d (dI b), .d (dI c), .d (dI d)])], _⟩, 0, ⟨by omega, rfl⟩, weak_of rfl ?_ rfl (Nat.le_of_ble_eq_true rfl), ?_⟩
  · (repeat' first | exact rfl | exact trivial | apply And.intro | (simp [getE]; done))
  rintro s ⟨hs, hinv⟩
  have hc : s = 0 ∨ s = 1 ∨ s = 2 ∨ s = 3 := by omega
  rw [hinv]
  clear hinv
  have f : ∀ k : Nat, k ≤ 4 → IntKind.i64.wrap (X + (k : Int)) = X + k := fun k hk => wrap_i64 _ (by omega) (by omega)
  rcases hc with rfl | rfl | rfl | rfl
  · conv => whnf
    repeat' first
      | (refine Br.mk (fun hb => ?_) (fun hb => ?_) <;> conv => whnf)
      | (refine And.intro (Int.le_of_lt (by decide)) (And.intro (by decide) ?_); conv => whnf)
      | (refine And.intro (by decide) (And.intro (by decide) ?_); conv => whnf)
    · rename_i hb0
      rw [f 0 (by omega)] at hb
      refine ⟨1, ⟨by omega, ?_⟩, by decide, weak_of rfl ?_ rfl (Nat.le_of_ble_eq_true rfl)⟩
      · show mostI 3 l X [a, b, c, d] 0 (4 + 1) 0 = mostI 3 l X [a, b, c, d] 0 4 1
        rw [mostI, if_pos ⟨by omega, beq_iff_eq.1 hb0, of_decide_eq_true hb⟩]
      · have e : IntKind.i64.wrap (((0 : Nat) : Int) + 1) = ((1 : Nat) : Int) := by decide
        simp only [e]; (repeat' first | exact rfl | exact trivial | apply And.intro | (simp [getE]; done))
    · rename_i hb0
      rw [f 0 (by omega)] at hb
      refine ⟨?_, _, rfl⟩
      rw [show mostI 3 l X [a, b, c, d] 0 (5 - 0) 0 = 0 from by rw [show 5 - 0 = 4 + 1 from rfl, mostI, if_neg (fun hc => of_decide_eq_false hb hc.2.2)]]
    · refine ⟨?_, _, rfl⟩
      rw [show mostI 3 l X [a, b, c, d] 0 (5 - 0) 0 = 0 from by rw [show 5 - 0 = 4 + 1 from rfl, mostI, if_neg (fun hc => (beq_eq_false_iff_ne.1 hb) hc.2.1)]]
  · conv => whnf
    repeat' first
      | (refine Br.mk (fun hb => ?_) (fun hb => ?_) <;> conv => whnf)
      | (refine And.intro (Int.le_of_lt (by decide)) (And.intro (by decide) ?_); conv => whnf)
      | (refine And.intro (by decide) (And.intro (by decide) ?_); conv => whnf)
    · rename_i hb0
      rw [f 1 (by omega)] at hb
      refine ⟨2, ⟨by omega, ?_⟩, by decide, weak_of rfl ?_ rfl (Nat.le_of_ble_eq_true rfl)⟩
      · show mostI 3 l X [a, b, c, d] 0 (3 + 1) 1 = mostI 3 l X [a, b, c, d] 0 3 2
        rw [mostI, if_pos ⟨by omega, beq_iff_eq.1 hb0, of_decide_eq_true hb⟩]
      · have e : IntKind.i64.wrap (((1 : Nat) : Int) + 1) = ((2 : Nat) : Int) := by decide
        simp only [e]; (repeat' first | exact rfl | exact trivial | apply And.intro | (simp [getE]; done))
    · rename_i hb0
      rw [f 1 (by omega)] at hb
      refine ⟨?_, _, rfl⟩
      rw [show mostI 3 l X [a, b, c, d] 0 (5 - 1) 1 = 1 from by rw [show 5 - 1 = 3 + 1 from rfl, mostI, if_neg (fun hc => of_decide_eq_false hb hc.2.2)]]
    · refine ⟨?_, _, rfl⟩
      rw [show mostI 3 l X [a, b, c, d] 0 (5 - 1) 1 = 1 from by rw [show 5 - 1 = 3 + 1 from rfl, mostI, if_neg (fun hc => (beq_eq_false_iff_ne.1 hb) hc.2.1)]]
  · conv => whnf
    repeat' first
      | (refine Br.mk (fun hb => ?_) (fun hb => ?_) <;> conv => whnf)
      | (refine And.intro (Int.le_of_lt (by decide)) (And.intro (by decide) ?_); conv => whnf)
      | (refine And.intro (by decide) (And.intro (by decide) ?_); conv => whnf)
    · rename_i hb0
      rw [f 2 (by omega)] at hb
      refine ⟨3, ⟨by omega, ?_⟩, by decide, weak_of rfl ?_ rfl (Nat.le_of_ble_eq_true rfl)⟩
      · show mostI 3 l X [a, b, c, d] 0 (2 + 1) 2 = mostI 3 l X [a, b, c, d] 0 2 3
        rw [mostI, if_pos ⟨by omega, beq_iff_eq.1 hb0, of_decide_eq_true hb⟩]
      · have e : IntKind.i64.wrap (((2 : Nat) : Int) + 1) = ((3 : Nat) : Int) := by decide
        simp only [e]; (repeat' first | exact rfl | exact trivial | apply And.intro | (simp [getE]; done))
    · rename_i hb0
      rw [f 2 (by omega)] at hb
      refine ⟨?_, _, rfl⟩
      rw [show mostI 3 l X [a, b, c, d] 0 (5 - 2) 2 = 2 from by rw [show 5 - 2 = 2 + 1 from rfl, mostI, if_neg (fun hc => of_decide_eq_false hb hc.2.2)]]
    · refine ⟨?_, _, rfl⟩
      rw [show mostI 3 l X [a, b, c, d] 0 (5 - 2) 2 = 2 from by rw [show 5 - 2 = 2 + 1 from rfl, mostI, if_neg (fun hc => (beq_eq_false_iff_ne.1 hb) hc.2.1)]]
  · conv => whnf
    refine ⟨?_, _, rfl⟩
    rw [show mostI 3 l X [a, b, c, d] 0 (5 - 3) 3 = 3 from by rw [show 5 - 3 = 1 + 1 from rfl, mostI, if_neg (by omega)]]
theorem next_31 (es : List (List Int × DV)) (l a b c d X : Int) (hX : 0 ≤ X ∧ X ≤ 100) (hmin : minL [a, b, c] = X) (hidx : idxL [a, b, c] X = 1) :
    CallX G.P 106 [.agg [.d (dI 3), .d (dI l), .mp 0 0], .agg [.d (dI a), .d (dI b), .d (dI c), .d (dI d)]] [(0, .map 4 es)]
      (fun sv objs1 => sv = .tup [.c (vI X), .c (vI 1), .c (vI (mostI 3 l X [a, b, c, d] 1 5 0))] ∧ ∃ gs, objs1 = (0, .map 4 es) :: gs) := by
  have hm := minInts_ok a [b, c] (by simp)
  have hi := indexInts_ok [a, b, c] X (by simp)
  rw [hmin] at hm
  rw [hidx] at hi
  refine call_body (G := G) Try.func106 rfl (by decide) (Nat.le_of_ble_eq_true rfl) ?_
  conv => whnf
  refine ⟨by decide, by decide, by decide, ?_⟩
  conv => whnf
  refine call_sn (by repeat' first | exact rfl | exact trivial | exact Nat.le_of_ble_eq_true rfl | apply And.intro) hm ?_
  conv => whnf
  refine ⟨by decide, by decide, by decide, ?_⟩
  conv => whnf
  refine call_sn (by repeat' first | exact rfl | exact trivial | exact Nat.le_of_ble_eq_true rfl | apply And.intro) hi ?_
  conv => whnf
  clear hm hi hmin hidx
  refine .inl ⟨Nat, fun s => 5 - s, fun s => s ≤ 2 ∧ mostI 3 l X [a, b, c, d] 1 5 0 = mostI 3 l X [a, b, c, d] 1 (5 - s) s,
    fun s => ⟨[(2, .one (.c (.ptr 1 0 0))), (3, .one (.c (.ptr 2 0 0))), (7, .one (.c (vI X))), (8, .one (.c (vI 1))), (9, .one (.c (vI s)))],
      [(0, .map 4 es), (0, .box [.d (dI 3), .d (dI l), .mp 0 0]), (0, .box [.d (dI a), .d (dI b), .d (dI c), .d (dI d)])], _⟩, 0, ⟨by omega, rfl⟩, weak_of rfl ?_ rfl (Nat.le_of_ble_eq_true rfl), ?_⟩
  · (repeat' first | exact rfl | exact trivial | apply And.intro | (simp [getE]; done))
  rintro s ⟨hs, hinv⟩
  have hc : s = 0 ∨ s = 1 ∨ s = 2 := by omega
  rw [hinv]
  clear hinv
  have f : ∀ k : Nat, k ≤ 4 → IntKind.i64.wrap (X + (k : Int)) = X + k := fun k hk => wrap_i64 _ (by omega) (by omega)
  rcases hc with rfl | rfl | rfl
  · conv => whnf
    repeat' first
      | (refine Br.mk (fun hb => ?_) (fun hb => ?_) <;> conv => whnf)
      | (refine And.intro (Int.le_of_lt (by decide)) (And.intro (by decide) ?_); conv => whnf)
      | (refine And.intro (by decide) (And.intro (by decide) ?_); conv => whnf)
    · rename_i hb0
      rw [f 0 (by omega)] at hb
      refine ⟨1, ⟨by omega, ?_⟩, by decide, weak_of rfl ?_ rfl (Nat.le_of_ble_eq_true rfl)⟩
      · show mostI 3 l X [a, b, c, d] 1 (4 + 1) 0 = mostI 3 l X [a, b, c, d] 1 4 1
        rw [mostI, if_pos ⟨by omega, beq_iff_eq.1 hb0, of_decide_eq_true hb⟩]
      · have e : IntKind.i64.wrap (((0 : Nat) : Int) + 1) = ((1 : Nat) : Int) := by decide
        simp only [e]; (repeat' first | exact rfl | exact trivial | apply And.intro | (simp [getE]; done))
    · rename_i hb0
      rw [f 0 (by omega)] at hb
      refine ⟨?_, _, rfl⟩
      rw [show mostI 3 l X [a, b, c, d] 1 (5 - 0) 0 = 0 from by rw [show 5 - 0 = 4 + 1 from rfl, mostI, if_neg (fun hc => of_decide_eq_false hb hc.2.2)]]
    · refine ⟨?_, _, rfl⟩
      rw [show mostI 3 l X [a, b, c, d] 1 (5 - 0) 0 = 0 from by rw [show 5 - 0 = 4 + 1 from rfl, mostI, if_neg (fun hc => (beq_eq_false_iff_ne.1 hb) hc.2.1)]]
  · conv => whnf
    repeat' first
      | (refine Br.mk (fun hb => ?_) (fun hb => ?_) <;> conv => whnf)
      | (refine And.intro (Int.le_of_lt (by decide)) (And.intro (by decide) ?_); conv => whnf)
      | (refine And.intro (by decide) (And.intro (by decide) ?_); conv => whnf)
    · rename_i hb0
      rw [f 1 (by omega)] at hb
      refine ⟨2, ⟨by omega, ?_⟩, by decide, weak_of rfl ?_ rfl (Nat.le_of_ble_eq_true rfl)⟩
      · show mostI 3 l X [a, b, c, d] 1 (3 + 1) 1 = mostI 3 l X [a, b, c, d] 1 3 2
        rw [mostI, if_pos ⟨by omega, beq_iff_eq.1 hb0, of_decide_eq_true hb⟩]
      · have e : IntKind.i64.wrap (((1 : Nat) : Int) + 1) = ((2 : Nat) : Int) := by decide
        simp only [e]; (repeat' first | exact rfl | exact trivial | apply And.intro | (simp [getE]; done))
    · rename_i hb0
      rw [f 1 (by omega)] at hb
      refine ⟨?_, _, rfl⟩
      rw [show mostI 3 l X [a, b, c, d] 1 (5 - 1) 1 = 1 from by rw [show 5 - 1 = 3 + 1 from rfl, mostI, if_neg (fun hc => of_decide_eq_false hb hc.2.2)]]
    · refine ⟨?_, _, rfl⟩
      rw [show mostI 3 l X [a, b, c, d] 1 (5 - 1) 1 = 1 from by rw [show 5 - 1 = 3 + 1 from rfl, mostI, if_neg (fun hc => (beq_eq_false_iff_ne.1 hb) hc.2.1)]]
  · conv => whnf
    refine ⟨?_, _, rfl⟩
    rw [show mostI 3 l X [a, b, c, d] 1 (5 - 2) 2 = 2 from by rw [show 5 - 2 = 2 + 1 from rfl, mostI, if_neg (by omega)]]
theorem next_32 (es : List (List Int × DV)) (l a b c d X : Int) (hX : 0 ≤ X ∧ X ≤ 100) (hmin : minL [a, b, c] = X) (hidx : idxL [a, b, c] X = 2) :
    CallX G.P 106 [.agg [.d (dI 3), .d (dI l), .mp 0 0], .agg [.d (dI a), .d (dI b), .d (dI c), .d (dI d)]] [(0, .map 4 es)]
      (fun sv objs1 => sv = .tup [.c (vI X), .c (vI 2), .c (vI (mostI 3 l X [a, b, c, d] 2 5 0))] ∧ ∃ gs, objs1 = (0, .map 4 es) :: gs) := by
  have hm := minInts_ok a [b, c] (by simp)
  have hi := indexInts_ok [a, b, c] X (by simp)
  rw [hmin] at hm
  rw [hidx] at hi
  refine call_body (G := G) Try.func106 rfl (by decide) (Nat.le_of_ble_eq_true rfl) ?_
  conv => whnf
  refine ⟨by decide, by decide, by decide, ?_⟩
  conv => whnf
  refine call_sn (by repeat' first | exact rfl | exact trivial | exact Nat.le_of_ble_eq_true rfl | apply And.intro) hm ?_
  conv => whnf
  refine ⟨by decide, by decide, by decide, ?_⟩
  conv => whnf
  refine call_sn (by repeat' first | exact rfl | exact trivial | exact Nat.le_of_ble_eq_true rfl | apply And.intro) hi ?_
  conv => whnf
  clear hm hi hmin hidx
  refine .inl ⟨Nat, fun s => 5 - s, fun s => s ≤ 1 ∧ mostI 3 l X [a, b, c, d] 2 5 0 = mostI 3 l X [a, b, c, d] 2 (5 - s) s,
    fun s => ⟨[(2, .one (.c (.ptr 1 0 0))), (3, .one (.c (.ptr 2 0 0))), (7, .one (.c (vI X))), (8, .one (.c (vI 2))), (9, .one (.c (vI s)))],
      [(0, .map 4 es), (0, .box [.d (dI 3), .d (dI l), .mp 0 0]), (0, .box [.d (dI a), .d (dI b), .d (dI c), .d (dI d)])], _⟩, 0, ⟨by omega, rfl⟩, weak_of rfl ?_ rfl (Nat.le_of_ble_eq_true rfl), ?_⟩
  · (repeat' first | exact rfl | exact trivial | apply And.intro | (simp [getE]; done))
  rintro s ⟨hs, hinv⟩
  have hc : s = 0 ∨ s = 1 := by omega
  rw [hinv]
  clear hinv
  have f : ∀ k : Nat, k ≤ 4 → IntKind.i64.wrap (X + (k : Int)) = X + k := fun k hk => wrap_i64 _ (by omega) (by omega)
  rcases hc with rfl | rfl
  · conv => whnf
    repeat' first
      | (refine Br.mk (fun hb => ?_) (fun hb => ?_) <;> conv => whnf)
      | (refine And.intro (Int.le_of_lt (by decide)) (And.intro (by decide) ?_); conv => whnf)
      | (refine And.intro (by decide) (And.intro (by decide) ?_); conv => whnf)
    · rename_i hb0
      rw [f 0 (by omega)] at hb
      refine ⟨1, ⟨by omega, ?_⟩, by decide, weak_of rfl ?_ rfl (Nat.le_of_ble_eq_true rfl)⟩
      · show mostI 3 l X [a, b, c, d] 2 (4 + 1) 0 = mostI 3 l X [a, b, c, d] 2 4 1
        rw [mostI, if_pos ⟨by omega, beq_iff_eq.1 hb0, of_decide_eq_true hb⟩]
      · have e : IntKind.i64.wrap (((0 : Nat) : Int) + 1) = ((1 : Nat) : Int) := by decide
        simp only [e]; (repeat' first | exact rfl | exact trivial | apply And.intro | (simp [getE]; done))
    · rename_i hb0
      rw [f 0 (by omega)] at hb
      refine ⟨?_, _, rfl⟩
      rw [show mostI 3 l X [a, b, c, d] 2 (5 - 0) 0 = 0 from by rw [show 5 - 0 = 4 + 1 from rfl, mostI, if_neg (fun hc => of_decide_eq_false hb hc.2.2)]]
    · refine ⟨?_, _, rfl⟩
      rw [show mostI 3 l X [a, b, c, d] 2 (5 - 0) 0 = 0 from by rw [show 5 - 0 = 4 + 1 from rfl, mostI, if_neg (fun hc => (beq_eq_false_iff_ne.1 hb) hc.2.1)]]
  · conv => whnf
    refine ⟨?_, _, rfl⟩
    rw [show mostI 3 l X [a, b, c, d] 2 (5 - 1) 1 = 1 from by rw [show 5 - 1 = 3 + 1 from rfl, mostI, if_neg (by omega)]]
theorem next_40 (es : List (List Int × DV)) (l a b c d X : Int) (hX : 0 ≤ X ∧ X ≤ 100) (hmin : minL [a, b, c, d] = X) (hidx : idxL [a, b, c, d] X = 0) :
    CallX G.P 106 [.agg [.d (dI 4), .d (dI l), .mp 0 0], .agg [.d (dI a), .d (dI b), .d (dI c), .d (dI d)]] [(0, .map 4 es)]
      (fun sv objs1 => sv = .tup [.c (vI X), .c (vI 0), .c (vI (mostI 4 l X [a, b, c, d] 0 5 0))] ∧ ∃ gs, objs1 = (0, .map 4 es) :: gs) := by
  have hm := minInts_ok a [b, c, d] (by simp)
  have hi := indexInts_ok [a, b, c, d] X (by simp)
  rw [hmin] at hm
  rw [hidx] at hi
  refine call_body (G := G) Try.func106 rfl (by decide) (Nat.le_of_ble_eq_true rfl) ?_
  conv => whnf
  refine ⟨by decide, by decide, by decide, ?_⟩
  conv => whnf
  refine call_sn (by repeat' first | exact rfl | exact trivial | exact Nat.le_of_ble_eq_true rfl | apply And.intro) hm ?_
  conv => whnf
  refine ⟨by decide, by decide, by decide, ?_⟩
  conv => whnf
  refine call_sn (by repeat' first | exact rfl | exact trivial | exact Nat.le_of_ble_eq_true rfl | apply And.intro) hi ?_
  conv => whnf
  clear hm hi hmin hidx
  refine .inl ⟨Nat, fun s => 5 - s, fun s => s ≤ 4 ∧ mostI 4 l X [a, b, c, d] 0 5 0 = mostI 4 l X [a, b, c, d] 0 (5 - s) s,
    fun s => ⟨[(2, .one (.c (.ptr 1 0 0))), (3, .one (.c (.ptr 2 0 0))), (7, .one (.c (vI X))), (8, .one (.c (vI 0))), (9, .one (.c (vI s)))],
      [(0, .map 4 es), (0, .box [.d (dI 4), .d (dI l), .mp 0 0]), (0, .box [.d (dI a), .d (dI b), .d (dI c), .d (dI d)])], _⟩, 0, ⟨by omega, rfl⟩, weak_of rfl ?_ rfl (Nat.le_of_ble_eq_true rfl), ?_⟩
  · (repeat' first | exact rfl | exact trivial | apply And.intro | (simp [getE]; done))
  rintro s ⟨hs, hinv⟩
  have hc : s = 0 ∨ s = 1 ∨ s = 2 ∨ s = 3 ∨ s = 4 := by omega
  rw [hinv]
  clear hinv
  have f : ∀ k : Nat, k ≤ 4 → IntKind.i64.wrap (X + (k : Int)) = X + k := fun k hk => wrap_i64 _ (by omega) (by omega)
  rcases hc with rfl | rfl | rfl | rfl | rfl
  · conv => whnf
    repeat' first
      | (refine Br.mk (fun hb => ?_) (fun hb => ?_) <;> conv => whnf)
      | (refine And.intro (Int.le_of_lt (by decide)) (And.intro (by decide) ?_); conv => whnf)
      | (refine And.intro (by decide) (And.intro (by decide) ?_); conv => whnf)
    · rename_i hb0
      rw [f 0 (by omega)] at hb
      refine ⟨1, ⟨by omega, ?_⟩, by decide, weak_of rfl ?_ rfl (Nat.le_of_ble_eq_true rfl)⟩
      · show mostI 4 l X [a, b, c, d] 0 (4 + 1) 0 = mostI 4 l X [a, b, c, d] 0 4 1
        rw [mostI, if_pos ⟨by omega, beq_iff_eq.1 hb0, of_decide_eq_true hb⟩]
      · have e : IntKind.i64.wrap (((0 : Nat) : Int) + 1) = ((1 : Nat) : Int) := by decide
        simp only [e]; (repeat' first | exact rfl | exact trivial | apply And.intro | (simp [getE]; done))
    · rename_i hb0
      rw [f 0 (by omega)] at hb
      refine ⟨?_, _, rfl⟩
      rw [show mostI 4 l X [a, b, c, d] 0 (5 - 0) 0 = 0 from by rw [show 5 - 0 = 4 + 1 from rfl, mostI, if_neg (fun hc => of_decide_eq_false hb hc.2.2)]]
    · refine ⟨?_, _, rfl⟩
      rw [show mostI 4 l X [a, b, c, d] 0 (5 - 0) 0 = 0 from by rw [show 5 - 0 = 4 + 1 from rfl, mostI, if_neg (fun hc => (beq_eq_false_iff_ne.1 hb) hc.2.1)]]
  · conv => whnf
    repeat' first
      | (refine Br.mk (fun hb => ?_) (fun hb => ?_) <;> conv => whnf)
      | (refine And.intro (Int.le_of_lt (by decide)) (And.intro (by decide) ?_); conv => whnf)
      | (refine And.intro (by decide) (And.intro (by decide) ?_); conv => whnf)
    · rename_i hb0
      rw [f 1 (by omega)] at hb
      refine ⟨2, ⟨by omega, ?_⟩, by decide, weak_of rfl ?_ rfl (Nat.le_of_ble_eq_true rfl)⟩
      · show mostI 4 l X [a, b, c, d] 0 (3 + 1) 1 = mostI 4 l X [a, b, c, d] 0 3 2
        rw [mostI, if_pos ⟨by omega, beq_iff_eq.1 hb0, of_decide_eq_true hb⟩]
      · have e : IntKind.i64.wrap (((1 : Nat) : Int) + 1) = ((2 : Nat) : Int) := by decide
        simp only [e]; (repeat' first | exact rfl | exact trivial | apply And.intro | (simp [getE]; done))
    · rename_i hb0
      rw [f 1 (by omega)] at hb
      refine ⟨?_, _, rfl⟩
      rw [show mostI 4 l X [a, b, c, d] 0 (5 - 1) 1 = 1 from by rw [show 5 - 1 = 3 + 1 from rfl, mostI, if_neg (fun hc => of_decide_eq_false hb hc.2.2)]]
    · refine ⟨?_, _, rfl⟩
      rw [show mostI 4 l X [a, b, c, d] 0 (5 - 1) 1 = 1 from by rw [show 5 - 1 = 3 + 1 from rfl, mostI, if_neg (fun hc => (beq_eq_false_iff_ne.1 hb) hc.2.1)]]
  · conv => whnf
    repeat' first
      | (refine Br.mk (fun hb => ?_) (fun hb => ?_) <;> conv => whnf)
      | (refine And.intro (Int.le_of_lt (by decide)) (And.intro (by decide) ?_); conv => whnf)
      | (refine And.intro (by decide) (And.intro (by decide) ?_); conv => whnf)
    · rename_i hb0
      rw [f 2 (by omega)] at hb
      refine ⟨3, ⟨by omega, ?_⟩, by decide, weak_of rfl ?_ rfl (Nat.le_of_ble_eq_true rfl)⟩
      · show mostI 4 l X [a, b, c, d] 0 (2 + 1) 2 = mostI 4 l X [a, b, c, d] 0 2 3
        rw [mostI, if_pos ⟨by omega, beq_iff_eq.1 hb0, of_decide_eq_true hb⟩]
      · have e : IntKind.i64.wrap (((2 : Nat) : Int) + 1) = ((3 : Nat) : Int) := by decide
        simp only [e]; (repeat' first | exact rfl | exact trivial | apply And.intro | (simp [getE]; done))
    · rename_i hb0
      rw [f 2 (by omega)] at hb
      refine ⟨?_, _, rfl⟩
      rw [show mostI 4 l X [a, b, c, d] 0 (5 - 2) 2 = 2 from by rw [show 5 - 2 = 2 + 1 from rfl, mostI, if_neg (fun hc => of_decide_eq_false hb hc.2.2)]]
    · refine ⟨?_, _, rfl⟩
      rw [show mostI 4 l X [a, b, c, d] 0 (5 - 2) 2 = 2 from by rw [show 5 - 2 = 2 + 1 from rfl, mostI, if_neg (fun hc => (beq_eq_false_iff_ne.1 hb) hc.2.1)]]
  · conv => whnf
    repeat' first
      | (refine Br.mk (fun hb => ?_) (fun hb => ?_) <;> conv => whnf)
      | (refine And.intro (Int.le_of_lt (by decide)) (And.intro (by decide) ?_); conv => whnf)
      | (refine And.intro (by decide) (And.intro (by decide) ?_); conv => whnf)
    · rename_i hb0
      rw [f 3 (by omega)] at hb
      refine ⟨4, ⟨by omega, ?_⟩, by decide, weak_of rfl ?_ rfl (Nat.le_of_ble_eq_true rfl)⟩
      · show mostI 4 l X [a, b, c, d] 0 (1 + 1) 3 = mostI 4 l X [a, b, c, d] 0 1 4
        rw [mostI, if_pos ⟨by omega, beq_iff_eq.1 hb0, of_decide_eq_true hb⟩]
      · have e : IntKind.i64.wrap (((3 : Nat) : Int) + 1) = ((4 : Nat) : Int) := by decide
        simp only [e]; (repeat' first | exact rfl | exact trivial | apply And.intro | (simp [getE]; done))
    · rename_i hb0
      rw [f 3 (by omega)] at hb
      refine ⟨?_, _, rfl⟩
      rw [show mostI 4 l X [a, b, c, d] 0 (5 - 3) 3 = 3 from by rw [show 5 - 3 = 1 + 1 from rfl, mostI, if_neg (fun hc => of_decide_eq_false hb hc.2.2)]]
    · refine ⟨?_, _, rfl⟩
      rw [show mostI 4 l X [a, b, c, d] 0 (5 - 3) 3 = 3 from by rw [show 5 - 3 = 1 + 1 from rfl, mostI, if_neg (fun hc => (beq_eq_false_iff_ne.1 hb) hc.2.1)]]
  · conv => whnf
    refine ⟨?_, _, rfl⟩
    rw [show mostI 4 l X [a, b, c, d] 0 (5 - 4) 4 = 4 from by rw [show 5 - 4 = 0 + 1 from rfl, mostI, if_neg (by omega)]]
theorem next_41 (es : List (List Int × DV)) (l a b c d X : Int) (hX : 0 ≤ X ∧ X ≤ 100) (hmin : minL [a, b, c, d] = X) (hidx : idxL [a, b, c, d] X = 1) :
    CallX G.P 106 [.agg [.d (dI 4), .d (dI l), .mp 0 0], .agg [.d (dI a), .d (dI b), .d (dI c), .d (dI d)]] [(0, .map 4 es)]
      (fun sv objs1 => sv = .tup [.c (vI X), .c (vI 1), .c (vI (mostI 4 l X [a, b, c, d] 1 5 0))] ∧ ∃ gs, objs1 = (0, .map 4 es) :: gs) := by
  have hm := minInts_ok a [b, c, d] (by simp)
  have hi := indexInts_ok [a, b, c, d] X (by simp)
  rw [hmin] at hm
  rw [hidx] at hi
  refine call_body (G := G) Try.func106 rfl (by decide) (Nat.le_of_ble_eq_true rfl) ?_
  conv => whnf
  refine ⟨by decide, by decide, by decide, ?_⟩
  conv => whnf
  refine call_sn (by repeat' first | exact rfl | exact trivial | exact Nat.le_of_ble_eq_true rfl | apply And.intro) hm ?_
  conv => whnf
  refine ⟨by decide, by decide, by decide, ?_⟩
  conv => whnf
  refine call_sn (by repeat' first | exact rfl | exact trivial | exact Nat.le_of_ble_eq_true rfl | apply And.intro) hi ?_
  conv => whnf
  clear hm hi hmin hidx
  refine .inl ⟨Nat, fun s => 5 - s, fun s => s ≤ 3 ∧ mostI 4 l X [a, b, c, d] 1 5 0 = mostI 4 l X [a, b, c, d] 1 (5 - s) s,
    fun s => ⟨[(2, .one (.c (.ptr 1 0 0))), (3, .one (.c (.ptr 2 0 0))), (7, .one (.c (vI X))), (8, .one (.c (vI 1))), (9, .one (.c (vI s)))],
      [(0, .map 4 es), (0, .box [.d (dI 4), .d (dI l), .mp 0 0]), (0, .box [.d (dI a), .d (dI b), .d (dI c), .d (dI d)])], _⟩, 0, ⟨by omega, rfl⟩, weak_of rfl ?_ rfl (Nat.le_of_ble_eq_true rfl), ?_⟩
  · (repeat' first | exact rfl | exact trivial | apply And.intro | (simp [getE]; done))
  rintro s ⟨hs, hinv⟩
  have hc : s = 0 ∨ s = 1 ∨ s = 2 ∨ s = 3 := by omega
  rw [hinv]
  clear hinv
  have f : ∀ k : Nat, k ≤ 4 → IntKind.i64.wrap (X + (k : Int)) = X + k := fun k hk => wrap_i64 _ (by omega) (by omega)
  rcases hc with rfl | rfl | rfl | rfl
  · conv => whnf
    repeat' first
      | (refine Br.mk (fun hb => ?_) (fun hb => ?_) <;> conv => whnf)
      | (refine And.intro (Int.le_of_lt (by decide)) (And.intro (by decide) ?_); conv => whnf)
      | (refine And.intro (by decide) (And.intro (by decide) ?_); conv => whnf)
    · rename_i hb0
      rw [f 0 (by omega)] at hb
      refine ⟨1, ⟨by omega, ?_⟩, by decide, weak_of rfl ?_ rfl (Nat.le_of_ble_eq_true rfl)⟩
      · show mostI 4 l X [a, b, c, d] 1 (4 + 1) 0 = mostI 4 l X [a, b, c, d] 1 4 1
        rw [mostI, if_pos ⟨by omega, beq_iff_eq.1 hb0, of_decide_eq_true hb⟩]
      · have e : IntKind.i64.wrap (((0 : Nat) : Int) + 1) = ((1 : Nat) : Int) := by decide
        simp only [e]; (repeat' first | exact rfl | exact trivial | apply And.intro | (simp [getE]; done))
    · rename_i hb0
      rw [f 0 (by omega)] at hb
      refine ⟨?_, _, rfl⟩
      rw [show mostI 4 l X [a, b, c, d] 1 (5 - 0) 0 = 0 from by rw [show 5 - 0 = 4 + 1 from rfl, mostI, if_neg (fun hc => of_decide_eq_false hb hc.2.2)]]
    · refine ⟨?_, _, rfl⟩
      rw [show mostI 4 l X [a, b, c, d] 1 (5 - 0) 0 = 0 from by rw [show 5 - 0 = 4 + 1 from rfl, mostI, if_neg (fun hc => (beq_eq_false_iff_ne.1 hb) hc.2.1)]]
  · conv => whnf
    repeat' first
      | (refine Br.mk (fun hb => ?_) (fun hb => ?_) <;> conv => whnf)
      | (refine And.intro (Int.le_of_lt (by decide)) (And.intro (by decide) ?_); conv => whnf)
      | (refine And.intro (by decide) (And.intro (by decide) ?_); conv => whnf)
    · rename_i hb0
      rw [f 1 (by omega)] at hb
      refine ⟨2, ⟨by omega, ?_⟩, by decide, weak_of rfl ?_ rfl (Nat.le_of_ble_eq_true rfl)⟩
      · show mostI 4 l X [a, b, c, d] 1 (3 + 1) 1 = mostI 4 l X [a, b, c, d] 1 3 2
        rw [mostI, if_pos ⟨by omega, beq_iff_eq.1 hb0, of_decide_eq_true hb⟩]
      · have e : IntKind.i64.wrap (((1 : Nat) : Int) + 1) = ((2 : Nat) : Int) := by decide
        simp only [e]; (repeat' first | exact rfl | exact trivial | apply And.intro | (simp [getE]; done))
    · rename_i hb0
      rw [f 1 (by omega)] at hb
      refine ⟨?_, _, rfl⟩
      rw [show mostI 4 l X [a, b, c, d] 1 (5 - 1) 1 = 1 from by rw [show 5 - 1 = 3 + 1 from rfl, mostI, if_neg (fun hc => of_decide_eq_false hb hc.2.2)]]
    · refine ⟨?_, _, rfl⟩
      rw [show mostI 4 l X [a, b, c, d] 1 (5 - 1) 1 = 1 from by rw [show 5 - 1 = 3 + 1 from rfl, mostI, if_neg (fun hc => (beq_eq_false_iff_ne.1 hb) hc.2.1)]]
  · conv => whnf
    repeat' first
      | (refine Br.mk (fun hb => ?_) (fun hb => ?_) <;> conv => whnf)
      | (refine And.intro (Int.le_of_lt (by decide)) (And.intro (by decide) ?_); conv => whnf)
      | (refine And.intro (by decide) (And.intro (by decide) ?_); conv => whnf)
    · rename_i hb0
      rw [f 2 (by omega)] at hb
      refine ⟨3, ⟨by omega, ?_⟩, by decide, weak_of rfl ?_ rfl (Nat.le_of_ble_eq_true rfl)⟩
      · show mostI 4 l X [a, b, c, d] 1 (2 + 1) 2 = mostI 4 l X [a, b, c, d] 1 2 3
        rw [mostI, if_pos ⟨by omega, beq_iff_eq.1 hb0, of_decide_eq_true hb⟩]
      · have e : IntKind.i64.wrap (((2 : Nat) : Int) + 1) = ((3 : Nat) : Int) := by decide
        simp only [e]; (repeat' first | exact rfl | exact trivial | apply And.intro | (simp [getE]; done))
    · rename_i hb0
      rw [f 2 (by omega)] at hb
      refine ⟨?_, _, rfl⟩
      rw [show mostI 4 l X [a, b, c, d] 1 (5 - 2) 2 = 2 from by rw [show 5 - 2 = 2 + 1 from rfl, mostI, if_neg (fun hc => of_decide_eq_false hb hc.2.2)]]
    · refine ⟨?_, _, rfl⟩
      rw [show mostI 4 l X [a, b, c, d] 1 (5 - 2) 2 = 2 from by rw [show 5 - 2 = 2 + 1 from rfl, mostI, if_neg (fun hc => (beq_eq_false_iff_ne.1 hb) hc.2.1)]]
  · conv => whnf
    refine ⟨?_, _, rfl⟩
    rw [show mostI 4 l X [a, b, c, d] 1 (5 - 3) 3 = 3 from by rw [show 5 - 3 = 1 + 1 from rfl, mostI, if_neg (by omega)]]
theorem next_42 (es : List (List Int × DV)) (l a b c d X : Int) (hX : 0 ≤ X ∧ X ≤ 100) (hmin : minL [a, b, c, d] = X) (hidx : idxL [a, b, c, d] X = 2) :
    CallX G.P 106 [.agg [.d (dI 4), .d (dI l), .mp 0 0], .agg [.d (dI a), .d (dI b), .d (dI c), .d (dI d)]] [(0, .map 4 es)]
      (fun sv objs1 => sv = .tup [.c (vI X), .c (vI 2), .c (vI (mostI 4 l X [a, b, c, d] 2 5 0))] ∧ ∃ gs, objs1 = (0, .map 4 es) :: gs) := by
  have hm := minInts_ok a [b, c, d] (by simp)
  have hi := indexInts_ok [a, b, c, d] X (by simp)
  rw [hmin] at hm
  rw [hidx] at hi
  refine call_body (G := G) Try.func106 rfl (by decide) (Nat.le_of_ble_eq_true rfl) ?_
  conv => whnf
  refine ⟨by decide, by decide, by decide, ?_⟩
  conv => whnf
  refine call_sn (by repeat' first | exact rfl | exact trivial | exact Nat.le_of_ble_eq_true rfl | apply And.intro) hm ?_
  conv => whnf
  refine ⟨by decide, by decide, by decide, ?_⟩
  conv => whnf
  refine call_sn (by repeat' first | exact rfl | exact trivial | exact Nat.le_of_ble_eq_true rfl | apply And.intro) hi ?_
  conv => whnf
  clear hm hi hmin hidx
  refine .inl ⟨Nat, fun s => 5 - s, fun s => s ≤ 2 ∧ mostI 4 l X [a, b, c, d] 2 5 0 = mostI 4 l X [a, b, c, d] 2 (5 - s) s,
    fun s => ⟨[(2, .one (.c (.ptr 1 0 0))), (3, .one (.c (.ptr 2 0 0))), (7, .one (.c (vI X))), (8, .one (.c (vI 2))), (9, .one (.c (vI s)))],
      [(0, .map 4 es), (0, .box [.d (dI 4), .d (dI l), .mp 0 0]), (0, .box [.d (dI a), .d (dI b), .d (dI c), .d (dI d)])], _⟩, 0, ⟨by omega, rfl⟩, weak_of rfl ?_ rfl (Nat.le_of_ble_eq_true rfl), ?_⟩
  · (repeat' first | exact rfl | exact trivial | apply And.intro | (simp [getE]; done))
  rintro s ⟨hs, hinv⟩
  have hc : s = 0 ∨ s = 1 ∨ s = 2 := by omega
  rw [hinv]
  clear hinv
  have f : ∀ k : Nat, k ≤ 4 → IntKind.i64.wrap (X + (k : Int)) = X + k := fun k hk => wrap_i64 _ (by omega) (by omega)
  rcases hc with rfl | rfl | rfl
  · conv => whnf
    repeat' first
      | (refine Br.mk (fun hb => ?_) (fun hb => ?_) <;> conv => whnf)
      | (refine And.intro (Int.le_of_lt (by decide)) (And.intro (by decide) ?_); conv => whnf)
      | (refine And.intro (by decide) (And.intro (by decide) ?_); conv => whnf)
    · rename_i hb0
      rw [f 0 (by omega)] at hb
      refine ⟨1, ⟨by omega, ?_⟩, by decide, weak_of rfl ?_ rfl (Nat.le_of_ble_eq_true rfl)⟩
      · show mostI 4 l X [a, b, c, d] 2 (4 + 1) 0 = mostI 4 l X [a, b, c, d] 2 4 1
        rw [mostI, if_pos ⟨by omega, beq_iff_eq.1 hb0, of_decide_eq_true hb⟩]
      · have e : IntKind.i64.wrap (((0 : Nat) : Int) + 1) = ((1 : Nat) : Int) := by decide
        simp only [e]; (repeat' first | exact rfl | exact trivial | apply And.intro | (simp [getE]; done))
    · rename_i hb0
      rw [f 0 (by omega)] at hb
      refine ⟨?_, _, rfl⟩
      rw [show mostI 4 l X [a, b, c, d] 2 (5 - 0) 0 = 0 from by rw [show 5 - 0 = 4 + 1 from rfl, mostI, if_neg (fun hc => of_decide_eq_false hb hc.2.2)]]
    · refine ⟨?_, _, rfl⟩
      rw [show mostI 4 l X [a, b, c, d] 2 (5 - 0) 0 = 0 from by rw [show 5 - 0 = 4 + 1 from rfl, mostI, if_neg (fun hc => (beq_eq_false_iff_ne.1 hb) hc.2.1)]]
  · conv => whnf
    repeat' first
      | (refine Br.mk (fun hb => ?_) (fun hb => ?_) <;> conv => whnf)
      | (refine And.intro (Int.le_of_lt (by decide)) (And.intro (by decide) ?_); conv => whnf)
      | (refine And.intro (by decide) (And.intro (by decide) ?_); conv => whnf)
    · rename_i hb0
      rw [f 1 (by omega)] at hb
      refine ⟨2, ⟨by omega, ?_⟩, by decide, weak_of rfl ?_ rfl (Nat.le_of_ble_eq_true rfl)⟩
      · show mostI 4 l X [a, b, c, d] 2 (3 + 1) 1 = mostI 4 l X [a, b, c, d] 2 3 2
        rw [mostI, if_pos ⟨by omega, beq_iff_eq.1 hb0, of_decide_eq_true hb⟩]
      · have e : IntKind.i64.wrap (((1 : Nat) : Int) + 1) = ((2 : Nat) : Int) := by decide
        simp only [e]; (repeat' first | exact rfl | exact trivial | apply And.intro | (simp [getE]; done))
    · rename_i hb0
      rw [f 1 (by omega)] at hb
      refine ⟨?_, _, rfl⟩
      rw [show mostI 4 l X [a, b, c, d] 2 (5 - 1) 1 = 1 from by rw [show 5 - 1 = 3 + 1 from rfl, mostI, if_neg (fun hc => of_decide_eq_false hb hc.2.2)]]
    · refine ⟨?_, _, rfl⟩
      rw [show mostI 4 l X [a, b, c, d] 2 (5 - 1) 1 = 1 from by rw [show 5 - 1 = 3 + 1 from rfl, mostI, if_neg (fun hc => (beq_eq_false_iff_ne.1 hb) hc.2.1)]]
  · conv => whnf
    refine ⟨?_, _, rfl⟩
    rw [show mostI 4 l X [a, b, c, d] 2 (5 - 2) 2 = 2 from by rw [show 5 - 2 = 2 + 1 from rfl, mostI, if_neg (by omega)]]
theorem next_43 (es : List (List Int × DV)) (l a b c d X : Int) (hX : 0 ≤ X ∧ X ≤ 100) (hmin : minL [a, b, c, d] = X) (hidx : idxL [a, b, c, d] X = 3) :
    CallX G.P 106 [.agg [.d (dI 4), .d (dI l), .mp 0 0], .agg [.d (dI a), .d (dI b), .d (dI c), .d (dI d)]] [(0, .map 4 es)]
      (fun sv objs1 => sv = .tup [.c (vI X), .c (vI 3), .c (vI (mostI 4 l X [a, b, c, d] 3 5 0))] ∧ ∃ gs, objs1 = (0, .map 4 es) :: gs) := by
  have hm := minInts_ok a [b, c, d] (by simp)
  have hi := indexInts_ok [a, b, c, d] X (by simp)
  rw [hmin] at hm
  rw [hidx] at hi
  refine call_body (G := G) Try.func106 rfl (by decide) (Nat.le_of_ble_eq_true rfl) ?_
  conv => whnf
  refine ⟨by decide, by decide, by decide, ?_⟩
  conv => whnf
  refine call_sn (by repeat' first | exact rfl | exact trivial | exact Nat.le_of_ble_eq_true rfl | apply And.intro) hm ?_
  conv => whnf
  refine ⟨by decide, by decide, by decide, ?_⟩
  conv => whnf
  refine call_sn (by repeat' first | exact rfl | exact trivial | exact Nat.le_of_ble_eq_true rfl | apply And.intro) hi ?_
  conv => whnf
  clear hm hi hmin hidx
  refine .inl ⟨Nat, fun s => 5 - s, fun s => s ≤ 1 ∧ mostI 4 l X [a, b, c, d] 3 5 0 = mostI 4 l X [a, b, c, d] 3 (5 - s) s,
    fun s => ⟨[(2, .one (.c (.ptr 1 0 0))), (3, .one (.c (.ptr 2 0 0))), (7, .one (.c (vI X))), (8, .one (.c (vI 3))), (9, .one (.c (vI s)))],
      [(0, .map 4 es), (0, .box [.d (dI 4), .d (dI l), .mp 0 0]), (0, .box [.d (dI a), .d (dI b), .d (dI c), .d (dI d)])], _⟩, 0, ⟨by omega, rfl⟩, weak_of rfl ?_ rfl (Nat.le_of_ble_eq_true rfl), ?_⟩
  · (repeat' first | exact rfl | exact trivial | apply And.intro | (simp [getE]; done))
  rintro s ⟨hs, hinv⟩
  have hc : s = 0 ∨ s = 1 := by omega
  rw [hinv]
  clear hinv
  have f : ∀ k : Nat, k ≤ 4 → IntKind.i64.wrap (X + (k : Int)) = X + k := fun k hk => wrap_i64 _ (by omega) (by omega)
  rcases hc with rfl | rfl
  · conv => whnf
    repeat' first
      | (refine Br.mk (fun hb => ?_) (fun hb => ?_) <;> conv => whnf)
      | (refine And.intro (Int.le_of_lt (by decide)) (And.intro (by decide) ?_); conv => whnf)
      | (refine And.intro (by decide) (And.intro (by decide) ?_); conv => whnf)
    · rename_i hb0
      rw [f 0 (by omega)] at hb
      refine ⟨1, ⟨by omega, ?_⟩, by decide, weak_of rfl ?_ rfl (Nat.le_of_ble_eq_true rfl)⟩
      · show mostI 4 l X [a, b, c, d] 3 (4 + 1) 0 = mostI 4 l X [a, b, c, d] 3 4 1
        rw [mostI, if_pos ⟨by omega, beq_iff_eq.1 hb0, of_decide_eq_true hb⟩]
      · have e : IntKind.i64.wrap (((0 : Nat) : Int) + 1) = ((1 : Nat) : Int) := by decide
        simp only [e]; (repeat' first | exact rfl | exact trivial | apply And.intro | (simp [getE]; done))
    · rename_i hb0
      rw [f 0 (by omega)] at hb
      refine ⟨?_, _, rfl⟩
      rw [show mostI 4 l X [a, b, c, d] 3 (5 - 0) 0 = 0 from by rw [show 5 - 0 = 4 + 1 from rfl, mostI, if_neg (fun hc => of_decide_eq_false hb hc.2.2)]]
    · refine ⟨?_, _, rfl⟩
      rw [show mostI 4 l X [a, b, c, d] 3 (5 - 0) 0 = 0 from by rw [show 5 - 0 = 4 + 1 from rfl, mostI, if_neg (fun hc => (beq_eq_false_iff_ne.1 hb) hc.2.1)]]
  · conv => whnf
    refine ⟨?_, _, rfl⟩
    rw [show mostI 4 l X [a, b, c, d] 3 (5 - 1) 1 = 1 from by rw [show 5 - 1 = 3 + 1 from rfl, mostI, if_neg (by omega)]]
end Go.Proofs.Ytbmaofepmheeeaa

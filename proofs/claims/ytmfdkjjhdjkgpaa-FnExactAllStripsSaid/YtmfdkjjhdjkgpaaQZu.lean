/- Filling by a list of sides: impl.areWithin. -/
import Derived.Test.YtmfdkjjhdjkgpaaQDcof
import Derived.Test.YtmfdkjjhdjkgpaaQDst
import Derived.Test.YtmfdkjjhdjkgpaaQZi
namespace Go.Proofs.Ytmfdkjjhdjkgpaa
open Go Go.RowKit
set_option maxRecDepth 10000
set_option maxHeartbeats 2000000
set_option linter.unusedSimpArgs false

end Go.Proofs.Ytmfdkjjhdjkgpaa

namespace Go.Proofs.Ytmfdkjjhdjkgpaa
open Go Go.RowKit
set_option maxRecDepth 10000
set_option maxHeartbeats 1000000
set_option linter.unusedSimpArgs false

theorem next_n10 (l a b c d X : Int) (hX : 0 ≤ X ∧ X ≤ 100) (hmin : minL [a] = X) (hidx : idxL [a] X = 0) :
    CallX G.P 93 [.agg [.d (dI 1), .d (dI l), .d (.v (.map none))], .agg [.d (dI a), .d (dI b), .d (dI c), .d (dI d)]] []
      (fun sv objs1 => sv = .tup [.c (vI X), .c (vI 0), .c (vI (mostI 1 l X [a, b, c, d] 0 5 0))] ∧ ∃ gs, objs1 = gs) := by
  have hm := minInts_ok a [] (by simp)
  have hi := indexInts_ok [a] X (by simp)
  rw [hmin] at hm
  rw [hidx] at hi
  refine call_body (G := G) Try.func93 rfl (by decide) (Nat.le_of_ble_eq_true rfl) ?_
  conv => whnf
  refine ⟨by decide, by decide, by decide, ?_⟩
  conv => whnf
  refine call_sn (by repeat' first | exact rfl | exact trivial | exact Nat.le_of_ble_eq_true rfl | apply And.intro) hm ?_
  conv => whnf
  refine ⟨by decide, by decide, by decide, ?_⟩
  conv => whnf
  refine call_sn (by repeat' first | exact rfl | exact trivial | exact Nat.le_of_ble_eq_true rfl | apply And.intro) hi ?_
  conv => whnf
  clear hm hi hmin hidx
  refine .inl ⟨Nat, fun s => 5 - s, fun s => s ≤ 1 ∧ mostI 1 l X [a, b, c, d] 0 5 0 = mostI 1 l X [a, b, c, d] 0 (5 - s) s,
    fun s => ⟨[(2, .one (.c (.ptr 0 0 0))), (3, .one (.c (.ptr 1 0 0))), (7, .one (.c (vI X))), (8, .one (.c (vI 0))), (9, .one (.c (vI s)))],
      [(0, .box [.d (dI 1), .d (dI l), .d (.v (.map none))]), (0, .box [.d (dI a), .d (dI b), .d (dI c), .d (dI d)])], _⟩, 0, ⟨by omega, rfl⟩, weak_of rfl ?_ rfl (Nat.le_of_ble_eq_true rfl), ?_⟩
  · (repeat' first | exact rfl | exact trivial | apply And.intro | (simp [getE]; done))
  rintro s ⟨hs, hinv⟩
  have hc : s = 0 ∨ s = 1 := by omega
  rw [hinv]
  clear hinv
  have f : ∀ k : Nat, k ≤ 4 → IntKind.i64.wrap (X + (k : Int)) = X + k := fun k hk => wrap_i64 _ (by omega) (by omega)
  rcases hc with rfl | rfl
  · conv => whnf
    repeat' first
      | (refine Br.mk (fun hb => ?_) (fun hb => ?_) <;> conv => whnf)
      | (refine And.intro (Int.le_of_lt (by decide)) (And.intro (by decide) ?_); conv => whnf)
      | (refine And.intro (by decide) (And.intro (by decide) ?_); conv => whnf)
    · rename_i hb0
      rw [f 0 (by omega)] at hb
      refine ⟨1, ⟨by omega, ?_⟩, by decide, weak_of rfl ?_ rfl (Nat.le_of_ble_eq_true rfl)⟩
      · show mostI 1 l X [a, b, c, d] 0 (4 + 1) 0 = mostI 1 l X [a, b, c, d] 0 4 1
        rw [mostI, if_pos ⟨by omega, beq_iff_eq.1 hb0, of_decide_eq_true hb⟩]
      · have e : IntKind.i64.wrap (((0 : Nat) : Int) + 1) = ((1 : Nat) : Int) := by decide
        simp only [e]; (repeat' first | exact rfl | exact trivial | apply And.intro | (simp [getE]; done))
    · rename_i hb0
      rw [f 0 (by omega)] at hb
      refine ⟨?_, _, rfl⟩
      rw [show mostI 1 l X [a, b, c, d] 0 (5 - 0) 0 = 0 from by rw [show 5 - 0 = 4 + 1 from rfl, mostI, if_neg (fun hc => of_decide_eq_false hb hc.2.2)]]
    · refine ⟨?_, _, rfl⟩
      rw [show mostI 1 l X [a, b, c, d] 0 (5 - 0) 0 = 0 from by rw [show 5 - 0 = 4 + 1 from rfl, mostI, if_neg (fun hc => (beq_eq_false_iff_ne.1 hb) hc.2.1)]]
  · conv => whnf
    refine ⟨?_, _, rfl⟩
    rw [show mostI 1 l X [a, b, c, d] 0 (5 - 1) 1 = 1 from by rw [show 5 - 1 = 3 + 1 from rfl, mostI, if_neg (by omega)]]
theorem next_n20 (l a b c d X : Int) (hX : 0 ≤ X ∧ X ≤ 100) (hmin : minL [a, b] = X) (hidx : idxL [a, b] X = 0) :
    CallX G.P 93 [.agg [.d (dI 2), .d (dI l), .d (.v (.map none))], .agg [.d (dI a), .d (dI b), .d (dI c), .d (dI d)]] []
      (fun sv objs1 => sv = .tup [.c (vI X), .c (vI 0), .c (vI (mostI 2 l X [a, b, c, d] 0 5 0))] ∧ ∃ gs, objs1 = gs) := by
  have hm := minInts_ok a [b] (by simp)
  have hi := indexInts_ok [a, b] X (by simp)
  rw [hmin] at hm
  rw [hidx] at hi
  refine call_body (G := G) Try.func93 rfl (by decide) (Nat.le_of_ble_eq_true rfl) ?_
  conv => whnf
  refine ⟨by decide, by decide, by decide, ?_⟩
  conv => whnf
  refine call_sn (by repeat' first | exact rfl | exact trivial | exact Nat.le_of_ble_eq_true rfl | apply And.intro) hm ?_
  conv => whnf
  refine ⟨by decide, by decide, by decide, ?_⟩
  conv => whnf
  refine call_sn (by repeat' first | exact rfl | exact trivial | exact Nat.le_of_ble_eq_true rfl | apply And.intro) hi ?_
  conv => whnf
  clear hm hi hmin hidx
  refine .inl ⟨Nat, fun s => 5 - s, fun s => s ≤ 2 ∧ mostI 2 l X [a, b, c, d] 0 5 0 = mostI 2 l X [a, b, c, d] 0 (5 - s) s,
    fun s => ⟨[(2, .one (.c (.ptr 0 0 0))), (3, .one (.c (.ptr 1 0 0))), (7, .one (.c (vI X))), (8, .one (.c (vI 0))), (9, .one (.c (vI s)))],
      [(0, .box [.d (dI 2), .d (dI l), .d (.v (.map none))]), (0, .box [.d (dI a), .d (dI b), .d (dI c), .d (dI d)])], _⟩, 0, ⟨by omega, rfl⟩, weak_of rfl ?_ rfl (Nat.le_of_ble_eq_true rfl), ?_⟩
  · (repeat' first | exact rfl | exact trivial | apply And.intro | (simp [getE]; done))
  rintro s ⟨hs, hinv⟩
  have hc : s = 0 ∨ s = 1 ∨ s = 2 := by omega
  rw [hinv]
  clear hinv
  have f : ∀ k : Nat, k ≤ 4 → IntKind.i64.wrap (X + (k : Int)) = X + k := fun k hk => wrap_i64 _ (by omega) (by omega)
  rcases hc with rfl | rfl | rfl
  · conv => whnf
    repeat' first
      | (refine Br.mk (fun hb => ?_) (fun hb => ?_) <;> conv => whnf)
      | (refine And.intro (Int.le_of_lt (by decide)) (And.intro (by decide) ?_); conv => whnf)
      | (refine And.intro (by decide) (And.intro (by decide) ?_); conv => whnf)
    · rename_i hb0
      rw [f 0 (by omega)] at hb
      refine ⟨1, ⟨by omega, ?_⟩, by decide, weak_of rfl ?_ rfl (Nat.le_of_ble_eq_true rfl)⟩
      · show mostI 2 l X [a, b, c, d] 0 (4 + 1) 0 = mostI 2 l X [a, b, c, d] 0 4 1
        rw [mostI, if_pos ⟨by omega, beq_iff_eq.1 hb0, of_decide_eq_true hb⟩]
      · have e : IntKind.i64.wrap (((0 : Nat) : Int) + 1) = ((1 : Nat) : Int) := by decide
        simp only [e]; (repeat' first | exact rfl | exact trivial | apply And.intro | (simp [getE]; done))
    · rename_i hb0
      rw [f 0 (by omega)] at hb
      refine ⟨?_, _, rfl⟩
      rw [show mostI 2 l X [a, b, c, d] 0 (5 - 0) 0 = 0 from by rw [show 5 - 0 = 4 + 1 from rfl, mostI, if_neg (fun hc => of_decide_eq_false hb hc.2.2)]]
    · refine ⟨?_, _, rfl⟩
      rw [show mostI 2 l X [a, b, c, d] 0 (5 - 0) 0 = 0 from by rw [show 5 - 0 = 4 + 1 from rfl, mostI, if_neg (fun hc => (beq_eq_false_iff_ne.1 hb) hc.2.1)]]
  · conv => whnf
    repeat' first
      | (refine Br.mk (fun hb => ?_) (fun hb => ?_) <;> conv => whnf)
      | (refine And.intro (Int.le_of_lt (by decide)) (And.intro (by decide) ?_); conv => whnf)
      | (refine And.intro (by decide) (And.intro (by decide) ?_); conv => whnf)
    · rename_i hb0
      rw [f 1 (by omega)] at hb
      refine ⟨2, ⟨by omega, ?_⟩, by decide, weak_of rfl ?_ rfl (Nat.le_of_ble_eq_true rfl)⟩
      · show mostI 2 l X [a, b, c, d] 0 (3 + 1) 1 = mostI 2 l X [a, b, c, d] 0 3 2
        rw [mostI, if_pos ⟨by omega, beq_iff_eq.1 hb0, of_decide_eq_true hb⟩]
      · have e : IntKind.i64.wrap (((1 : Nat) : Int) + 1) = ((2 : Nat) : Int) := by decide
        simp only [e]; (repeat' first | exact rfl | exact trivial | apply And.intro | (simp [getE]; done))
    · rename_i hb0
      rw [f 1 (by omega)] at hb
      refine ⟨?_, _, rfl⟩
      rw [show mostI 2 l X [a, b, c, d] 0 (5 - 1) 1 = 1 from by rw [show 5 - 1 = 3 + 1 from rfl, mostI, if_neg (fun hc => of_decide_eq_false hb hc.2.2)]]
    · refine ⟨?_, _, rfl⟩
      rw [show mostI 2 l X [a, b, c, d] 0 (5 - 1) 1 = 1 from by rw [show 5 - 1 = 3 + 1 from rfl, mostI, if_neg (fun hc => (beq_eq_false_iff_ne.1 hb) hc.2.1)]]
  · conv => whnf
    refine ⟨?_, _, rfl⟩
    rw [show mostI 2 l X [a, b, c, d] 0 (5 - 2) 2 = 2 from by rw [show 5 - 2 = 2 + 1 from rfl, mostI, if_neg (by omega)]]
theorem next_n21 (l a b c d X : Int) (hX : 0 ≤ X ∧ X ≤ 100) (hmin : minL [a, b] = X) (hidx : idxL [a, b] X = 1) :
    CallX G.P 93 [.agg [.d (dI 2), .d (dI l), .d (.v (.map none))], .agg [.d (dI a), .d (dI b), .d (dI c), .d (dI d)]] []
      (fun sv objs1 => sv = .tup [.c (vI X), .c (vI 1), .c (vI (mostI 2 l X [a, b, c, d] 1 5 0))] ∧ ∃ gs, objs1 = gs) := by
  have hm := minInts_ok a [b] (by simp)
  have hi := indexInts_ok [a, b] X (by simp)
  rw [hmin] at hm
  rw [hidx] at hi
  refine call_body (G := G) Try.func93 rfl (by decide) (Nat.le_of_ble_eq_true rfl) ?_
  conv => whnf
  refine ⟨by decide, by decide, by decide, ?_⟩
  conv => whnf
  refine call_sn (by repeat' first | exact rfl | exact trivial | exact Nat.le_of_ble_eq_true rfl | apply And.intro) hm ?_
  conv => whnf
  refine ⟨by decide, by decide, by decide, ?_⟩
  conv => whnf
  refine call_sn (by repeat' first | exact rfl | exact trivial | exact Nat.le_of_ble_eq_true rfl | apply And.intro) hi ?_
  conv => whnf
  clear hm hi hmin hidx
  refine .inl ⟨Nat, fun s => 5 - s, fun s => s ≤ 1 ∧ mostI 2 l X [a, b, c, d] 1 5 0 = mostI 2 l X [a, b, c, d] 1 (5 - s) s,
    fun s => ⟨[(2, .one (.c (.ptr 0 0 0))), (3, .one (.c (.ptr 1 0 0))), (7, .one (.c (vI X))), (8, .one (.c (vI 1))), (9, .one (.c (vI s)))],
      [(0, .box [.d (dI 2), .d (dI l), .d (.v (.map none))]), (0, .box [.d (dI a), .d (dI b), .d (dI c), .d (dI d)])], _⟩, 0, ⟨by omega, rfl⟩, weak_of rfl ?_ rfl (Nat.le_of_ble_eq_true rfl), ?_⟩
  · (repeat' first | exact rfl | exact trivial | apply And.intro | (simp [getE]; done))
  rintro s ⟨hs, hinv⟩
  have hc : s = 0 ∨ s = 1 := by omega
  rw [hinv]
  clear hinv
  have f : ∀ k : Nat, k ≤ 4 → IntKind.i64.wrap (X + (k : Int)) = X + k := fun k hk => wrap_i64 _ (by omega) (by omega)
  rcases hc with rfl | rfl
  · conv => whnf
    repeat' first
      | (refine Br.mk (fun hb => ?_) (fun hb => ?_) <;> conv => whnf)
      | (refine And.intro (Int.le_of_lt (by decide)) (And.intro (by decide) ?_); conv => whnf)
      | (refine And.intro (by decide) (And.intro (by decide) ?_); conv => whnf)
    · rename_i hb0
      rw [f 0 (by omega)] at hb
      refine ⟨1, ⟨by omega, ?_⟩, by decide, weak_of rfl ?_ rfl (Nat.le_of_ble_eq_true rfl)⟩
      · show mostI 2 l X [a, b, c, d] 1 (4 + 1) 0 = mostI 2 l X [a, b, c, d] 1 4 1
        rw [mostI, if_pos ⟨by omega, beq_iff_eq.1 hb0, of_decide_eq_true hb⟩]
      · have e : IntKind.i64.wrap (((0 : Nat) : Int) + 1) = ((1 : Nat) : Int) := by decide
        simp only [e]; (repeat' first | exact rfl | exact trivial | apply And.intro | (simp [getE]; done))
    · rename_i hb0
      rw [f 0 (by omega)] at hb
      refine ⟨?_, _, rfl⟩
      rw [show mostI 2 l X [a, b, c, d] 1 (5 - 0) 0 = 0 from by rw [show 5 - 0 = 4 + 1 from rfl, mostI, if_neg (fun hc => of_decide_eq_false hb hc.2.2)]]
    · refine ⟨?_, _, rfl⟩
      rw [show mostI 2 l X [a, b, c, d] 1 (5 - 0) 0 = 0 from by rw [show 5 - 0 = 4 + 1 from rfl, mostI, if_neg (fun hc => (beq_eq_false_iff_ne.1 hb) hc.2.1)]]
  · conv => whnf
    refine ⟨?_, _, rfl⟩
    rw [show mostI 2 l X [a, b, c, d] 1 (5 - 1) 1 = 1 from by rw [show 5 - 1 = 3 + 1 from rfl, mostI, if_neg (by omega)]]
theorem next_n30 (l a b c d X : Int) (hX : 0 ≤ X ∧ X ≤ 100) (hmin : minL [a, b, c] = X) (hidx : idxL [a, b, c] X = 0) :
    CallX G.P 93 [.agg [.d (dI 3), .d (dI l), .d (.v (.map none))], .agg [.d (dI a), .d (dI b), .d (dI c), .d (dI d)]] []
      (fun sv objs1 => sv = .tup [.c (vI X), .c (vI 0), .c (vI (mostI 3 l X [a, b, c, d] 0 5 0))] ∧ ∃ gs, objs1 = gs) := by
  have hm := minInts_ok a [b, c] (by simp)
  have hi := indexInts_ok [a, b, c] X (by simp)
  rw [hmin] at hm
  rw [hidx] at hi
  refine call_body (G := G) Try.func93 rfl (by decide) (Nat.le_of_ble_eq_true rfl) ?_
  conv => whnf
  refine ⟨by decide, by decide, by decide, ?_⟩
  conv => whnf
  refine call_sn (by repeat' first | exact rfl | exact trivial | exact Nat.le_of_ble_eq_true rfl | apply And.intro) hm ?_
  conv => whnf
  refine ⟨by decide, by decide, by decide, ?_⟩
  conv => whnf
  refine call_sn (by repeat' first | exact rfl | exact trivial | exact Nat.le_of_ble_eq_true rfl | apply And.intro) hi ?_
  conv => whnf
  clear hm hi hmin hidx
  refine .inl ⟨Nat, fun s => 5 - s, fun s => s ≤ 3 ∧ mostI 3 l X [a, b, c, d] 0 5 0 = mostI 3 l X [a, b, c, d] 0 (5 - s) s,
    fun s => ⟨[(2, .one (.c (.ptr 0 0 0))), (3, .one (.c (.ptr 1 0 0))), (7, .one (.c (vI X))), (8, .one (.c (vI 0))), (9, .one (.c (vI s)))],
      [(0, .box [.d (dI 3), .d (dI l), .d (.v (.map none))]), (0, .box [.d (dI a), .d (dI b), .d (dI c), .d (dI d)])], _⟩, 0, ⟨by omega, rfl⟩, weak_of rfl ?_ rfl (Nat.le_of_ble_eq_true rfl), ?_⟩
  · (repeat' first | exact rfl | exact trivial | apply And.intro | (simp [getE]; done))
  rintro s ⟨hs, hinv⟩
  have hc : s = 0 ∨ s = 1 ∨ s = 2 ∨ s = 3 := by omega
  rw [hinv]
  clear hinv
  have f : ∀ k : Nat, k ≤ 4 → IntKind.i64.wrap (X + (k : Int)) = X + k := fun k hk => wrap_i64 _ (by omega) (by omega)
  rcases hc with rfl | rfl | rfl | rfl
  · conv => whnf
    repeat' first
      | (refine Br.mk (fun hb => ?_) (fun hb => ?_) <;> conv => whnf)
      | (refine And.intro (Int.le_of_lt (by decide)) (And.intro (by decide) ?_); conv => whnf)
      | (refine And.intro (by decide) (And.intro (by decide) ?_); conv => whnf)
    · rename_i hb0
      rw [f 0 (by omega)] at hb
      refine ⟨1, ⟨by omega, ?_⟩, by decide, weak_of rfl ?_ rfl (Nat.le_of_ble_eq_true rfl)⟩
      · show mostI 3 l X [a, b, c, d] 0 (4 + 1) 0 = mostI 3 l X [a, b, c, d] 0 4 1
        rw [mostI, if_pos ⟨by omega, beq_iff_eq.1 hb0, of_decide_eq_true hb⟩]
      · have e : IntKind.i64.wrap (((0 : Nat) : Int) + 1) = ((1 : Nat) : Int) := by decide
        simp only [e]; (repeat' first | exact rfl | exact trivial | apply And.intro | (simp [getE]; done))
    · rename_i hb0
      rw [f 0 (by omega)] at hb
      refine ⟨?_, _, rfl⟩
      rw [show mostI 3 l X [a, b, c, d] 0 (5 - 0) 0 = 0 from by rw [show 5 - 0 = 4 + 1 from rfl, mostI, if_neg (fun hc => of_decide_eq_false hb hc.2.2)]]
    · refine ⟨?_, _, rfl⟩
      rw [show mostI 3 l X [a, b, c, d] 0 (5 - 0) 0 = 0 from by rw [show 5 - 0 = 4 + 1 from rfl, mostI, if_neg (fun hc => (beq_eq_false_iff_ne.1 hb) hc.2.1)]]
  · conv => whnf
    repeat' first
      | (refine Br.mk (fun hb => ?_) (fun hb => ?_) <;> conv => whnf)
      | (refine And.intro (Int.le_of_lt (by decide)) (And.intro (by decide) ?_); conv => whnf)
      | (refine And.intro (by decide) (And.intro (by decide) ?_); conv => whnf)
    · rename_i hb0
      rw [f 1 (by omega)] at hb
      refine ⟨2, ⟨by omega, ?_⟩, by decide, weak_of rfl ?_ rfl (Nat.le_of_ble_eq_true rfl)⟩
      · show mostI 3 l X [a, b, c, d] 0 (3 + 1) 1 = mostI 3 l X [a, b, c, d] 0 3 2
        rw [mostI, if_pos ⟨by omega, beq_iff_eq.1 hb0, of_decide_eq_true hb⟩]
      · have e : IntKind.i64.wrap (((1 : Nat) : Int) + 1) = ((2 : Nat) : Int) := by decide
        simp only [e]; (repeat' first | exact rfl | exact trivial | apply And.intro | (simp [getE]; done))
    · rename_i hb0
      rw [f 1 (by omega)] at hb
      refine ⟨?_, _, rfl⟩
      rw [show mostI 3 l X [a, b, c, d] 0 (5 - 1) 1 = 1 from by rw [show 5 - 1 = 3 + 1 from rfl, mostI, if_neg (fun hc => of_decide_eq_false hb hc.2.2)]]
    · refine ⟨?_, _, rfl⟩
      rw [show mostI 3 l X [a, b, c, d] 0 (5 - 1) 1 = 1 from by rw [show 5 - 1 = 3 + 1 from rfl, mostI, if_neg (fun hc => (beq_eq_false_iff_ne.1 hb) hc.2.1)]]
  · conv => whnf
    repeat' first
      | (refine Br.mk (fun hb => ?_) (fun hb => ?_) <;> conv => whnf)
      | (refine And.intro (Int.le_of_lt (by decide)) (And.intro (by decide) ?_); conv => whnf)
      | (refine And.intro (by decide) (And.intro (by decide) ?_); conv => whnf)
    · rename_i hb0
      rw [f 2 (by omega)] at hb
      refine ⟨3, ⟨by omega, ?_⟩, by decide, weak_of rfl ?_ rfl (Nat.le_of_ble_eq_true rfl)⟩
      · show mostI 3 l X [a, b, c, d] 0 (2 + 1) 2 = mostI 3 l X [a, b, c, d] 0 2 3
        rw [mostI, if_pos ⟨by omega, beq_iff_eq.1 hb0, of_decide_eq_true hb⟩]
      · have e : IntKind.i64.wrap (((2 : Nat) : Int) + 1) = ((3 : Nat) : Int) := by decide
        simp only [e]; (repeat' first | exact rfl | exact trivial | apply And.intro | (simp [getE]; done))
    · rename_i hb0
      rw [f 2 (by omega)] at hb
      refine ⟨?_, _, rfl⟩
      rw [show mostI 3 l X [a, b, c, d] 0 (5 - 2) 2 = 2 from by rw [show 5 - 2 = 2 + 1 from rfl, mostI, if_neg (fun hc => of_decide_eq_false hb hc.2.2)]]
    · refine ⟨?_, _, rfl⟩
      rw [show mostI 3 l X [a, b, c, d] 0 (5 - 2) 2 = 2 from by rw [show 5 - 2 = 2 + 1 from rfl, mostI, if_neg (fun hc => (beq_eq_false_iff_ne.1 hb) hc.2.1)]]
  · conv => whnf
    refine ⟨?_, _, rfl⟩
    rw [show mostI 3 l X [a, b, c, d] 0 (5 - 3) 3 = 3 from by rw [show 5 - 3 = 1 + 1 from rfl, mostI, if_neg (by omega)]]
theorem next_n31 (l a b c d X : Int) (hX : 0 ≤ X ∧ X ≤ 100) (hmin : minL [a, b, c] = X) (hidx : idxL [a, b, c] X = 1) :
    CallX G.P 93 [.agg [.d (dI 3), .d (dI l), .d (.v (.map none))], .agg [.d (dI a), .d (dI b), .d (dI c), .d (dI d)]] []
      (fun sv objs1 => sv = .tup [.c (vI X), .c (vI 1), .c (vI (mostI 3 l X [a, b, c, d] 1 5 0))] ∧ ∃ gs, objs1 = gs) := by
  have hm := minInts_ok a [b, c] (by simp)
  have hi := indexInts_ok [a, b, c] X (by simp)
  rw [hmin] at hm
  rw [hidx] at hi
  refine call_body (G := G) Try.func93 rfl (by decide) (Nat.le_of_ble_eq_true rfl) ?_
  conv => whnf
  refine ⟨by decide, by decide, by decide, ?_⟩
  conv => whnf
  refine call_sn (by repeat' first | exact rfl | exact trivial | exact Nat.le_of_ble_eq_true rfl | apply And.intro) hm ?_
  conv => whnf
  refine ⟨by decide, by decide, by decide, ?_⟩
  conv => whnf
  refine call_sn (by repeat' first | exact rfl | exact trivial | exact Nat.le_of_ble_eq_true rfl | apply And.intro) hi ?_
  conv => whnf
  clear hm hi hmin hidx
  refine .inl ⟨Nat, fun s => 5 - s, fun s => s ≤ 2 ∧ mostI 3 l X [a, b, c, d] 1 5 0 = mostI 3 l X [a, b, c, d] 1 (5 - s) s,
    fun s => ⟨[(2, .one (.c (.ptr 0 0 0))), (3, .one (.c (.ptr 1 0 0))), (7, .one (.c (vI X))), (8, .one (.c (vI 1))), (9, .one (.c (vI s)))],
      [(0, .box [.d (dI 3), .d (dI l), .d (.v (.map none))]), (0, .box [.d (dI a), .d (dI b), .d (dI c), .d (dI d)])], _⟩, 0, ⟨by omega, rfl⟩, weak_of rfl ?_ rfl (Nat.le_of_ble_eq_true rfl), ?_⟩
  · (repeat' first | exact rfl | exact trivial | apply And.intro | (simp [getE]; done))
  rintro s ⟨hs, hinv⟩
  have hc : s = 0 ∨ s = 1 ∨ s = 2 := by omega
  rw [hinv]
  clear hinv
  have f : ∀ k : Nat, k ≤ 4 → IntKind.i64.wrap (X + (k : Int)) = X + k := fun k hk => wrap_i64 _ (by omega) (by omega)
  rcases hc with rfl | rfl | rfl
  · conv => whnf
    repeat' first
      | (refine Br.mk (fun hb => ?_) (fun hb => ?_) <;> conv => whnf)
      | (refine And.intro (Int.le_of_lt (by decide)) (And.intro (by decide) ?_); conv => whnf)
      | (refine And.intro (by decide) (And.intro (by decide) ?_); conv => whnf)
    · rename_i hb0
      rw [f 0 (by omega)] at hb
      refine ⟨1, ⟨by omega, ?_⟩, by decide, weak_of rfl ?_ rfl (Nat.le_of_ble_eq_true rfl)⟩
      · show mostI 3 l X [a, b, c, d] 1 (4 + 1) 0 = mostI 3 l X [a, b, c, d] 1 4 1
        rw [mostI, if_pos ⟨by omega, beq_iff_eq.1 hb0, of_decide_eq_true hb⟩]
      · have e : IntKind.i64.wrap (((0 : Nat) : Int) + 1) = ((1 : Nat) : Int) := by decide
        simp only [e]; (repeat' first | exact rfl | exact trivial | apply And.intro | (simp [getE]; done))
    · rename_i hb0
      rw [f 0 (by omega)] at hb
      refine ⟨?_, _, rfl⟩
      rw [show mostI 3 l X [a, b, c, d] 1 (5 - 0) 0 = 0 from by rw [show 5 - 0 = 4 + 1 from rfl, mostI, if_neg (fun hc => of_decide_eq_false hb hc.2.2)]]
    · refine ⟨?_, _, rfl⟩
      rw [show mostI 3 l X [a, b, c, d] 1 (5 - 0) 0 = 0 from by rw [show 5 - 0 = 4 + 1 from rfl, mostI, if_neg (fun hc => (beq_eq_false_iff_ne.1 hb) hc.2.1)]]
  · conv => whnf
    repeat' first
      | (refine Br.mk (fun hb => ?_) (fun hb => ?_) <;> conv => whnf)
      | (refine And.intro (Int.le_of_lt (by decide)) (And.intro (by decide) ?_); conv => whnf)
      | (refine And.intro (by decide) (And.intro (by decide) ?_); conv => whnf)
    · rename_i hb0
      rw [f 1 (by omega)] at hb
      refine ⟨2, ⟨by omega, ?_⟩, by decide, weak_of rfl ?_ rfl (Nat.le_of_ble_eq_true rfl)⟩
      · show mostI 3 l X [a, b, c, d] 1 (3 + 1) 1 = mostI 3 l X [a, b, c, d] 1 3 2
        rw [mostI, if_pos ⟨by omega, beq_iff_eq.1 hb0, of_decide_eq_true hb⟩]
      · have e : IntKind.i64.wrap (((1 : Nat) : Int) + 1) = ((2 : Nat) : Int) := by decide
        simp only [e]; (repeat' first | exact rfl | exact trivial | apply And.intro | (simp [getE]; done))
    · rename_i hb0
      rw [f 1 (by omega)] at hb
      refine ⟨?_, _, rfl⟩
      rw [show mostI 3 l X [a, b, c, d] 1 (5 - 1) 1 = 1 from by rw [show 5 - 1 = 3 + 1 from rfl, mostI, if_neg (fun hc => of_decide_eq_false hb hc.2.2)]]
    · refine ⟨?_, _, rfl⟩
      rw [show mostI 3 l X [a, b, c, d] 1 (5 - 1) 1 = 1 from by rw [show 5 - 1 = 3 + 1 from rfl, mostI, if_neg (fun hc => (beq_eq_false_iff_ne.1 hb) hc.2.1)]]
  · conv => whnf
    refine ⟨?_, _, rfl⟩
    rw [show mostI 3 l X [a, b, c, d] 1 (5 - 2) 2 = 2 from by rw [show 5 - 2 = 2 + 1 from rfl, mostI, if_neg (by omega)]]
theorem next_n32 (l a b c d X : Int) (hX : 0 ≤ X ∧ X ≤ 100) (hmin : minL [a, b, c] = X) (hidx : idxL [a, b, c] X = 2) :
    CallX G.P 93 [.agg [.d (dI 3), .d (dI l), .d (.v (.map none))], .agg [.d (dI a), .d (dI b), .d (dI c), .d (dI d)]] []
      (fun sv objs1 => sv = .tup [.c (vI X), .c (vI 2), .c (vI (mostI 3 l X [a, b, c, d] 2 5 0))] ∧ ∃ gs, objs1 = gs) := by
  have hm := minInts_ok a [b, c] (by simp)
  have hi := indexInts_ok [a, b, c] X (by simp)
  rw [hmin] at hm
  rw [hidx] at hi
  refine call_body (G := G) Try.func93 rfl (by decide) (Nat.le_of_ble_eq_true rfl) ?_
  conv => whnf
  refine ⟨by decide, by decide, by decide, ?_⟩
  conv => whnf
  refine call_sn (by repeat' first | exact rfl | exact trivial | exact Nat.le_of_ble_eq_true rfl | apply And.intro) hm ?_
  conv => whnf
  refine ⟨by decide, by decide, by decide, ?_⟩
  conv => whnf
  refine call_sn (by repeat' first | exact rfl | exact trivial | exact Nat.le_of_ble_eq_true rfl | apply And.intro) hi ?_
  conv => whnf
  clear hm hi hmin hidx
  refine .inl ⟨Nat, fun s => 5 - s, fun s => s ≤ 1 ∧ mostI 3 l X [a, b, c, d] 2 5 0 = mostI 3 l X [a, b, c, d] 2 (5 - s) s,
    fun s => ⟨[(2, .one (.c (.ptr 0 0 0))), (3, .one (.c (.ptr 1 0 0))), (7, .one (.c (vI X))), (8, .one (.c (vI 2))), (9, .one (.c (vI s)))],
      [(0, .box [.d (dI 3), .d (dI l), .d (.v (.map none))]), (0, .box [.d (dI a), .d (dI b), .d (dI c), .d (dI d)])], _⟩, 0, ⟨by omega, rfl⟩, weak_of rfl ?_ rfl (Nat.le_of_ble_eq_true rfl), ?_⟩
  · (repeat' first | exact rfl | exact trivial | apply And.intro | (simp [getE]; done))
  rintro s ⟨hs, hinv⟩
  have hc : s = 0 ∨ s = 1 := by omega
  rw [hinv]
  clear hinv
  have f : ∀ k : Nat, k ≤ 4 → IntKind.i64.wrap (X + (k : Int)) = X + k := fun k hk => wrap_i64 _ (by omega) (by omega)
  rcases hc with rfl | rfl
  · conv => whnf
    repeat' first
      | (refine Br.mk (fun hb => ?_) (fun hb => ?_) <;> conv => whnf)
      | (refine And.intro (Int.le_of_lt (by decide)) (And.intro (by decide) ?_); conv => whnf)
      | (refine And.intro (by decide) (And.intro (by decide) ?_); conv => whnf)
    · rename_i hb0
      rw [f 0 (by omega)] at hb
      refine ⟨1, ⟨by omega, ?_⟩, by decide, weak_of rfl ?_ rfl (Nat.le_of_ble_eq_true rfl)⟩
      · show mostI 3 l X [a, b, c, d] 2 (4 + 1) 0 = mostI 3 l X [a, b, c, d] 2 4 1
        rw [mostI, if_pos ⟨by omega, beq_iff_eq.1 hb0, of_decide_eq_true hb⟩]
      · have e : IntKind.i64.wrap (((0 : Nat) : Int) + 1) = ((1 : Nat) : Int) := by decide
        simp only [e]; (repeat' first | exact rfl | exact trivial | apply And.intro | (simp [getE]; done))
    · rename_i hb0
      rw [f 0 (by omega)] at hb
      refine ⟨?_, _, rfl⟩
      rw [show mostI 3 l X [a, b, c, d] 2 (5 - 0) 0 = 0 from by rw [show 5 - 0 = 4 + 1 from rfl, mostI, if_neg (fun hc => of_decide_eq_false hb hc.2.2)]]
    · refine ⟨?_, _, rfl⟩
      rw [show mostI 3 l X [a, b, c, d] 2 (5 - 0) 0 = 0 from by rw [show 5 - 0 = 4 + 1 from rfl, mostI, if_neg (fun hc => (beq_eq_false_iff_ne.1 hb) hc.2.1)]]
  · conv => whnf
    refine ⟨?_, _, rfl⟩
    rw [show mostI 3 l X [a, b, c, d] 2 (5 - 1) 1 = 1 from by rw [show 5 - 1 = 3 + 1 from rfl, mostI, if_neg (by omega)]]
theorem next_n40 (l a b c d X : Int) (hX : 0 ≤ X ∧ X ≤ 100) (hmin : minL [a, b, c, d] = X) (hidx : idxL [a, b, c, d] X = 0) :
    CallX G.P 93 [.agg [.d (dI 4), .d (dI l), .d (.v (.map none))], .agg [.d (dI a), .d (dI b), .d (dI c), .d (dI d)]] []
      (fun sv objs1 => sv = .tup [.c (vI X), .c (vI 0), .c (vI (mostI 4 l X [a, b, c, d] 0 5 0))] ∧ ∃ gs, objs1 = gs) := by
  have hm := minInts_ok a [b, c, d] (by simp)
  have hi := indexInts_ok [a, b, c, d] X (by simp)
  rw [hmin] at hm
  rw [hidx] at hi
  refine call_body (G := G) Try.func93 rfl (by decide) (Nat.le_of_ble_eq_true rfl) ?_
  conv => whnf
  refine ⟨by decide, by decide, by decide, ?_⟩
  conv => whnf
  refine call_sn (by repeat' first | exact rfl | exact trivial | exact Nat.le_of_ble_eq_true rfl | apply And.intro) hm ?_
  conv => whnf
  refine ⟨by decide, by decide, by decide, ?_⟩
  conv => whnf
  refine call_sn (by repeat' first | exact rfl | exact trivial | exact Nat.le_of_ble_eq_true rfl | apply And.intro) hi ?_
  conv => whnf
  clear hm hi hmin hidx
  refine .inl ⟨Nat, fun s => 5 - s, fun s => s ≤ 4 ∧ mostI 4 l X [a, b, c, d] 0 5 0 = mostI 4 l X [a, b, c, d] 0 (5 - s) s,
    fun s => ⟨[(2, .one (.c (.ptr 0 0 0))), (3, .one (.c (.ptr 1 0 0))), (7, .one (.c (vI X))), (8, .one (.c (vI 0))), (9, .one (.c (vI s)))],
      [(0, .box [.d (dI 4), .d (dI l), .d (.v (.map none))]), (0, .box [.d (dI a), .d (dI b), .d (dI c), .d (dI d)])], _⟩, 0, ⟨by omega, rfl⟩, weak_of rfl ?_ rfl (Nat.le_of_ble_eq_true rfl), ?_⟩
  · (repeat' first | exact rfl | exact trivial | apply And.intro | (simp [getE]; done))
  rintro s ⟨hs, hinv⟩
  have hc : s = 0 ∨ s = 1 ∨ s = 2 ∨ s = 3 ∨ s = 4 := by omega
  rw [hinv]
  clear hinv
  have f : ∀ k : Nat, k ≤ 4 → IntKind.i64.wrap (X + (k : Int)) = X + k := fun k hk => wrap_i64 _ (by omega) (by omega)
  rcases hc with rfl | rfl | rfl | rfl | rfl
  · conv => whnf
    repeat' first
      | (refine Br.mk (fun hb => ?_) (fun hb => ?_) <;> conv => whnf)
      | (refine And.intro (Int.le_of_lt (by decide)) (And.intro (by decide) ?_); conv => whnf)
      | (refine And.intro (by decide) (And.intro (by decide) ?_); conv => whnf)
    · rename_i hb0
      rw [f 0 (by omega)] at hb
      refine ⟨1, ⟨by omega, ?_⟩, by decide, weak_of rfl ?_ rfl (Nat.le_of_ble_eq_true rfl)⟩
      · show mostI 4 l X [a, b, c, d] 0 (4 + 1) 0 = mostI 4 l X [a, b, c, d] 0 4 1
        rw [mostI, if_pos ⟨by omega, beq_iff_eq.1 hb0, of_decide_eq_true hb⟩]
      · have e : IntKind.i64.wrap (((0 : Nat) : Int) + 1) = ((1 : Nat) : Int) := by decide
        simp only [e]; (repeat' first | exact rfl | exact trivial | apply And.intro | (simp [getE]; done))
    · rename_i hb0
      rw [f 0 (by omega)] at hb
      refine ⟨?_, _, rfl⟩
      rw [show mostI 4 l X [a, b, c, d] 0 (5 - 0) 0 = 0 from by rw [show 5 - 0 = 4 + 1 from rfl, mostI, if_neg (fun hc => of_decide_eq_false hb hc.2.2)]]
    · refine ⟨?_, _, rfl⟩
      rw [show mostI 4 l X [a, b, c, d] 0 (5 - 0) 0 = 0 from by rw [show 5 - 0 = 4 + 1 from rfl, mostI, if_neg (fun hc => (beq_eq_false_iff_ne.1 hb) hc.2.1)]]
  · conv => whnf
    repeat' first
      | (refine Br.mk (fun hb => ?_) (fun hb => ?_) <;> conv => whnf)
      | (refine And.intro (Int.le_of_lt (by decide)) (And.intro (by decide) ?_); conv => whnf)
      | (refine And.intro (by decide) (And.intro (by decide) ?_); conv => whnf)
    · rename_i hb0
      rw [f 1 (by omega)] at hb
      refine ⟨2, ⟨by omega, ?_⟩, by decide, weak_of rfl ?_ rfl (Nat.le_of_ble_eq_true rfl)⟩
      · show mostI 4 l X [a, b, c, d] 0 (3 + 1) 1 = mostI 4 l X [a, b, c, d] 0 3 2
        rw [mostI, if_pos ⟨by omega, beq_iff_eq.1 hb0, of_decide_eq_true hb⟩]
      · have e : IntKind.i64.wrap (((1 : Nat) : Int) + 1) = ((2 : Nat) : Int) := by decide
        simp only [e]; (repeat' first | exact rfl | exact trivial | apply And.intro | (simp [getE]; done))
    · rename_i hb0
      rw [f 1 (by omega)] at hb
      refine ⟨?_, _, rfl⟩
      rw [show mostI 4 l X [a, b, c, d] 0 (5 - 1) 1 = 1 from by rw [show 5 - 1 = 3 + 1 from rfl, mostI, if_neg (fun hc => of_decide_eq_false hb hc.2.2)]]
    · refine ⟨?_, _, rfl⟩
      rw [show mostI 4 l X [a, b, c, d] 0 (5 - 1) 1 = 1 from by rw [show 5 - 1 = 3 + 1 from rfl, mostI, if_neg (fun hc => (beq_eq_false_iff_ne.1 hb) hc.2.1)]]
  · conv => whnf
    repeat' first
      | (refine Br.mk (fun hb => ?_) (fun hb => ?_) <;> conv => whnf)
      | (refine And.intro (Int.le_of_lt (by decide)) (And.intro (by decide) ?_); conv => whnf)
      | (refine And.intro (by decide) (And.intro (by decide) ?_); conv => whnf)
    · rename_i hb0
      rw [f 2 (by omega)] at hb
      refine ⟨3, ⟨by omega, ?_⟩, by decide, weak_of rfl ?_ rfl (Nat.le_of_ble_eq_true rfl)⟩
      · show mostI 4 l X [a, b, c, d] 0 (2 + 1) 2 = mostI 4 l X [a, b, c, d] 0 2 3
        rw [mostI, if_pos ⟨by omega, beq_iff_eq.1 hb0, of_decide_eq_true hb⟩]
      · have e : IntKind.i64.wrap (((2 : Nat) : Int) + 1) = ((3 : Nat) : Int) := by decide
        simp only [e]; (repeat' first | exact rfl | exact trivial | apply And.intro | (simp [getE]; done))
    · rename_i hb0
      rw [f 2 (by omega)] at hb
      refine ⟨?_, _, rfl⟩
      rw [show mostI 4 l X [a, b, c, d] 0 (5 - 2) 2 = 2 from by rw [show 5 - 2 = 2 + 1 from rfl, mostI, if_neg (fun hc => of_decide_eq_false hb hc.2.2)]]
    · refine ⟨?_, _, rfl⟩
      rw [show mostI 4 l X [a, b, c, d] 0 (5 - 2) 2 = 2 from by rw [show 5 - 2 = 2 + 1 from rfl, mostI, if_neg (fun hc => (beq_eq_false_iff_ne.1 hb) hc.2.1)]]
  · conv => whnf
    repeat' first
      | (refine Br.mk (fun hb => ?_) (fun hb => ?_) <;> conv => whnf)
      | (refine And.intro (Int.le_of_lt (by decide)) (And.intro (by decide) ?_); conv => whnf)
      | (refine And.intro (by decide) (And.intro (by decide) ?_); conv => whnf)
    · rename_i hb0
      rw [f 3 (by omega)] at hb
      refine ⟨4, ⟨by omega, ?_⟩, by decide, weak_of rfl ?_ rfl (Nat.le_of_ble_eq_true rfl)⟩
      · show mostI 4 l X [a, b, c, d] 0 (1 + 1) 3 = mostI 4 l X [a, b, c, d] 0 1 4
        rw [mostI, if_pos ⟨by omega, beq_iff_eq.1 hb0, of_decide_eq_true hb⟩]
      · have e : IntKind.i64.wrap (((3 : Nat) : Int) + 1) = ((4 : Nat) : Int) := by decide
        simp only [e]; (repeat' first | exact rfl | exact trivial | apply And.intro | (simp [getE]; done))
    · rename_i hb0
      rw [f 3 (by omega)] at hb
      refine ⟨?_, _, rfl⟩
      rw [show mostI 4 l X [a, b, c, d] 0 (5 - 3) 3 = 3 from by rw [show 5 - 3 = 1 + 1 from rfl, mostI, if_neg (fun hc => of_decide_eq_false hb hc.2.2)]]
    · refine ⟨?_, _, rfl⟩
      rw [show mostI 4 l X [a, b, c, d] 0 (5 - 3) 3 = 3 from by rw [show 5 - 3 = 1 + 1 from rfl, mostI, if_neg (fun hc => (beq_eq_false_iff_ne.1 hb) hc.2.1)]]
  · conv => whnf
    refine ⟨?_, _, rfl⟩
    rw [show mostI 4 l X [a, b, c, d] 0 (5 - 4) 4 = 4 from by rw [show 5 - 4 = 0 + 1 from rfl, mostI, if_neg (by omega)]]
theorem next_n41 (l a b c d X : Int) (hX : 0 ≤ X ∧ X ≤ 100) (hmin : minL [a, b, c, d] = X) (hidx : idxL [a, b, c, d] X = 1) :
    CallX G.P 93 [.agg [.d (dI 4), .d (dI l), .d (.v (.map none))], .agg [.d (dI a), .d (dI b), .d (dI c), .d (dI d)]] []
      (fun sv objs1 => sv = .tup [.c (vI X), .c (vI 1), .c (vI (mostI 4 l X [a, b, c, d] 1 5 0))] ∧ ∃ gs, objs1 = gs) := by
  have hm := minInts_ok a [b, c, d] (by simp)
  have hi := indexInts_ok [a, b, c, d] X (by simp)
  rw [hmin] at hm
  rw [hidx] at hi
  refine call_body (G := G) Try.func93 rfl (by decide) (Nat.le_of_ble_eq_true rfl) ?_
  conv => whnf
  refine ⟨by decide, by decide, by decide, ?_⟩
  conv => whnf
  refine call_sn (by repeat' first | exact rfl | exact trivial | exact Nat.le_of_ble_eq_true rfl | apply And.intro) hm ?_
  conv => whnf
  refine ⟨by decide, by decide, by decide, ?_⟩
  conv => whnf
  refine call_sn (by repeat' first | exact rfl | exact trivial | exact Nat.le_of_ble_eq_true rfl | apply And.intro) hi ?_
  conv => whnf
  clear hm hi hmin hidx
  refine .inl ⟨Nat, fun s => 5 - s, fun s => s ≤ 3 ∧ mostI 4 l X [a, b, c, d] 1 5 0 = mostI 4 l X [a, b, c, d] 1 (5 - s) s,
    fun s => ⟨[(2, .one (.c (.ptr 0 0 0))), (3, .one (.c (.ptr 1 0 0))), (7, .one (.c (vI X))), (8, .one (.c (vI 1))), (9, .one (.c (vI s)))],
      [(0, .box [.d (dI 4), .d (dI l), .d (.v (.map none))]), (0, .box [.d (dI a), .d (dI b), .d (dI c), .d (dI d)])], _⟩, 0, ⟨by omega, rfl⟩, weak_of rfl ?_ rfl (Nat.le_of_ble_eq_true rfl), ?_⟩
  · (repeat' first | exact rfl | exact trivial | apply And.intro | (simp [getE]; done))
  rintro s ⟨hs, hinv⟩
  have hc : s = 0 ∨ s = 1 ∨ s = 2 ∨ s = 3 := by omega
  rw [hinv]
  clear hinv
  have f : ∀ k : Nat, k ≤ 4 → IntKind.i64.wrap (X + (k : Int)) = X + k := fun k hk => wrap_i64 _ (by omega) (by omega)
  rcases hc with rfl | rfl | rfl | rfl
  · conv => whnf
    repeat' first
      | (refine Br.mk (fun hb => ?_) (fun hb => ?_) <;> conv => whnf)
      | (refine And.intro (Int.le_of_lt (by decide)) (And.intro (by decide) ?_); conv => whnf)
      | (refine And.intro (by decide) (And.intro (by decide) ?_); conv => whnf)
    · rename_i hb0
      rw [f 0 (by omega)] at hb
      refine ⟨1, ⟨by omega, ?_⟩, by decide, weak_of rfl ?_ rfl (Nat.le_of_ble_eq_true rfl)⟩
      · show mostI 4 l X [a, b, c, d] 1 (4 + 1) 0 = mostI 4 l X [a, b, c, d] 1 4 1
        rw [mostI, if_pos ⟨by omega, beq_iff_eq.1 hb0, of_decide_eq_true hb⟩]
      · have e : IntKind.i64.wrap (((0 : Nat) : Int) + 1) = ((1 : Nat) : Int) := by decide
        simp only [e]; (repeat' first | exact rfl | exact trivial | apply And.intro | (simp [getE]; done))
    · rename_i hb0
      rw [f 0 (by omega)] at hb
      refine ⟨?_, _, rfl⟩
      rw [show mostI 4 l X [a, b, c, d] 1 (5 - 0) 0 = 0 from by rw [show 5 - 0 = 4 + 1 from rfl, mostI, if_neg (fun hc => of_decide_eq_false hb hc.2.2)]]
    · refine ⟨?_, _, rfl⟩
      rw [show mostI 4 l X [a, b, c, d] 1 (5 - 0) 0 = 0 from by rw [show 5 - 0 = 4 + 1 from rfl, mostI, if_neg (fun hc => (beq_eq_false_iff_ne.1 hb) hc.2.1)]]
  · conv => whnf
    repeat' first
      | (refine Br.mk (fun hb => ?_) (fun hb => ?_) <;> conv => whnf)
      | (refine And.intro (Int.le_of_lt (by decide)) (And.intro (by decide) ?_); conv => whnf)
      | (refine And.intro (by decide) (And.intro (by decide) ?_); conv => whnf)
    · rename_i hb0
      rw [f 1 (by omega)] at hb
      refine ⟨2, ⟨by omega, ?_⟩, by decide, weak_of rfl ?_ rfl (Nat.le_of_ble_eq_true rfl)⟩
      · show mostI 4 l X [a, b, c, d] 1 (3 + 1) 1 = mostI 4 l X [a, b, c, d] 1 3 2
        rw [mostI, if_pos ⟨by omega, beq_iff_eq.1 hb0, of_decide_eq_true hb⟩]
      · have e : IntKind.i64.wrap (((1 : Nat) : Int) + 1) = ((2 : Nat) : Int) := by decide
        simp only [e]; (repeat' first | exact rfl | exact trivial | apply And.intro | (simp [getE]; done))
    · rename_i hb0
      rw [f 1 (by omega)] at hb
      refine ⟨?_, _, rfl⟩
      rw [show mostI 4 l X [a, b, c, d] 1 (5 - 1) 1 = 1 from by rw [show 5 - 1 = 3 + 1 from rfl, mostI, if_neg (fun hc => of_decide_eq_false hb hc.2.2)]]
    · refine ⟨?_, _, rfl⟩
      rw [show mostI 4 l X [a, b, c, d] 1 (5 - 1) 1 = 1 from by rw [show 5 - 1 = 3 + 1 from rfl, mostI, if_neg (fun hc => (beq_eq_false_iff_ne.1 hb) hc.2.1)]]
  · conv => whnf
    repeat' first
      | (refine Br.mk (fun hb => ?_) (fun hb => ?_) <;> conv => whnf)
      | (refine And.intro (Int.le_of_lt (by decide)) (And.intro (by decide) ?_); conv => whnf)
      | (refine And.intro (by decide) (And.intro (by decide) ?_); conv => whnf)
    · rename_i hb0
      rw [f 2 (by omega)] at hb
      refine ⟨3, ⟨by omega, ?_⟩, by decide, weak_of rfl ?_ rfl (Nat.le_of_ble_eq_true rfl)⟩
      · show mostI 4 l X [a, b, c, d] 1 (2 + 1) 2 = mostI 4 l X [a, b, c, d] 1 2 3
        rw [mostI, if_pos ⟨by omega, beq_iff_eq.1 hb0, of_decide_eq_true hb⟩]
      · have e : IntKind.i64.wrap (((2 : Nat) : Int) + 1) = ((3 : Nat) : Int) := by decide
        simp only [e]; (repeat' first | exact rfl | exact trivial | apply And.intro | (simp [getE]; done))
    · rename_i hb0
      rw [f 2 (by omega)] at hb
      refine ⟨?_, _, rfl⟩
      rw [show mostI 4 l X [a, b, c, d] 1 (5 - 2) 2 = 2 from by rw [show 5 - 2 = 2 + 1 from rfl, mostI, if_neg (fun hc => of_decide_eq_false hb hc.2.2)]]
    · refine ⟨?_, _, rfl⟩
      rw [show mostI 4 l X [a, b, c, d] 1 (5 - 2) 2 = 2 from by rw [show 5 - 2 = 2 + 1 from rfl, mostI, if_neg (fun hc => (beq_eq_false_iff_ne.1 hb) hc.2.1)]]
  · conv => whnf
    refine ⟨?_, _, rfl⟩
    rw [show mostI 4 l X [a, b, c, d] 1 (5 - 3) 3 = 3 from by rw [show 5 - 3 = 1 + 1 from rfl, mostI, if_neg (by omega)]]
theorem next_n42 (l a b c d X : Int) (hX : 0 ≤ X ∧ X ≤ 100) (hmin : minL [a, b, c, d] = X) (hidx : idxL [a, b, c, d] X = 2) :
    CallX G.P 93 [.agg [.d (dI 4), .d (dI l), .d (.v (.map none))], .agg [.d (dI a), .d (dI b), .d (dI c), .d (dI d)]] []
      (fun sv objs1 => sv = .tup [.c (vI X), .c (vI 2), .c (vI (mostI 4 l X [a, b, c, d] 2 5 0))] ∧ ∃ gs, objs1 = gs) := by
  have hm := minInts_ok a [b, c, d] (by simp)
  have hi := indexInts_ok [a, b, c, d] X (by simp)
  rw [hmin] at hm
  rw [hidx] at hi
  refine call_body (G := G) Try.func93 rfl (by decide) (Nat.le_of_ble_eq_true rfl) ?_
  conv => whnf
  refine ⟨by decide, by decide, by decide, ?_⟩
  conv => whnf
  refine call_sn (by repeat' first | exact rfl | exact trivial | exact Nat.le_of_ble_eq_true rfl | apply And.intro) hm ?_
  conv => whnf
  refine ⟨by decide, by decide, by decide, ?_⟩
  conv => whnf
  refine call_sn (by repeat' first | exact rfl | exact trivial | exact Nat.le_of_ble_eq_true rfl | apply And.intro) hi ?_
  conv => whnf
  clear hm hi hmin hidx
  refine .inl ⟨Nat, fun s => 5 - s, fun s => s ≤ 2 ∧ mostI 4 l X [a, b, c, d] 2 5 0 = mostI 4 l X [a, b, c, d] 2 (5 - s) s,
    fun s => ⟨[(2, .one (.c (.ptr 0 0 0))), (3, .one (.c (.ptr 1 0 0))), (7, .one (.c (vI X))), (8, .one (.c (vI 2))), (9, .one (.c (vI s)))],
      [(0, .box [.d (dI 4), .d (dI l), .d (.v (.map none))]), (0, .box [.d (dI a), .d (dI b), .d (dI c), .d (dI d)])], _⟩, 0, ⟨by omega, rfl⟩, weak_of rfl ?_ rfl (Nat.le_of_ble_eq_true rfl), ?_⟩
  · (repeat' first | exact rfl | exact trivial | apply And.intro | (simp [getE]; done))
  rintro s ⟨hs, hinv⟩
  have hc : s = 0 ∨ s = 1 ∨ s = 2 := by omega
  rw [hinv]
  clear hinv
  have f : ∀ k : Nat, k ≤ 4 → IntKind.i64.wrap (X + (k : Int)) = X + k := fun k hk => wrap_i64 _ (by omega) (by omega)
  rcases hc with rfl | rfl | rfl
  · conv => whnf
    repeat' first
      | (refine Br.mk (fun hb => ?_) (fun hb => ?_) <;> conv => whnf)
      | (refine And.intro (Int.le_of_lt (by decide)) (And.intro (by decide) ?_); conv => whnf)
      | (refine And.intro (by decide) (And.intro (by decide) ?_); conv => whnf)
    · rename_i hb0
      rw [f 0 (by omega)] at hb
      refine ⟨1, ⟨by omega, ?_⟩, by decide, weak_of rfl ?_ rfl (Nat.le_of_ble_eq_true rfl)⟩
      · show mostI 4 l X [a, b, c, d] 2 (4 + 1) 0 = mostI 4 l X [a, b, c, d] 2 4 1
        rw [mostI, if_pos ⟨by omega, beq_iff_eq.1 hb0, of_decide_eq_true hb⟩]
      · have e : IntKind.i64.wrap (((0 : Nat) : Int) + 1) = ((1 : Nat) : Int) := by decide
        simp only [e]; (repeat' first | exact rfl | exact trivial | apply And.intro | (simp [getE]; done))
    · rename_i hb0
      rw [f 0 (by omega)] at hb
      refine ⟨?_, _, rfl⟩
      rw [show mostI 4 l X [a, b, c, d] 2 (5 - 0) 0 = 0 from by rw [show 5 - 0 = 4 + 1 from rfl, mostI, if_neg (fun hc => of_decide_eq_false hb hc.2.2)]]
    · refine ⟨?_, _, rfl⟩
      rw [show mostI 4 l X [a, b, c, d] 2 (5 - 0) 0 = 0 from by rw [show 5 - 0 = 4 + 1 from rfl, mostI, if_neg (fun hc => (beq_eq_false_iff_ne.1 hb) hc.2.1)]]
  · conv => whnf
    repeat' first
      | (refine Br.mk (fun hb => ?_) (fun hb => ?_) <;> conv => whnf)
      | (refine And.intro (Int.le_of_lt (by decide)) (And.intro (by decide) ?_); conv => whnf)
      | (refine And.intro (by decide) (And.intro (by decide) ?_); conv => whnf)
    · rename_i hb0
      rw [f 1 (by omega)] at hb
      refine ⟨2, ⟨by omega, ?_⟩, by decide, weak_of rfl ?_ rfl (Nat.le_of_ble_eq_true rfl)⟩
      · show mostI 4 l X [a, b, c, d] 2 (3 + 1) 1 = mostI 4 l X [a, b, c, d] 2 3 2
        rw [mostI, if_pos ⟨by omega, beq_iff_eq.1 hb0, of_decide_eq_true hb⟩]
      · have e : IntKind.i64.wrap (((1 : Nat) : Int) + 1) = ((2 : Nat) : Int) := by decide
        simp only [e]; (repeat' first | exact rfl | exact trivial | apply And.intro | (simp [getE]; done))
    · rename_i hb0
      rw [f 1 (by omega)] at hb
      refine ⟨?_, _, rfl⟩
      rw [show mostI 4 l X [a, b, c, d] 2 (5 - 1) 1 = 1 from by rw [show 5 - 1 = 3 + 1 from rfl, mostI, if_neg (fun hc => of_decide_eq_false hb hc.2.2)]]
    · refine ⟨?_, _, rfl⟩
      rw [show mostI 4 l X [a, b, c, d] 2 (5 - 1) 1 = 1 from by rw [show 5 - 1 = 3 + 1 from rfl, mostI, if_neg (fun hc => (beq_eq_false_iff_ne.1 hb) hc.2.1)]]
  · conv => whnf
    refine ⟨?_, _, rfl⟩
    rw [show mostI 4 l X [a, b, c, d] 2 (5 - 2) 2 = 2 from by rw [show 5 - 2 = 2 + 1 from rfl, mostI, if_neg (by omega)]]
theorem next_n43 (l a b c d X : Int) (hX : 0 ≤ X ∧ X ≤ 100) (hmin : minL [a, b, c, d] = X) (hidx : idxL [a, b, c, d] X = 3) :
    CallX G.P 93 [.agg [.d (dI 4), .d (dI l), .d (.v (.map none))], .agg [.d (dI a), .d (dI b), .d (dI c), .d (dI d)]] []
      (fun sv objs1 => sv = .tup [.c (vI X), .c (vI 3), .c (vI (mostI 4 l X [a, b, c, d] 3 5 0))] ∧ ∃ gs, objs1 = gs) := by
  have hm := minInts_ok a [b, c, d] (by simp)
  have hi := indexInts_ok [a, b, c, d] X (by simp)
  rw [hmin] at hm
  rw [hidx] at hi
  refine call_body (G := G) Try.func93 rfl (by decide) (Nat.le_of_ble_eq_true rfl) ?_
  conv => whnf
  refine ⟨by decide, by decide, by decide, ?_⟩
  conv => whnf
  refine call_sn (by repeat' first | exact rfl | exact trivial | exact Nat.le_of_ble_eq_true rfl | apply And.intro) hm ?_
  conv => whnf
  refine ⟨by decide, by decide, by decide, ?_⟩
  conv => whnf
  refine call_sn (by repeat' first | exact rfl | exact trivial | exact Nat.le_of_ble_eq_true rfl | apply And.intro) hi ?_
  conv => whnf
  clear hm hi hmin hidx
  refine .inl ⟨Nat, fun s => 5 - s, fun s => s ≤ 1 ∧ mostI 4 l X [a, b, c, d] 3 5 0 = mostI 4 l X [a, b, c, d] 3 (5 - s) s,
    fun s => ⟨[(2, .one (.c (.ptr 0 0 0))), (3, .one (.c (.ptr 1 0 0))), (7, .one (.c (vI X))), (8, .one (.c (vI 3))), (9, .one (.c (vI s)))],
      [(0, .box [.d (dI 4), .d (dI l), .d (.v (.map none))]), (0, .box [.d (dI a), .d (dI b), .d (dI c), .d (dI d)])], _⟩, 0, ⟨by omega, rfl⟩, weak_of rfl ?_ rfl (Nat.le_of_ble_eq_true rfl), ?_⟩
  · (repeat' first | exact rfl | exact trivial | apply And.intro | (simp [getE]; done))
  rintro s ⟨hs, hinv⟩
  have hc : s = 0 ∨ s = 1 := by omega
  rw [hinv]
  clear hinv
  have f : ∀ k : Nat, k ≤ 4 → IntKind.i64.wrap (X + (k : Int)) = X + k := fun k hk => wrap_i64 _ (by omega) (by omega)
  rcases hc with rfl | rfl
  · conv => whnf
    repeat' first
      | (refine Br.mk (fun hb => ?_) (fun hb => ?_) <;> conv => whnf)
      | (refine And.intro (Int.le_of_lt (by decide)) (And.intro (by decide) ?_); conv => whnf)
      | (refine And.intro (by decide) (And.intro (by decide) ?_); conv => whnf)
    · rename_i hb0
      rw [f 0 (by omega)] at hb
      refine ⟨1, ⟨by omega, ?_⟩, by decide, weak_of rfl ?_ rfl (Nat.le_of_ble_eq_true rfl)⟩
      · show mostI 4 l X [a, b, c, d] 3 (4 + 1) 0 = mostI 4 l X [a, b, c, d] 3 4 1
        rw [mostI, if_pos ⟨by omega, beq_iff_eq.1 hb0, of_decide_eq_true hb⟩]
      · have e : IntKind.i64.wrap (((0 : Nat) : Int) + 1) = ((1 : Nat) : Int) := by decide
        simp only [e]; (repeat' first | exact rfl | exact trivial | apply And.intro | (simp [getE]; done))
    · rename_i hb0
      rw [f 0 (by omega)] at hb
      refine ⟨?_, _, rfl⟩
      rw [show mostI 4 l X [a, b, c, d] 3 (5 - 0) 0 = 0 from by rw [show 5 - 0 = 4 + 1 from rfl, mostI, if_neg (fun hc => of_decide_eq_false hb hc.2.2)]]
    · refine ⟨?_, _, rfl⟩
      rw [show mostI 4 l X [a, b, c, d] 3 (5 - 0) 0 = 0 from by rw [show 5 - 0 = 4 + 1 from rfl, mostI, if_neg (fun hc => (beq_eq_false_iff_ne.1 hb) hc.2.1)]]
  · conv => whnf
    refine ⟨?_, _, rfl⟩
    rw [show mostI 4 l X [a, b, c, d] 3 (5 - 1) 1 = 1 from by rw [show 5 - 1 = 3 + 1 from rfl, mostI, if_neg (by omega)]]
theorem next_n {h l X st y a b c d : Nat} (hh : h < 5) (hat : At h l X st [a, b, c, d]) (hy : freeS h st = some y) (hX : X ≤ 34) :
    CallX G.P 93 [.agg [.d (dI h), .d (dI l), .d (.v (.map none))], .agg [.d (dI a), .d (dI b), .d (dI c), .d (dI d)]] []
      (fun sv objs1 => sv = .tup [.c (vI X), .c (vI y), .c (vI (mst h l X [a, b, c, d] y))] ∧ ∃ gs, objs1 = gs) := by
  obtain ⟨y1, y2, y3⟩ := freeS_spec hy
  have hXi : (0 : Int) ≤ X ∧ (X : Int) ≤ 100 := by omega
  have hcase : (h = 1 ∧ y = 0) ∨ (h = 2 ∧ y = 0) ∨ (h = 2 ∧ y = 1) ∨ (h = 3 ∧ y = 0) ∨ (h = 3 ∧ y = 1) ∨ (h = 3 ∧ y = 2) ∨ (h = 4 ∧ y = 0) ∨ (h = 4 ∧ y = 1) ∨ (h = 4 ∧ y = 2) ∨ (h = 4 ∧ y = 3) := by omega
  rcases hcase with ⟨rfl, rfl⟩ | ⟨rfl, rfl⟩ | ⟨rfl, rfl⟩ | ⟨rfl, rfl⟩ | ⟨rfl, rfl⟩ | ⟨rfl, rfl⟩ | ⟨rfl, rfl⟩ | ⟨rfl, rfl⟩ | ⟨rfl, rfl⟩ | ⟨rfl, rfl⟩
  · have r0 : a = X + dg st 0 := hat.row 0 (by omega)
    refine next_n10 l a b c d X hXi ?_ ?_
    · simp only [minL, List.foldl_cons, List.foldl_nil]
      (repeat' split) <;> omega
    · simp only [idxL, List.findIdx?_cons]
      rw [if_pos (by simp; omega)]
      rfl
  · have r0 : a = X + dg st 0 := hat.row 0 (by omega)
    have r1 : b = X + dg st 1 := hat.row 1 (by omega)
    refine next_n20 l a b c d X hXi ?_ ?_
    · simp only [minL, List.foldl_cons, List.foldl_nil]
      (repeat' split) <;> omega
    · simp only [idxL, List.findIdx?_cons]
      rw [if_pos (by simp; omega)]
      rfl
  · have r0 : a = X + dg st 0 := hat.row 0 (by omega)
    have r1 : b = X + dg st 1 := hat.row 1 (by omega)
    have z0 := y3 0 (by omega)
    refine next_n21 l a b c d X hXi ?_ ?_
    · simp only [minL, List.foldl_cons, List.foldl_nil]
      (repeat' split) <;> omega
    · simp only [idxL, List.findIdx?_cons]
      rw [if_neg (by simp; omega)]
      rw [if_pos (by simp; omega)]
      rfl
  · have r0 : a = X + dg st 0 := hat.row 0 (by omega)
    have r1 : b = X + dg st 1 := hat.row 1 (by omega)
    have r2 : c = X + dg st 2 := hat.row 2 (by omega)
    refine next_n30 l a b c d X hXi ?_ ?_
    · simp only [minL, List.foldl_cons, List.foldl_nil]
      (repeat' split) <;> omega
    · simp only [idxL, List.findIdx?_cons]
      rw [if_pos (by simp; omega)]
      rfl
  · have r0 : a = X + dg st 0 := hat.row 0 (by omega)
    have r1 : b = X + dg st 1 := hat.row 1 (by omega)
    have r2 : c = X + dg st 2 := hat.row 2 (by omega)
    have z0 := y3 0 (by omega)
    refine next_n31 l a b c d X hXi ?_ ?_
    · simp only [minL, List.foldl_cons, List.foldl_nil]
      (repeat' split) <;> omega
    · simp only [idxL, List.findIdx?_cons]
      rw [if_neg (by simp; omega)]
      rw [if_pos (by simp; omega)]
      rfl
  · have r0 : a = X + dg st 0 := hat.row 0 (by omega)
    have r1 : b = X + dg st 1 := hat.row 1 (by omega)
    have r2 : c = X + dg st 2 := hat.row 2 (by omega)
    have z0 := y3 0 (by omega)
    have z1 := y3 1 (by omega)
    refine next_n32 l a b c d X hXi ?_ ?_
    · simp only [minL, List.foldl_cons, List.foldl_nil]
      (repeat' split) <;> omega
    · simp only [idxL, List.findIdx?_cons]
      rw [if_neg (by simp; omega)]
      rw [if_neg (by simp; omega)]
      rw [if_pos (by simp; omega)]
      rfl
  · have r0 : a = X + dg st 0 := hat.row 0 (by omega)
    have r1 : b = X + dg st 1 := hat.row 1 (by omega)
    have r2 : c = X + dg st 2 := hat.row 2 (by omega)
    have r3 : d = X + dg st 3 := hat.row 3 (by omega)
    refine next_n40 l a b c d X hXi ?_ ?_
    · simp only [minL, List.foldl_cons, List.foldl_nil]
      (repeat' split) <;> omega
    · simp only [idxL, List.findIdx?_cons]
      rw [if_pos (by simp; omega)]
      rfl
  · have r0 : a = X + dg st 0 := hat.row 0 (by omega)
    have r1 : b = X + dg st 1 := hat.row 1 (by omega)
    have r2 : c = X + dg st 2 := hat.row 2 (by omega)
    have r3 : d = X + dg st 3 := hat.row 3 (by omega)
    have z0 := y3 0 (by omega)
    refine next_n41 l a b c d X hXi ?_ ?_
    · simp only [minL, List.foldl_cons, List.foldl_nil]
      (repeat' split) <;> omega
    · simp only [idxL, List.findIdx?_cons]
      rw [if_neg (by simp; omega)]
      rw [if_pos (by simp; omega)]
      rfl
  · have r0 : a = X + dg st 0 := hat.row 0 (by omega)
    have r1 : b = X + dg st 1 := hat.row 1 (by omega)
    have r2 : c = X + dg st 2 := hat.row 2 (by omega)
    have r3 : d = X + dg st 3 := hat.row 3 (by omega)
    have z0 := y3 0 (by omega)
    have z1 := y3 1 (by omega)
    refine next_n42 l a b c d X hXi ?_ ?_
    · simp only [minL, List.foldl_cons, List.foldl_nil]
      (repeat' split) <;> omega
    · simp only [idxL, List.findIdx?_cons]
      rw [if_neg (by simp; omega)]
      rw [if_neg (by simp; omega)]
      rw [if_pos (by simp; omega)]
      rfl
  · have r0 : a = X + dg st 0 := hat.row 0 (by omega)
    have r1 : b = X + dg st 1 := hat.row 1 (by omega)
    have r2 : c = X + dg st 2 := hat.row 2 (by omega)
    have r3 : d = X + dg st 3 := hat.row 3 (by omega)
    have z0 := y3 0 (by omega)
    have z1 := y3 1 (by omega)
    have z2 := y3 2 (by omega)
    refine next_n43 l a b c d X hXi ?_ ?_
    · simp only [minL, List.foldl_cons, List.foldl_nil]
      (repeat' split) <;> omega
    · simp only [idxL, List.findIdx?_cons]
      rw [if_neg (by simp; omega)]
      rw [if_neg (by simp; omega)]
      rw [if_neg (by simp; omega)]
      rw [if_pos (by simp; omega)]
      rfl

end Go.Proofs.Ytmfdkjjhdjkgpaa

namespace Go.Proofs.Ytmfdkjjhdjkgpaa
open Go Go.RowKit
set_option maxRecDepth 10000
set_option linter.unusedSimpArgs false

def maxL : List Int → Int
  | [] => 0
  | a :: r => r.foldl (fun m e => if m < e then e else m) a

theorem maxL_step (a : Int) (l : List Int) (i : Nat) (e : Int) (h : (a :: l)[i + 1]? = some e) : maxL ((a :: l).take (i + 2)) = if maxL ((a :: l).take (i + 1)) < e then e else maxL ((a :: l).take (i + 1)) := by
  have h' : l[i]? = some e := by simpa using h
  rw [List.take_succ_cons, List.take_succ_cons]
  simp only [maxL]
  rw [List.take_add_one, h', Option.toList_some, List.foldl_append]
  rfl

theorem maxInts_ok (a : Int) (l : List Int) (hn : (a :: l).length ≤ 2 ^ 40) : Fn G.P 128 [.c (.list 1 ((a :: l).map r1))] (.one (aI (maxL (a :: l)))) := by
  refine fn_of_body (G := G) Try.func128 rfl (by decide) (Nat.le_of_ble_eq_true rfl) ?_
  conv => whnf
  repeat' first
    | exact True.intro
    | (refine draw_mkF ?_ ?_ ?_; (focus (decide +kernel)); (focus (kernel_rfl)); conv => whnf)
    | (refine Both.mk ?_ ?_ <;> conv => whnf)
    | (refine OwnQ.own ?_; conv => whnf)
    | (refine NilQ.mk (fun hnil => ?_) ?_ <;> conv => whnf)
    | (refine draw_mk (by kernel_rfl) ?_; conv => whnf)
    | (refine Br.mk (fun hb => ?_) (fun hb => ?_) <;> conv => whnf)
    | (refine El.mk (fun el hel => ?_); obtain ⟨k, hk, rfl⟩ := r1_get hel; conv => whnf)
    | (refine And.intro ?_ ?_; (focus (first | decide | omega | (simp at *; omega) | (simp_all; done))); conv => whnf)
  have hk0 : k = a := by simpa using hk.symm
  subst hk0
  clear hk hel
  refine .inl ⟨Nat, fun i => (k :: l).length - i, fun i => 1 ≤ i ∧ i ≤ (k :: l).length, fun i => ⟨[(0, .one (.c (.d (.list 1 ((k :: l).map r1))))), (3, .one (.c (vI (maxL ((k :: l).take i))))), (4, .one (.c (vI i)))],
    [], _⟩, 1, ⟨Nat.le_refl _, by simp⟩, weak_of rfl ?_ rfl (Nat.zero_le _), fun i hi => ?_⟩
  · (repeat' first | exact rfl | exact trivial | apply And.intro | (simp [getE]; done))
  obtain ⟨hi1, hi2⟩ := hi
  conv => whnf
  repeat' first
    | exact True.intro
    | (refine draw_mkF ?_ ?_ ?_; (focus (decide +kernel)); (focus (kernel_rfl)); conv => whnf)
    | (refine Both.mk ?_ ?_ <;> conv => whnf)
    | (refine OwnQ.own ?_; conv => whnf)
    | (refine NilQ.mk (fun hnil => ?_) ?_ <;> conv => whnf)
    | (refine draw_mk (by kernel_rfl) ?_; conv => whnf)
    | (refine Br.mk (fun hb => ?_) (fun hb => ?_) <;> conv => whnf)
    | (refine El.mk (fun el hel => ?_); obtain ⟨e, hk, rfl⟩ := r1_get hel; conv => whnf)
    | (refine And.intro ?_ ?_; (focus (first | decide | omega | (simp at *; omega) | (simp_all; done))); conv => whnf)
  · have hk' : (k :: l)[i]? = some e := by simpa using hk
    have hil := (List.getElem?_eq_some_iff.1 hk').1
    obtain ⟨j, rfl⟩ : ∃ j, i = j + 1 := ⟨i - 1, by omega⟩
    refine ⟨j + 2, ⟨by omega, by omega⟩, by show (k :: l).length - (j + 2) < (k :: l).length - (j + 1); omega, weak_of rfl ?_ rfl (Nat.zero_le _)⟩
    have hw := wrap_len (n := j + 2) (by omega)
    have := maxL_step k l j e hk'
    simp only [envOK, getE]
    refine ⟨by simp, ?_, ?_, trivial⟩
    · rw [this]; simp
      by_cases g : maxL (k :: List.take j l) < e
      · rw [if_pos g]; exact (if_pos g).symm
      · rw [if_neg g]; exact (if_neg g).symm
    · simp
      have h2 : ((j : Int) + 1 + 1) = ((j + 2 : Nat) : Int) := by omega
      rw [h2]; exact hw
  · simp at hb
    have : (k :: l).take i = k :: l := List.take_of_length_le (by simp; omega)
    rw [this]
    exact ⟨⟨rfl, trivial⟩, by simp [refVs, refCV]⟩

theorem maxL_spec (k : Int) (l : List Int) : maxL (k :: l) ∈ k :: l ∧ ∀ x ∈ k :: l, x ≤ maxL (k :: l) := by
  show l.foldl (fun m e => if m < e then e else m) k ∈ k :: l ∧ ∀ x ∈ k :: l, x ≤ l.foldl (fun m e => if m < e then e else m) k
  induction l generalizing k with
  | nil => exact ⟨by simp, fun x hx => by simp at hx; simp [hx]⟩
  | cons e l ih =>
    rw [List.foldl_cons]
    by_cases c : k < e
    · rw [if_pos c]
      obtain ⟨h1, h2⟩ := ih e
      refine ⟨List.mem_cons_of_mem _ h1, fun x hx => ?_⟩
      rcases List.mem_cons.1 hx with rfl | hx
      · have := h2 e (by simp); omega
      · exact h2 x hx
    · rw [if_neg c]
      obtain ⟨h1, h2⟩ := ih k
      refine ⟨?_, fun x hx => ?_⟩
      · rcases List.mem_cons.1 h1 with g | g
        · rw [g]; simp
        · exact List.mem_cons_of_mem _ (List.mem_cons_of_mem _ g)
      · rcases List.mem_cons.1 hx with rfl | hx
        · exact h2 x (by simp)
        · rcases List.mem_cons.1 hx with rfl | hx
          · have := h2 k (by simp); omega
          · exact h2 x (List.mem_cons_of_mem _ hx)

end Go.Proofs.Ytmfdkjjhdjkgpaa

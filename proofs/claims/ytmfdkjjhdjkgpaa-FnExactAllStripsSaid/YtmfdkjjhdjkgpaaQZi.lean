/- Rows of numbers: the least one, and where a number stands. -/
import Derived.Test.YtmfdkjjhdjkgpaaQZe
import Derived.Test.YtmfdkjjhdjkgpaaQT
import Derived.Test.YtmfdkjjhdjkgpaaQPs
namespace Go.Proofs.Ytmfdkjjhdjkgpaa
open Go Go.RowKit
set_option maxRecDepth 10000
set_option linter.unusedSimpArgs false

/-- Rows of one number. -/
def r1 (x : Int) : List DC := [dI x]

theorem r1_get {l : List Int} {i : Nat} {x : List DC} (h : (l.map r1)[i]? = some x) : ∃ k, l[i]? = some k ∧ x = [dI k] := by
  simp only [List.getElem?_map, Option.map_eq_some_iff] at h
  obtain ⟨k, h1, rfl⟩ := h
  exact ⟨k, h1, rfl⟩

theorem r1_flat {l : List Int} : ∀ y ∈ l.map r1, ∀ d ∈ y, flatDC d := by
  intro y hy d hd
  obtain ⟨x, _, rfl⟩ := List.mem_map.1 hy
  simp only [r1, List.mem_cons, List.not_mem_nil, or_false] at hd
  subst hd; trivial

def minL : List Int → Int
  | [] => 0
  | a :: r => r.foldl (fun m e => if e < m then e else m) a

theorem minL_step (a : Int) (l : List Int) (i : Nat) (e : Int) (h : (a :: l)[i + 1]? = some e) : minL ((a :: l).take (i + 2)) = if e < minL ((a :: l).take (i + 1)) then e else minL ((a :: l).take (i + 1)) := by
  have h' : l[i]? = some e := by simpa using h
  rw [List.take_succ_cons, List.take_succ_cons]
  simp only [minL]
  rw [List.take_add_one, h', Option.toList_some, List.foldl_append]
  rfl

theorem minInts_ok (a : Int) (l : List Int) (hn : (a :: l).length ≤ 2 ^ 40) : Fn G.P 125 [.c (.list 1 ((a :: l).map r1))] (.one (aI (minL (a :: l)))) := by
  refine fn_of_body (G := G) Try.func125 rfl (by decide) (Nat.le_of_ble_eq_true rfl) ?_
  conv => whnf
  repeat' first
    | exact True.intro
    | (refine draw_mkF ?_ ?_ ?_; (focus (decide +kernel)); (focus (kernel_rfl)); conv => whnf)
    | (refine Both.mk ?_ ?_ <;> conv => whnf)
    | (refine OwnQ.own ?_; conv => whnf)
    | (refine NilQ.mk (fun hnil => ?_) ?_ <;> conv => whnf)
    | (refine draw_mk (by kernel_rfl) ?_; conv => whnf)
    | (refine Br.mk (fun hb => ?_) (fun hb => ?_) <;> conv => whnf)
    | (refine El.mk (fun el hel => ?_); obtain ⟨k, hk, rfl⟩ := r1_get hel; conv => whnf)
    | (refine And.intro ?_ ?_; (focus (first | decide | omega | (simp at *; omega) | (simp_all; done))); conv => whnf)
  have hk0 : k = a := by simpa using hk.symm
  subst hk0
  clear hk hel
  refine .inl ⟨Nat, fun i => (k :: l).length - i, fun i => 1 ≤ i ∧ i ≤ (k :: l).length, fun i => ⟨[(0, .one (.c (.d (.list 1 ((k :: l).map r1))))), (3, .one (.c (vI (minL ((k :: l).take i))))), (4, .one (.c (vI i)))],
    [], _⟩, 1, ⟨Nat.le_refl _, by simp⟩, weak_of rfl ?_ rfl (Nat.zero_le _), fun i hi => ?_⟩
  · (repeat' first | exact rfl | exact trivial | apply And.intro | (simp [getE]; done))
  obtain ⟨hi1, hi2⟩ := hi
  conv => whnf
  repeat' first
    | exact True.intro
    | (refine draw_mkF ?_ ?_ ?_; (focus (decide +kernel)); (focus (kernel_rfl)); conv => whnf)
    | (refine Both.mk ?_ ?_ <;> conv => whnf)
    | (refine OwnQ.own ?_; conv => whnf)
    | (refine NilQ.mk (fun hnil => ?_) ?_ <;> conv => whnf)
    | (refine draw_mk (by kernel_rfl) ?_; conv => whnf)
    | (refine Br.mk (fun hb => ?_) (fun hb => ?_) <;> conv => whnf)
    | (refine El.mk (fun el hel => ?_); obtain ⟨e, hk, rfl⟩ := r1_get hel; conv => whnf)
    | (refine And.intro ?_ ?_; (focus (first | decide | omega | (simp at *; omega) | (simp_all; done))); conv => whnf)
  · have hk' : (k :: l)[i]? = some e := by simpa using hk
    have hil := (List.getElem?_eq_some_iff.1 hk').1
    obtain ⟨j, rfl⟩ : ∃ j, i = j + 1 := ⟨i - 1, by omega⟩
    refine ⟨j + 2, ⟨by omega, by omega⟩, by show (k :: l).length - (j + 2) < (k :: l).length - (j + 1); omega, weak_of rfl ?_ rfl (Nat.zero_le _)⟩
    have hw := wrap_len (n := j + 2) (by omega)
    have := minL_step k l j e hk'
    simp only [envOK, getE]
    refine ⟨by simp, ?_, ?_, trivial⟩
    · rw [this]; simp
    · simp
      have h2 : ((j : Int) + 1 + 1) = ((j + 2 : Nat) : Int) := by omega
      rw [h2]; exact hw
  · simp at hb
    have : (k :: l).take i = k :: l := List.take_of_length_le (by simp; omega)
    rw [this]
    exact ⟨⟨rfl, trivial⟩, by simp [refVs, refCV]⟩

def idxL (l : List Int) (v : Int) : Int := match l.findIdx? (· == v) with
  | some i => i
  | none => -1

theorem indexInts_ok (l : List Int) (v : Int) (hn : l.length ≤ 2 ^ 40) : Fn G.P 126 [.c (.list 1 (l.map r1)), aI v] (.one (aI (idxL l v))) := by
  refine fn_of_body (G := G) Try.func126 rfl (by decide) (Nat.le_of_ble_eq_true rfl) ?_
  conv => whnf
  refine .inl ⟨Nat, fun i => l.length - i, fun i => i ≤ l.length ∧ (l.take i).all (fun e => !(e == v)) = true, fun i => ⟨[(0, .one (.c (.d (.list 1 (l.map r1))))), (1, .one (.c (vI v))), (6, .one (.c (.d (.list 1 (l.map r1))))), (7, .one (.c (vI (l.map r1).length))), (8, .one (.c (vI i)))],
    [], _⟩, 0, ⟨Nat.zero_le _, rfl⟩, weak_of rfl ?_ rfl (Nat.zero_le _), fun i hi => ?_⟩
  · (repeat' first | exact rfl | exact trivial | apply And.intro | (simp [getE]; done))
  obtain ⟨hi1, hi2⟩ := hi
  conv => whnf
  repeat' first
    | exact True.intro
    | (refine draw_mkF ?_ ?_ ?_; (focus (decide +kernel)); (focus (kernel_rfl)); conv => whnf)
    | (refine Both.mk ?_ ?_ <;> conv => whnf)
    | (refine OwnQ.own ?_; conv => whnf)
    | (refine NilQ.mk (fun hnil => ?_) ?_ <;> conv => whnf)
    | (refine draw_mk (by kernel_rfl) ?_; conv => whnf)
    | (refine Br.mk (fun hb => ?_) (fun hb => ?_) <;> conv => whnf)
    | (refine El.mk (fun el hel => ?_); obtain ⟨e, hk, rfl⟩ := r1_get hel; conv => whnf)
    | (refine And.intro ?_ ?_; (focus (first | decide | omega | (simp at *; omega) | (simp_all; done))); conv => whnf)
  · have hk' : l[i]? = some e := by simpa using hk
    have hv : v = e := by simpa using hb
    have : l.findIdx? (· == v) = some i := by
      obtain ⟨hl, he⟩ := List.getElem?_eq_some_iff.1 hk'
      rw [List.findIdx?_eq_some_iff_getElem]
      refine ⟨hl, by simp [he, hv], fun j hj => ?_⟩
      have := List.all_eq_true.1 hi2 (l[j]'(by omega)) (by rw [List.mem_take_iff_getElem]; exact ⟨j, by omega, rfl⟩)
      simpa using this
    simp [resOK_iff, resVs, resCell, refVs, refCV, idxL, this]
  · rename_i hlt
    have hk' : l[i]? = some e := by simpa using hk
    have hil := (List.getElem?_eq_some_iff.1 hk').1
    refine ⟨i + 1, ⟨by omega, ?_⟩, by show l.length - (i + 1) < l.length - i; omega, weak_of rfl ?_ rfl (Nat.zero_le _)⟩
    · rw [List.take_add_one, hk', List.all_append, hi2]
      have hve : ¬ v = e := by simpa using hb
      simp [Ne.symm hve]
    · have := wrap_len (n := i + 1) (by omega)
      simp [envOK, getE]
      simpa using this
  · simp at hb
    have : l.findIdx? (· == v) = none := by
      rw [List.take_of_length_le (by omega)] at hi2
      rw [List.findIdx?_eq_none_iff]
      intro x hx
      have := List.all_eq_true.1 hi2 x hx
      simpa using this
    simp [resOK_iff, resVs, resCell, refVs, refCV, idxL, this]

end Go.Proofs.Ytmfdkjjhdjkgpaa

namespace Go.Proofs.Ytmfdkjjhdjkgpaa
open Go Go.RowKit
set_option maxRecDepth 10000
set_option linter.unusedSimpArgs false

/-- How far a square may reach from row y on. -/
def mostI (h : Nat) (l X : Int) (R : List Int) (y : Nat) : Nat → Nat → Nat
  | 0, s => s
  | n + 1, s => if y + s < h ∧ R.getD (y + s) 0 = X ∧ X + s < l then mostI h l X R y n (s + 1) else s

theorem next_10 (es : List (List Int × DV)) (l a b c d X : Int) (hX : 0 ≤ X ∧ X ≤ 100) (hmin : minL [a] = X) (hidx : idxL [a] X = 0) :
    CallX G.P 93 [.agg [.d (dI 1), .d (dI l), .mp 0 0], .agg [.d (dI a), .d (dI b), .d (dI c), .d (dI d)]] [(0, .map 4 es)]
      (fun sv objs1 => sv = .tup [.c (vI X), .c (vI 0), .c (vI (mostI 1 l X [a, b, c, d] 0 5 0))] ∧ ∃ gs, objs1 = (0, .map 4 es) :: gs) := by
  have hm := minInts_ok a [] (by simp)
  have hi := indexInts_ok [a] X (by simp)
  rw [hmin] at hm
  rw [hidx] at hi
  refine call_body (G := G) Try.func93 rfl (by decide) (Nat.le_of_ble_eq_true rfl) ?_
  conv => whnf
  refine ⟨by decide, by decide, by decide, ?_⟩
  conv => whnf
  refine call_sn (by repeat' first | exact rfl | exact trivial | exact Nat.le_of_ble_eq_true rfl | apply And.intro) hm ?_
  conv => whnf
  refine ⟨by decide, by decide, by decide, ?_⟩
  conv => whnf
  refine call_sn (by repeat' first | exact rfl | exact trivial | exact Nat.le_of_ble_eq_true rfl | apply And.intro) hi ?_
  conv => whnf
  clear hm hi hmin hidx
  refine .inl ⟨Nat, fun s => 5 - s, fun s => s ≤ 1 ∧ mostI 1 l X [a, b, c, d] 0 5 0 = mostI 1 l X [a, b, c, d] 0 (5 - s) s,
    fun s => ⟨[(2, .one (.c (.ptr 1 0 0))), (3, .one (.c (.ptr 2 0 0))), (7, .one (.c (vI X))), (8, .one (.c (vI 0))), (9, .one (.c (vI s)))],
      [(0, .map 4 es), (0, .box [.d (dI 1), .d (dI l), .mp 0 0]), (0, .box [.d (dI a), .d (dI b), .d (dI c), .d (dI d)])], _⟩, 0, ⟨by omega, rfl⟩, weak_of rfl ?_ rfl (Nat.le_of_ble_eq_true rfl), ?_⟩
  · (repeat' first | exact rfl | exact trivial | apply And.intro | (simp [getE]; done))
  rintro s ⟨hs, hinv⟩
  have hc : s = 0 ∨ s = 1 := by omega
  rw [hinv]
  clear hinv
  have f : ∀ k : Nat, k ≤ 4 → IntKind.i64.wrap (X + (k : Int)) = X + k := fun k hk => wrap_i64 _ (by omega) (by omega)
  rcases hc with rfl | rfl
  · conv => whnf
    repeat' first
      | (refine Br.mk (fun hb => ?_) (fun hb => ?_) <;> conv => whnf)
      | (refine And.intro (Int.le_of_lt (by decide)) (And.intro (by decide) ?_); conv => whnf)
      | (refine And.intro (by decide) (And.intro (by decide) ?_); conv => whnf)
    · rename_i hb0
      rw [f 0 (by omega)] at hb
      refine ⟨1, ⟨by omega, ?_⟩, by decide, weak_of rfl ?_ rfl (Nat.le_of_ble_eq_true rfl)⟩
      · show mostI 1 l X [a, b, c, d] 0 (4 + 1) 0 = mostI 1 l X [a, b, c, d] 0 4 1
        rw [mostI, if_pos ⟨by omega, beq_iff_eq.1 hb0, of_decide_eq_true hb⟩]
      · have e : IntKind.i64.wrap (((0 : Nat) : Int) + 1) = ((1 : Nat) : Int) := by decide
        simp only [e]; (repeat' first | exact rfl | exact trivial | apply And.intro | (simp [getE]; done))
    · rename_i hb0
      rw [f 0 (by omega)] at hb
      refine ⟨?_, _, rfl⟩
      rw [show mostI 1 l X [a, b, c, d] 0 (5 - 0) 0 = 0 from by rw [show 5 - 0 = 4 + 1 from rfl, mostI, if_neg (fun hc => of_decide_eq_false hb hc.2.2)]]
    · refine ⟨?_, _, rfl⟩
      rw [show mostI 1 l X [a, b, c, d] 0 (5 - 0) 0 = 0 from by rw [show 5 - 0 = 4 + 1 from rfl, mostI, if_neg (fun hc => (beq_eq_false_iff_ne.1 hb) hc.2.1)]]
  · conv => whnf
    refine ⟨?_, _, rfl⟩
    rw [show mostI 1 l X [a, b, c, d] 0 (5 - 1) 1 = 1 from by rw [show 5 - 1 = 3 + 1 from rfl, mostI, if_neg (by omega)]]
theorem next_20 (es : List (List Int × DV)) (l a b c d X : Int) (hX : 0 ≤ X ∧ X ≤ 100) (hmin : minL [a, b] = X) (hidx : idxL [a, b] X = 0) :
    CallX G.P 93 [.agg [.d (dI 2), .d (dI l), .mp 0 0], .agg [.d (dI a), .d (dI b), .d (dI c), .d (dI d)]] [(0, .map 4 es)]
      (fun sv objs1 => sv = .tup [.c (vI X), .c (vI 0), .c (vI (mostI 2 l X [a, b, c, d] 0 5 0))] ∧ ∃ gs, objs1 = (0, .map 4 es) :: gs) := by
  have hm := minInts_ok a [b] (by simp)
  have hi := indexInts_ok [a, b] X (by simp)
  rw [hmin] at hm
  rw [hidx] at hi
  refine call_body (G := G) Try.func93 rfl (by decide) (Nat.le_of_ble_eq_true rfl) ?_
  conv => whnf
  refine ⟨by decide, by decide, by decide, ?_⟩
  conv => whnf
  refine call_sn (by repeat' first | exact rfl | exact trivial | exact Nat.le_of_ble_eq_true rfl | apply And.intro) hm ?_
  conv => whnf
  refine ⟨by decide, by decide, by decide, ?_⟩
  conv => whnf
  refine call_sn (by repeat' first | exact rfl | exact trivial | exact Nat.le_of_ble_eq_true rfl | apply And.intro) hi ?_
  conv => whnf
  clear hm hi hmin hidx
  refine .inl ⟨Nat, fun s => 5 - s, fun s => s ≤ 2 ∧ mostI 2 l X [a, b, c, d] 0 5 0 = mostI 2 l X [a, b, c, d] 0 (5 - s) s,
    fun s => ⟨[(2, .one (.c (.ptr 1 0 0))), (3, .one (.c (.ptr 2 0 0))), (7, .one (.c (vI X))), (8, .one (.c (vI 0))), (9, .one (.c (vI s)))],
      [(0, .map 4 es), (0, .box [.d (dI 2), .d (dI l), .mp 0 0]), (0, .box [.d (dI a), .d (dI b), .d (dI c), .d (dI d)])], _⟩, 0, ⟨by omega, rfl⟩, weak_of rfl ?_ rfl (Nat.le_of_ble_eq_true rfl), ?_⟩
  · (repeat' first | exact rfl | exact trivial | apply And.intro | (simp [getE]; done))
  rintro s ⟨hs, hinv⟩
  have hc : s = 0 ∨ s = 1 ∨ s = 2 := by omega
  rw [hinv]
  clear hinv
  have f : ∀ k : Nat, k ≤ 4 → IntKind.i64.wrap (X + (k : Int)) = X + k := fun k hk => wrap_i64 _ (by omega) (by omega)
  rcases hc with rfl | rfl | rfl
  · conv => whnf
    repeat' first
      | (refine Br.mk (fun hb => ?_) (fun hb => ?_) <;> conv => whnf)
      | (refine And.intro (Int.le_of_lt (by decide)) (And.intro (by decide) ?_); conv => whnf)
      | (refine And.intro (by decide) (And.intro (by decide) ?_); conv => whnf)
    · rename_i hb0
      rw [f 0 (by omega)] at hb
      refine ⟨1, ⟨by omega, ?_⟩, by decide, weak_of rfl ?_ rfl (Nat.le_of_ble_eq_true rfl)⟩
      · show mostI 2 l X [a, b, c, d] 0 (4 + 1) 0 = mostI 2 l X [a, b, c, d] 0 4 1
        rw [mostI, if_pos ⟨by omega, beq_iff_eq.1 hb0, of_decide_eq_true hb⟩]
      · have e : IntKind.i64.wrap (((0 : Nat) : Int) + 1) = ((1 : Nat) : Int) := by decide
        simp only [e]; (repeat' first | exact rfl | exact trivial | apply And.intro | (simp [getE]; done))
    · rename_i hb0
      rw [f 0 (by omega)] at hb
      refine ⟨?_, _, rfl⟩
      rw [show mostI 2 l X [a, b, c, d] 0 (5 - 0) 0 = 0 from by rw [show 5 - 0 = 4 + 1 from rfl, mostI, if_neg (fun hc => of_decide_eq_false hb hc.2.2)]]
    · refine ⟨?_, _, rfl⟩
      rw [show mostI 2 l X [a, b, c, d] 0 (5 - 0) 0 = 0 from by rw [show 5 - 0 = 4 + 1 from rfl, mostI, if_neg (fun hc => (beq_eq_false_iff_ne.1 hb) hc.2.1)]]
  · conv => whnf
    repeat' first
      | (refine Br.mk (fun hb => ?_) (fun hb => ?_) <;> conv => whnf)
      | (refine And.intro (Int.le_of_lt (by decide)) (And.intro (by decide) ?_); conv => whnf)
      | (refine And.intro (by decide) (And.intro (by decide) ?_); conv => whnf)
    · rename_i hb0
      rw [f 1 (by omega)] at hb
      refine ⟨2, ⟨by omega, ?_⟩, by decide, weak_of rfl ?_ rfl (Nat.le_of_ble_eq_true rfl)⟩
      · show mostI 2 l X [a, b, c, d] 0 (3 + 1) 1 = mostI 2 l X [a, b, c, d] 0 3 2
        rw [mostI, if_pos ⟨by omega, beq_iff_eq.1 hb0, of_decide_eq_true hb⟩]
      · have e : IntKind.i64.wrap (((1 : Nat) : Int) + 1) = ((2 : Nat) : Int) := by decide
        simp only [e]; (repeat' first | exact rfl | exact trivial | apply And.intro | (simp [getE]; done))
    · rename_i hb0
      rw [f 1 (by omega)] at hb
      refine ⟨?_, _, rfl⟩
      rw [show mostI 2 l X [a, b, c, d] 0 (5 - 1) 1 = 1 from by rw [show 5 - 1 = 3 + 1 from rfl, mostI, if_neg (fun hc => of_decide_eq_false hb hc.2.2)]]
    · refine ⟨?_, _, rfl⟩
      rw [show mostI 2 l X [a, b, c, d] 0 (5 - 1) 1 = 1 from by rw [show 5 - 1 = 3 + 1 from rfl, mostI, if_neg (fun hc => (beq_eq_false_iff_ne.1 hb) hc.2.1)]]
  · conv => whnf
    refine ⟨?_, _, rfl⟩
    rw [show mostI 2 l X [a, b, c, d] 0 (5 - 2) 2 = 2 from by rw [show 5 - 2 = 2 + 1 from rfl, mostI, if_neg (by omega)]]
theorem next_21 (es : List (List Int × DV)) (l a b c d X : Int) (hX : 0 ≤ X ∧ X ≤ 100) (hmin : minL [a, b] = X) (hidx : idxL [a, b] X = 1) :
    CallX G.P 93 [.agg [.d (dI 2), .d (dI l), .mp 0 0], .agg [.d (dI a), .d (dI b), .d (dI c), .d (dI d)]] [(0, .map 4 es)]
      (fun sv objs1 => sv = .tup [.c (vI X), .c (vI 1), .c (vI (mostI 2 l X [a, b, c, d] 1 5 0))] ∧ ∃ gs, objs1 = (0, .map 4 es) :: gs) := by
  have hm := minInts_ok a [b] (by simp)
  have hi := indexInts_ok [a, b] X (by simp)
  rw [hmin] at hm
  rw [hidx] at hi
  refine call_body (G := G) Try.func93 rfl (by decide) (Nat.le_of_ble_eq_true rfl) ?_
  conv => whnf
  refine ⟨by decide, by decide, by decide, ?_⟩
  conv => whnf
  refine call_sn (by repeat' first | exact rfl | exact trivial | exact Nat.le_of_ble_eq_true rfl | apply And.intro) hm ?_
  conv => whnf
  refine ⟨by decide, by decide, by decide, ?_⟩
  conv => whnf
  refine call_sn (by repeat' first | exact rfl | exact trivial | exact Nat.le_of_ble_eq_true rfl | apply And.intro) hi ?_
  conv => whnf
  clear hm hi hmin hidx
  refine .inl ⟨Nat, fun s => 5 - s, fun s => s ≤ 1 ∧ mostI 2 l X [a, b, c, d] 1 5 0 = mostI 2 l X [a, b, c, d] 1 (5 - s) s,
    fun s => ⟨[(2, .one (.c (.ptr 1 0 0))), (3, .one (.c (.ptr 2 0 0))), (7, .one (.c (vI X))), (8, .one (.c (vI 1))), (9, .one (.c (vI s)))],
      [(0, .map 4 es), (0, .box [.d (dI 2), .d (dI l), .mp 0 0]), (0, .box [.d (dI a), .d (dI b), .d (dI c), .d (dI d)])], _⟩, 0, ⟨by omega, rfl⟩, weak_of rfl ?_ rfl (Nat.le_of_ble_eq_true rfl), ?_⟩
  · (repeat' first | exact rfl | exact trivial | apply And.intro | (simp [getE]; done))
  rintro s ⟨hs, hinv⟩
  have hc : s = 0 ∨ s = 1 := by omega
  rw [hinv]
  clear hinv
  have f : ∀ k : Nat, k ≤ 4 → IntKind.i64.wrap (X + (k : Int)) = X + k := fun k hk => wrap_i64 _ (by omega) (by omega)
  rcases hc with rfl | rfl
  · conv => whnf
    repeat' first
      | (refine Br.mk (fun hb => ?_) (fun hb => ?_) <;> conv => whnf)
      | (refine And.intro (Int.le_of_lt (by decide)) (And.intro (by decide) ?_); conv => whnf)
      | (refine And.intro (by decide) (And.intro (by decide) ?_); conv => whnf)
    · rename_i hb0
      rw [f 0 (by omega)] at hb
      refine ⟨1, ⟨by omega, ?_⟩, by decide, weak_of rfl ?_ rfl (Nat.le_of_ble_eq_true rfl)⟩
      · show mostI 2 l X [a, b, c, d] 1 (4 + 1) 0 = mostI 2 l X [a, b, c, d] 1 4 1
        rw [mostI, if_pos ⟨by omega, beq_iff_eq.1 hb0, of_decide_eq_true hb⟩]
      · have e : IntKind.i64.wrap (((0 : Nat) : Int) + 1) = ((1 : Nat) : Int) := by decide
        simp only [e]; (repeat' first | exact rfl | exact trivial | apply And.intro | (simp [getE]; done))
    · rename_i hb0
      rw [f 0 (by omega)] at hb
      refine ⟨?_, _, rfl⟩
      rw [show mostI 2 l X [a, b, c, d] 1 (5 - 0) 0 = 0 from by rw [show 5 - 0 = 4 + 1 from rfl, mostI, if_neg (fun hc => of_decide_eq_false hb hc.2.2)]]
    · refine ⟨?_, _, rfl⟩
      rw [show mostI 2 l X [a, b, c, d] 1 (5 - 0) 0 = 0 from by rw [show 5 - 0 = 4 + 1 from rfl, mostI, if_neg (fun hc => (beq_eq_false_iff_ne.1 hb) hc.2.1)]]
  · conv => whnf
    refine ⟨?_, _, rfl⟩
    rw [show mostI 2 l X [a, b, c, d] 1 (5 - 1) 1 = 1 from by rw [show 5 - 1 = 3 + 1 from rfl, mostI, if_neg (by omega)]]
theorem next_30 (es : List (List Int × DV)) (l a b c d X : Int) (hX : 0 ≤ X ∧ X ≤ 100) (hmin : minL [a, b, c] = X) (hidx : idxL [a, b, c] X = 0) :
    CallX G.P 93 [.agg [.d (dI 3), .d (dI l), .mp 0 0], .agg [.d (dI a), .d (dI b), .d (dI c), .d (dI d)]] [(0, .map 4 es)]
      (fun sv objs1 => sv = .tup [.c (vI X), .c (vI 0), .c (vI (mostI 3 l X [a, b, c, d] 0 5 0))] ∧ ∃ gs, objs1 = (0, .map 4 es) :: gs) := by
  have hm := minInts_ok a [b, c] (by simp)
  have hi := indexInts_ok [a, b, c] X (by simp)
  rw [hmin] at hm
  rw [hidx] at hi
  refine call_body (G := G) Try.func93 rfl (by decide) (Nat.le_of_ble_eq_true rfl) ?_
  conv => whnf
  refine ⟨by decide, by decide, by decide, ?_⟩
  conv => whnf
  refine call_sn (by repeat' first | exact rfl | exact trivial | exact Nat.le_of_ble_eq_true rfl | apply And.intro) hm ?_
  conv => whnf
  refine ⟨by decide, by decide, by decide, ?_⟩
  conv => whnf
  refine call_sn (by repeat' first | exact rfl | exact trivial | exact Nat.le_of_ble_eq_true rfl | apply And.intro) hi ?_
  conv => whnf
  clear hm hi hmin hidx
  refine .inl ⟨Nat, fun s => 5 - s, fun s => s ≤ 3 ∧ mostI 3 l X [a, b, c, d] 0 5 0 = mostI 3 l X [a, b, c, d] 0 (5 - s) s,
    fun s => ⟨[(2, .one (.c (.ptr 1 0 0))), (3, .one (.c (.ptr 2 0 0))), (7, .one (.c (vI X))), (8, .one (.c (vI 0))), (9, .one (.c (vI s)))],
      [(0, .map 4 es), (0, .box [.d (dI 3), .d (dI l), .mp 0 0]), (0, .box [.d (dI a), .d (dI b), .d (dI c), .d (dI d)])], _⟩, 0, ⟨by omega, rfl⟩, weak_of rfl ?_ rfl (Nat.le_of_ble_eq_true rfl), ?_⟩
  · (repeat' first | exact rfl | exact trivial | apply And.intro | (simp [getE]; done))
  rintro s ⟨hs, hinv⟩
  have hc : s = 0 ∨ s = 1 ∨ s = 2 ∨ s = 3 := by omega
  rw [hinv]
  clear hinv
  have f : ∀ k : Nat, k ≤ 4 → IntKind.i64.wrap (X + (k : Int)) = X + k := fun k hk => wrap_i64 _ (by omega) (by omega)
  rcases hc with rfl | rfl | rfl | rfl
  · conv => whnf
    repeat' first
      | (refine Br.mk (fun hb => ?_) (fun hb => ?_) <;> conv => whnf)
      | (refine And.intro (Int.le_of_lt (by decide)) (And.intro (by decide) ?_); conv => whnf)
      | (refine And.intro (by decide) (And.intro (by decide) ?_); conv => whnf)
    · rename_i hb0
      rw [f 0 (by omega)] at hb
      refine ⟨1, ⟨by omega, ?_⟩, by decide, weak_of rfl ?_ rfl (Nat.le_of_ble_eq_true rfl)⟩
      · show mostI 3 l X [a, b, c, d] 0 (4 + 1) 0 = mostI 3 l X [a, b, c, d] 0 4 1
        rw [mostI, if_pos ⟨by omega, beq_iff_eq.1 hb0, of_decide_eq_true hb⟩]
      · have e : IntKind.i64.wrap (((0 : Nat) : Int) + 1) = ((1 : Nat) : Int) := by decide
        simp only [e]; (repeat' first | exact rfl | exact trivial | apply And.intro | (simp [getE]; done))
    · rename_i hb0
      rw [f 0 (by omega)] at hb
      refine ⟨?_, _, rfl⟩
      rw [show mostI 3 l X [a, b, c, d] 0 (5 - 0) 0 = 0 from by rw [show 5 - 0 = 4 + 1 from rfl, mostI, if_neg (fun hc => of_decide_eq_false hb hc.2.2)]]
    · refine ⟨?_, _, rfl⟩
      rw [show mostI 3 l X [a, b, c, d] 0 (5 - 0) 0 = 0 from by rw [show 5 - 0 = 4 + 1 from rfl, mostI, if_neg (fun hc => (beq_eq_false_iff_ne.1 hb) hc.2.1)]]
  · conv => whnf
    repeat' first
      | (refine Br.mk (fun hb => ?_) (fun hb => ?_) <;> conv => whnf)
      | (refine And.intro (Int.le_of_lt (by decide)) (And.intro (by decide) ?_); conv => whnf)
      | (refine And.intro (by decide) (And.intro (by decide) ?_); conv => whnf)
    · rename_i hb0
      rw [f 1 (by omega)] at hb
      refine ⟨2, ⟨by omega, ?_⟩, by decide, weak_of rfl ?_ rfl (Nat.le_of_ble_eq_true rfl)⟩
      · show mostI 3 l X [a, b, c, d] 0 (3 + 1) 1 = mostI 3 l X [a, b, c, d] 0 3 2
        rw [mostI, if_pos ⟨by omega, beq_iff_eq.1 hb0, of_decide_eq_true hb⟩]
      · have e : IntKind.i64.wrap (((1 : Nat) : Int) + 1) = ((2 : Nat) : Int) := by decide
        simp only [e]; (repeat' first | exact rfl | exact trivial | apply And.intro | (simp [getE]; done))
    · rename_i hb0
      rw [f 1 (by omega)] at hb
      refine ⟨?_, _, rfl⟩
      rw [show mostI 3 l X [a, b, c, d] 0 (5 - 1) 1 = 1 from by rw [show 5 - 1 = 3 + 1 from rfl, mostI, if_neg (fun hc => of_decide_eq_false hb hc.2.2)]]
    · refine ⟨?_, _, rfl⟩
      rw [show mostI 3 l X [a, b, c, d] 0 (5 - 1) 1 = 1 from by rw [show 5 - 1 = 3 + 1 from rfl, mostI, if_neg (fun hc => (beq_eq_false_iff_ne.1 hb) hc.2.1)]]
  · conv => whnf
    repeat' first
      | (refine Br.mk (fun hb => ?_) (fun hb => ?_) <;> conv => whnf)
      | (refine And.intro (Int.le_of_lt (by decide)) (And.intro (by decide) ?_); conv => whnf)
      | (refine And.intro (by decide) (And.intro (by decide) ?_); conv => whnf)
    · rename_i hb0
      rw [f 2 (by omega)] at hb
      refine ⟨3, ⟨by omega, ?_⟩, by decide, weak_of rfl ?_ rfl (Nat.le_of_ble_eq_true rfl)⟩
      · show mostI 3 l X [a, b, c, d] 0 (2 + 1) 2 = mostI 3 l X [a, b, c, d] 0 2 3
        rw [mostI, if_pos ⟨by omega, beq_iff_eq.1 hb0, of_decide_eq_true hb⟩]
      · have e : IntKind.i64.wrap (((2 : Nat) : Int) + 1) = ((3 : Nat) : Int) := by decide
        simp only [e]; (repeat' first | exact rfl | exact trivial | apply And.intro | (simp [getE]; done))
    · rename_i hb0
      rw [f 2 (by omega)] at hb
      refine ⟨?_, _, rfl⟩
      rw [show mostI 3 l X [a, b, c, d] 0 (5 - 2) 2 = 2 from by rw [show 5 - 2 = 2 + 1 from rfl, mostI, if_neg (fun hc => of_decide_eq_false hb hc.2.2)]]
    · refine ⟨?_, _, rfl⟩
      rw [show mostI 3 l X [a, b, c, d] 0 (5 - 2) 2 = 2 from by rw [show 5 - 2 = 2 + 1 from rfl, mostI, if_neg (fun hc => (beq_eq_false_iff_ne.1 hb) hc.2.1)]]
  · conv => whnf
    refine ⟨?_, _, rfl⟩
    rw [show mostI 3 l X [a, b, c, d] 0 (5 - 3) 3 = 3 from by rw [show 5 - 3 = 1 + 1 from rfl, mostI, if_neg (by omega)]]
theorem next_31 (es : List (List Int × DV)) (l a b c d X : Int) (hX : 0 ≤ X ∧ X ≤ 100) (hmin : minL [a, b, c] = X) (hidx : idxL [a, b, c] X = 1) :
    CallX G.P 93 [.agg [.d (dI 3), .d (dI l), .mp 0 0], .agg [.d (dI a), .d (dI b), .d (dI c), .d (dI d)]] [(0, .map 4 es)]
      (fun sv objs1 => sv = .tup [.c (vI X), .c (vI 1), .c (vI (mostI 3 l X [a, b, c, d] 1 5 0))] ∧ ∃ gs, objs1 = (0, .map 4 es) :: gs) := by
  have hm := minInts_ok a [b, c] (by simp)
  have hi := indexInts_ok [a, b, c] X (by simp)
  rw [hmin] at hm
  rw [hidx] at hi
  refine call_body (G := G) Try.func93 rfl (by decide) (Nat.le_of_ble_eq_true rfl) ?_
  conv => whnf
  refine ⟨by decide, by decide, by decide, ?_⟩
  conv => whnf
  refine call_sn (by repeat' first | exact rfl | exact trivial | exact Nat.le_of_ble_eq_true rfl | apply And.intro) hm ?_
  conv => whnf
  refine ⟨by decide, by decide, by decide, ?_⟩
  conv => whnf
  refine call_sn (by repeat' first | exact rfl | exact trivial | exact Nat.le_of_ble_eq_true rfl | apply And.intro) hi ?_
  conv => whnf
  clear hm hi hmin hidx
  refine .inl ⟨Nat, fun s => 5 - s, fun s => s ≤ 2 ∧ mostI 3 l X [a, b, c, d] 1 5 0 = mostI 3 l X [a, b, c, d] 1 (5 - s) s,
    fun s => ⟨[(2, .one (.c (.ptr 1 0 0))), (3, .one (.c (.ptr 2 0 0))), (7, .one (.c (vI X))), (8, .one (.c (vI 1))), (9, .one (.c (vI s)))],
      [(0, .map 4 es), (0, .box [.d (dI 3), .d (dI l), .mp 0 0]), (0, .box [.d (dI a), .d (dI b), .d (dI c), .d (dI d)])], _⟩, 0, ⟨by omega, rfl⟩, weak_of rfl ?_ rfl (Nat.le_of_ble_eq_true rfl), ?_⟩
  · (repeat' first | exact rfl | exact trivial | apply And.intro | (simp [getE]; done))
  rintro s ⟨hs, hinv⟩
  have hc : s = 0 ∨ s = 1 ∨ s = 2 := by omega
  rw [hinv]
  clear hinv
  have f : ∀ k : Nat, k ≤ 4 → IntKind.i64.wrap (X + (k : Int)) = X + k := fun k hk => wrap_i64 _ (by omega) (by omega)
  rcases hc with rfl | rfl | rfl
  · conv => whnf
    repeat' first
      | (refine Br.mk (fun hb => ?_) (fun hb => ?_) <;> conv => whnf)
      | (refine And.intro (Int.le_of_lt (by decide)) (And.intro (by decide) ?_); conv => whnf)
      | (refine And.intro (by decide) (And.intro (by decide) ?_); conv => whnf)
    · rename_i hb0
      rw [f 0 (by omega)] at hb
      refine ⟨1, ⟨by omega, ?_⟩, by decide, weak_of rfl ?_ rfl (Nat.le_of_ble_eq_true rfl)⟩
      · show mostI 3 l X [a, b, c, d] 1 (4 + 1) 0 = mostI 3 l X [a, b, c, d] 1 4 1
        rw [mostI, if_pos ⟨by omega, beq_iff_eq.1 hb0, of_decide_eq_true hb⟩]
      · have e : IntKind.i64.wrap (((0 : Nat) : Int) + 1) = ((1 : Nat) : Int) := by decide
        simp only [e]; (repeat' first | exact rfl | exact trivial | apply And.intro | (simp [getE]; done))
    · rename_i hb0
      rw [f 0 (by omega)] at hb
      refine ⟨?_, _, rfl⟩
      rw [show mostI 3 l X [a, b, c, d] 1 (5 - 0) 0 = 0 from by rw [show 5 - 0 = 4 + 1 from rfl, mostI, if_neg (fun hc => of_decide_eq_false hb hc.2.2)]]
    · refine ⟨?_, _, rfl⟩
      rw [show mostI 3 l X [a, b, c, d] 1 (5 - 0) 0 = 0 from by rw [show 5 - 0 = 4 + 1 from rfl, mostI, if_neg (fun hc => (beq_eq_false_iff_ne.1 hb) hc.2.1)]]
  · conv => whnf
    repeat' first
      | (refine Br.mk (fun hb => ?_) (fun hb => ?_) <;> conv => whnf)
      | (refine And.intro (Int.le_of_lt (by decide)) (And.intro (by decide) ?_); conv => whnf)
      | (refine And.intro (by decide) (And.intro (by decide) ?_); conv => whnf)
    · rename_i hb0
      rw [f 1 (by omega)] at hb
      refine ⟨2, ⟨by omega, ?_⟩, by decide, weak_of rfl ?_ rfl (Nat.le_of_ble_eq_true rfl)⟩
      · show mostI 3 l X [a, b, c, d] 1 (3 + 1) 1 = mostI 3 l X [a, b, c, d] 1 3 2
        rw [mostI, if_pos ⟨by omega, beq_iff_eq.1 hb0, of_decide_eq_true hb⟩]
      · have e : IntKind.i64.wrap (((1 : Nat) : Int) + 1) = ((2 : Nat) : Int) := by decide
        simp only [e]; (repeat' first | exact rfl | exact trivial | apply And.intro | (simp [getE]; done))
    · rename_i hb0
      rw [f 1 (by omega)] at hb
      refine ⟨?_, _, rfl⟩
      rw [show mostI 3 l X [a, b, c, d] 1 (5 - 1) 1 = 1 from by rw [show 5 - 1 = 3 + 1 from rfl, mostI, if_neg (fun hc => of_decide_eq_false hb hc.2.2)]]
    · refine ⟨?_, _, rfl⟩
      rw [show mostI 3 l X [a, b, c, d] 1 (5 - 1) 1 = 1 from by rw [show 5 - 1 = 3 + 1 from rfl, mostI, if_neg (fun hc => (beq_eq_false_iff_ne.1 hb) hc.2.1)]]
  · conv => whnf
    refine ⟨?_, _, rfl⟩
    rw [show mostI 3 l X [a, b, c, d] 1 (5 - 2) 2 = 2 from by rw [show 5 - 2 = 2 + 1 from rfl, mostI, if_neg (by omega)]]
theorem next_32 (es : List (List Int × DV)) (l a b c d X : Int) (hX : 0 ≤ X ∧ X ≤ 100) (hmin : minL [a, b, c] = X) (hidx : idxL [a, b, c] X = 2) :
    CallX G.P 93 [.agg [.d (dI 3), .d (dI l), .mp 0 0], .agg [.d (dI a), .d (dI b), .d (dI c), .d (dI d)]] [(0, .map 4 es)]
      (fun sv objs1 => sv = .tup [.c (vI X), .c (vI 2), .c (vI (mostI 3 l X [a, b, c, d] 2 5 0))] ∧ ∃ gs, objs1 = (0, .map 4 es) :: gs) := by
  have hm := minInts_ok a [b, c] (by simp)
  have hi := indexInts_ok [a, b, c] X (by simp)
  rw [hmin] at hm
  rw [hidx] at hi
  refine call_body (G := G) Try.func93 rfl (by decide) (Nat.le_of_ble_eq_true rfl) ?_
  conv => whnf
  refine ⟨by decide, by decide, by decide, ?_⟩
  conv => whnf
  refine call_sn (by repeat' first | exact rfl | exact trivial | exact Nat.le_of_ble_eq_true rfl | apply And.intro) hm ?_
  conv => whnf
  refine ⟨by decide, by decide, by decide, ?_⟩
  conv => whnf
  refine call_sn (by repeat' first | exact rfl | exact trivial | exact Nat.le_of_ble_eq_true rfl | apply And.intro) hi ?_
  conv => whnf
  clear hm hi hmin hidx
  refine .inl ⟨Nat, fun s => 5 - s, fun s => s ≤ 1 ∧ mostI 3 l X [a, b, c, d] 2 5 0 = mostI 3 l X [a, b, c, d] 2 (5 - s) s,
    fun s => ⟨[(2, .one (.c (.ptr 1 0 0))), (3, .one (.c (.ptr 2 0 0))), (7, .one (.c (vI X))), (8, .one (.c (vI 2))), (9, .one (.c (vI s)))],
      [(0, .map 4 es), (0, .box [.d (dI 3), .d (dI l), .mp 0 0]), (0, .box [.d (dI a), .d (dI b), .d (dI c), .d (dI d)])], _⟩, 0, ⟨by omega, rfl⟩, weak_of rfl ?_ rfl (Nat.le_of_ble_eq_true rfl), ?_⟩
  · (repeat' first | exact rfl | exact trivial | apply And.intro | (simp [getE]; done))
  rintro s ⟨hs, hinv⟩
  have hc : s = 0 ∨ s = 1 := by omega
  rw [hinv]
  clear hinv
  have f : ∀ k : Nat, k ≤ 4 → IntKind.i64.wrap (X + (k : Int)) = X + k := fun k hk => wrap_i64 _ (by omega) (by omega)
  rcases hc with rfl | rfl
  · conv => whnf
    repeat' first
      | (refine Br.mk (fun hb => ?_) (fun hb => ?_) <;> conv => whnf)
      | (refine And.intro (Int.le_of_lt (by decide)) (And.intro (by decide) ?_); conv => whnf)
      | (refine And.intro (by decide) (And.intro (by decide) ?_); conv => whnf)
    · rename_i hb0
      rw [f 0 (by omega)] at hb
      refine ⟨1, ⟨by omega, ?_⟩, by decide, weak_of rfl ?_ rfl (Nat.le_of_ble_eq_true rfl)⟩
      · show mostI 3 l X [a, b, c, d] 2 (4 + 1) 0 = mostI 3 l X [a, b, c, d] 2 4 1
        rw [mostI, if_pos ⟨by omega, beq_iff_eq.1 hb0, of_decide_eq_true hb⟩]
      · have e : IntKind.i64.wrap (((0 : Nat) : Int) + 1) = ((1 : Nat) : Int) := by decide
        simp only [e]; (repeat' first | exact rfl | exact trivial | apply And.intro | (simp [getE]; done))
    · rename_i hb0
      rw [f 0 (by omega)] at hb
      refine ⟨?_, _, rfl⟩
      rw [show mostI 3 l X [a, b, c, d] 2 (5 - 0) 0 = 0 from by rw [show 5 - 0 = 4 + 1 from rfl, mostI, if_neg (fun hc => of_decide_eq_false hb hc.2.2)]]
    · refine ⟨?_, _, rfl⟩
      rw [show mostI 3 l X [a, b, c, d] 2 (5 - 0) 0 = 0 from by rw [show 5 - 0 = 4 + 1 from rfl, mostI, if_neg (fun hc => (beq_eq_false_iff_ne.1 hb) hc.2.1)]]
  · conv => whnf
    refine ⟨?_, _, rfl⟩
    rw [show mostI 3 l X [a, b, c, d] 2 (5 - 1) 1 = 1 from by rw [show 5 - 1 = 3 + 1 from rfl, mostI, if_neg (by omega)]]
theorem next_40 (es : List (List Int × DV)) (l a b c d X : Int) (hX : 0 ≤ X ∧ X ≤ 100) (hmin : minL [a, b, c, d] = X) (hidx : idxL [a, b, c, d] X = 0) :
    CallX G.P 93 [.agg [.d (dI 4), .d (dI l), .mp 0 0], .agg [.d (dI a), .d (dI b), .d (dI c), .d (dI d)]] [(0, .map 4 es)]
      (fun sv objs1 => sv = .tup [.c (vI X), .c (vI 0), .c (vI (mostI 4 l X [a, b, c, d] 0 5 0))] ∧ ∃ gs, objs1 = (0, .map 4 es) :: gs) := by
  have hm := minInts_ok a [b, c, d] (by simp)
  have hi := indexInts_ok [a, b, c, d] X (by simp)
  rw [hmin] at hm
  rw [hidx] at hi
  refine call_body (G := G) Try.func93 rfl (by decide) (Nat.le_of_ble_eq_true rfl) ?_
  conv => whnf
  refine ⟨by decide, by decide, by decide, ?_⟩
  conv => whnf
  refine call_sn (by repeat' first | exact rfl | exact trivial | exact Nat.le_of_ble_eq_true rfl | apply And.intro) hm ?_
  conv => whnf
  refine ⟨by decide, by decide, by decide, ?_⟩
  conv => whnf
  refine call_sn (by repeat' first | exact rfl | exact trivial | exact Nat.le_of_ble_eq_true rfl | apply And.intro) hi ?_
  conv => whnf
  clear hm hi hmin hidx
  refine .inl ⟨Nat, fun s => 5 - s, fun s => s ≤ 4 ∧ mostI 4 l X [a, b, c, d] 0 5 0 = mostI 4 l X [a, b, c, d] 0 (5 - s) s,
    fun s => ⟨[(2, .one (.c (.ptr 1 0 0))), (3, .one (.c (.ptr 2 0 0))), (7, .one (.c (vI X))), (8, .one (.c (vI 0))), (9, .one (.c (vI s)))],
      [(0, .map 4 es), (0, .box [.d (dI 4), .d (dI l), .mp 0 0]), (0, .box [.d (dI a), .d (dI b), .d (dI c), .d (dI d)])], _⟩, 0, ⟨by omega, rfl⟩, weak_of rfl ?_ rfl (Nat.le_of_ble_eq_true rfl), ?_⟩
  · (repeat' first | exact rfl | exact trivial | apply And.intro | (simp [getE]; done))
  rintro s ⟨hs, hinv⟩
  have hc : s = 0 ∨ s = 1 ∨ s = 2 ∨ s = 3 ∨ s = 4 := by omega
  rw [hinv]
  clear hinv
  have f : ∀ k : Nat, k ≤ 4 → IntKind.i64.wrap (X + (k : Int)) = X + k := fun k hk => wrap_i64 _ (by omega) (by omega)
  rcases hc with rfl | rfl | rfl | rfl | rfl
  · conv => whnf
    repeat' first
      | (refine Br.mk (fun hb => ?_) (fun hb => ?_) <;> conv => whnf)
      | (refine And.intro (Int.le_of_lt (by decide)) (And.intro (by decide) ?_); conv => whnf)
      | (refine And.intro (by decide) (And.intro (by decide) ?_); conv => whnf)
    · rename_i hb0
      rw [f 0 (by omega)] at hb
      refine ⟨1, ⟨by omega, ?_⟩, by decide, weak_of rfl ?_ rfl (Nat.le_of_ble_eq_true rfl)⟩
      · show mostI 4 l X [a, b, c, d] 0 (4 + 1) 0 = mostI 4 l X [a, b, c, d] 0 4 1
        rw [mostI, if_pos ⟨by omega, beq_iff_eq.1 hb0, of_decide_eq_true hb⟩]
      · have e : IntKind.i64.wrap (((0 : Nat) : Int) + 1) = ((1 : Nat) : Int) := by decide
        simp only [e]; (repeat' first | exact rfl | exact trivial | apply And.intro | (simp [getE]; done))
    · rename_i hb0
      rw [f 0 (by omega)] at hb
      refine ⟨?_, _, rfl⟩
      rw [show mostI 4 l X [a, b, c, d] 0 (5 - 0) 0 = 0 from by rw [show 5 - 0 = 4 + 1 from rfl, mostI, if_neg (fun hc => of_decide_eq_false hb hc.2.2)]]
    · refine ⟨?_, _, rfl⟩
      rw [show mostI 4 l X [a, b, c, d] 0 (5 - 0) 0 = 0 from by rw [show 5 - 0 = 4 + 1 from rfl, mostI, if_neg (fun hc => (beq_eq_false_iff_ne.1 hb) hc.2.1)]]
  · conv => whnf
    repeat' first
      | (refine Br.mk (fun hb => ?_) (fun hb => ?_) <;> conv => whnf)
      | (refine And.intro (Int.le_of_lt (by decide)) (And.intro (by decide) ?_); conv => whnf)
      | (refine And.intro (by decide) (And.intro (by decide) ?_); conv => whnf)
    · rename_i hb0
      rw [f 1 (by omega)] at hb
      refine ⟨2, ⟨by omega, ?_⟩, by decide, weak_of rfl ?_ rfl (Nat.le_of_ble_eq_true rfl)⟩
      · show mostI 4 l X [a, b, c, d] 0 (3 + 1) 1 = mostI 4 l X [a, b, c, d] 0 3 2
        rw [mostI, if_pos ⟨by omega, beq_iff_eq.1 hb0, of_decide_eq_true hb⟩]
      · have e : IntKind.i64.wrap (((1 : Nat) : Int) + 1) = ((2 : Nat) : Int) := by decide
        simp only [e]; (repeat' first | exact rfl | exact trivial | apply And.intro | (simp [getE]; done))
    · rename_i hb0
      rw [f 1 (by omega)] at hb
      refine ⟨?_, _, rfl⟩
      rw [show mostI 4 l X [a, b, c, d] 0 (5 - 1) 1 = 1 from by rw [show 5 - 1 = 3 + 1 from rfl, mostI, if_neg (fun hc => of_decide_eq_false hb hc.2.2)]]
    · refine ⟨?_, _, rfl⟩
      rw [show mostI 4 l X [a, b, c, d] 0 (5 - 1) 1 = 1 from by rw [show 5 - 1 = 3 + 1 from rfl, mostI, if_neg (fun hc => (beq_eq_false_iff_ne.1 hb) hc.2.1)]]
  · conv => whnf
    repeat' first
      | (refine Br.mk (fun hb => ?_) (fun hb => ?_) <;> conv => whnf)
      | (refine And.intro (Int.le_of_lt (by decide)) (And.intro (by decide) ?_); conv => whnf)
      | (refine And.intro (by decide) (And.intro (by decide) ?_); conv => whnf)
    · rename_i hb0
      rw [f 2 (by omega)] at hb
      refine ⟨3, ⟨by omega, ?_⟩, by decide, weak_of rfl ?_ rfl (Nat.le_of_ble_eq_true rfl)⟩
      · show mostI 4 l X [a, b, c, d] 0 (2 + 1) 2 = mostI 4 l X [a, b, c, d] 0 2 3
        rw [mostI, if_pos ⟨by omega, beq_iff_eq.1 hb0, of_decide_eq_true hb⟩]
      · have e : IntKind.i64.wrap (((2 : Nat) : Int) + 1) = ((3 : Nat) : Int) := by decide
        simp only [e]; (repeat' first | exact rfl | exact trivial | apply And.intro | (simp [getE]; done))
    · rename_i hb0
      rw [f 2 (by omega)] at hb
      refine ⟨?_, _, rfl⟩
      rw [show mostI 4 l X [a, b, c, d] 0 (5 - 2) 2 = 2 from by rw [show 5 - 2 = 2 + 1 from rfl, mostI, if_neg (fun hc => of_decide_eq_false hb hc.2.2)]]
    · refine ⟨?_, _, rfl⟩
      rw [show mostI 4 l X [a, b, c, d] 0 (5 - 2) 2 = 2 from by rw [show 5 - 2 = 2 + 1 from rfl, mostI, if_neg (fun hc => (beq_eq_false_iff_ne.1 hb) hc.2.1)]]
  · conv => whnf
    repeat' first
      | (refine Br.mk (fun hb => ?_) (fun hb => ?_) <;> conv => whnf)
      | (refine And.intro (Int.le_of_lt (by decide)) (And.intro (by decide) ?_); conv => whnf)
      | (refine And.intro (by decide) (And.intro (by decide) ?_); conv => whnf)
    · rename_i hb0
      rw [f 3 (by omega)] at hb
      refine ⟨4, ⟨by omega, ?_⟩, by decide, weak_of rfl ?_ rfl (Nat.le_of_ble_eq_true rfl)⟩
      · show mostI 4 l X [a, b, c, d] 0 (1 + 1) 3 = mostI 4 l X [a, b, c, d] 0 1 4
        rw [mostI, if_pos ⟨by omega, beq_iff_eq.1 hb0, of_decide_eq_true hb⟩]
      · have e : IntKind.i64.wrap (((3 : Nat) : Int) + 1) = ((4 : Nat) : Int) := by decide
        simp only [e]; (repeat' first | exact rfl | exact trivial | apply And.intro | (simp [getE]; done))
    · rename_i hb0
      rw [f 3 (by omega)] at hb
      refine ⟨?_, _, rfl⟩
      rw [show mostI 4 l X [a, b, c, d] 0 (5 - 3) 3 = 3 from by rw [show 5 - 3 = 1 + 1 from rfl, mostI, if_neg (fun hc => of_decide_eq_false hb hc.2.2)]]
    · refine ⟨?_, _, rfl⟩
      rw [show mostI 4 l X [a, b, c, d] 0 (5 - 3) 3 = 3 from by rw [show 5 - 3 = 1 + 1 from rfl, mostI, if_neg (fun hc => (beq_eq_false_iff_ne.1 hb) hc.2.1)]]
  · conv => whnf
    refine ⟨?_, _, rfl⟩
    rw [show mostI 4 l X [a, b, c, d] 0 (5 - 4) 4 = 4 from by rw [show 5 - 4 = 0 + 1 from rfl, mostI, if_neg (by omega)]]
theorem next_41 (es : List (List Int × DV)) (l a b c d X : Int) (hX : 0 ≤ X ∧ X ≤ 100) (hmin : minL [a, b, c, d] = X) (hidx : idxL [a, b, c, d] X = 1) :
    CallX G.P 93 [.agg [.d (dI 4), .d (dI l), .mp 0 0], .agg [.d (dI a), .d (dI b), .d (dI c), .d (dI d)]] [(0, .map 4 es)]
      (fun sv objs1 => sv = .tup [.c (vI X), .c (vI 1), .c (vI (mostI 4 l X [a, b, c, d] 1 5 0))] ∧ ∃ gs, objs1 = (0, .map 4 es) :: gs) := by
  have hm := minInts_ok a [b, c, d] (by simp)
  have hi := indexInts_ok [a, b, c, d] X (by simp)
  rw [hmin] at hm
  rw [hidx] at hi
  refine call_body (G := G) Try.func93 rfl (by decide) (Nat.le_of_ble_eq_true rfl) ?_
  conv => whnf
  refine ⟨by decide, by decide, by decide, ?_⟩
  conv => whnf
  refine call_sn (by repeat' first | exact rfl | exact trivial | exact Nat.le_of_ble_eq_true rfl | apply And.intro) hm ?_
  conv => whnf
  refine ⟨by decide, by decide, by decide, ?_⟩
  conv => whnf
  refine call_sn (by repeat' first | exact rfl | exact trivial | exact Nat.le_of_ble_eq_true rfl | apply And.intro) hi ?_
  conv => whnf
  clear hm hi hmin hidx
  refine .inl ⟨Nat, fun s => 5 - s, fun s => s ≤ 3 ∧ mostI 4 l X [a, b, c, d] 1 5 0 = mostI 4 l X [a, b, c, d] 1 (5 - s) s,
    fun s => ⟨[(2, .one (.c (.ptr 1 0 0))), (3, .one (.c (.ptr 2 0 0))), (7, .one (.c (vI X))), (8, .one (.c (vI 1))), (9, .one (.c (vI s)))],
      [(0, .map 4 es), (0, .box [.d (dI 4), .d (dI l), .mp 0 0]), (0, .box [.d (dI a), .d (dI b), .d (dI c), .d (dI d)])], _⟩, 0, ⟨by omega, rfl⟩, weak_of rfl ?_ rfl (Nat.le_of_ble_eq_true rfl), ?_⟩
  · (repeat' first | exact rfl | exact trivial | apply And.intro | (simp [getE]; done))
  rintro s ⟨hs, hinv⟩
  have hc : s = 0 ∨ s = 1 ∨ s = 2 ∨ s = 3 := by omega
  rw [hinv]
  clear hinv
  have f : ∀ k : Nat, k ≤ 4 → IntKind.i64.wrap (X + (k : Int)) = X + k := fun k hk => wrap_i64 _ (by omega) (by omega)
  rcases hc with rfl | rfl | rfl | rfl
  · conv => whnf
    repeat' first
      | (refine Br.mk (fun hb => ?_) (fun hb => ?_) <;> conv => whnf)
      | (refine And.intro (Int.le_of_lt (by decide)) (And.intro (by decide) ?_); conv => whnf)
      | (refine And.intro (by decide) (And.intro (by decide) ?_); conv => whnf)
    · rename_i hb0
      rw [f 0 (by omega)] at hb
      refine ⟨1, ⟨by omega, ?_⟩, by decide, weak_of rfl ?_ rfl (Nat.le_of_ble_eq_true rfl)⟩
      · show mostI 4 l X [a, b, c, d] 1 (4 + 1) 0 = mostI 4 l X [a, b, c, d] 1 4 1
        rw [mostI, if_pos ⟨by omega, beq_iff_eq.1 hb0, of_decide_eq_true hb⟩]
      · have e : IntKind.i64.wrap (((0 : Nat) : Int) + 1) = ((1 : Nat) : Int) := by decide
        simp only [e]; (repeat' first | exact rfl | exact trivial | apply And.intro | (simp [getE]; done))
    · rename_i hb0
      rw [f 0 (by omega)] at hb
      refine ⟨?_, _, rfl⟩
      rw [show mostI 4 l X [a, b, c, d] 1 (5 - 0) 0 = 0 from by rw [show 5 - 0 = 4 + 1 from rfl, mostI, if_neg (fun hc => of_decide_eq_false hb hc.2.2)]]
    · refine ⟨?_, _, rfl⟩
      rw [show mostI 4 l X [a, b, c, d] 1 (5 - 0) 0 = 0 from by rw [show 5 - 0 = 4 + 1 from rfl, mostI, if_neg (fun hc => (beq_eq_false_iff_ne.1 hb) hc.2.1)]]
  · conv => whnf
    repeat' first
      | (refine Br.mk (fun hb => ?_) (fun hb => ?_) <;> conv => whnf)
      | (refine And.intro (Int.le_of_lt (by decide)) (And.intro (by decide) ?_); conv => whnf)
      | (refine And.intro (by decide) (And.intro (by decide) ?_); conv => whnf)
    · rename_i hb0
      rw [f 1 (by omega)] at hb
      refine ⟨2, ⟨by omega, ?_⟩, by decide, weak_of rfl ?_ rfl (Nat.le_of_ble_eq_true rfl)⟩
      · show mostI 4 l X [a, b, c, d] 1 (3 + 1) 1 = mostI 4 l X [a, b, c, d] 1 3 2
        rw [mostI, if_pos ⟨by omega, beq_iff_eq.1 hb0, of_decide_eq_true hb⟩]
      · have e : IntKind.i64.wrap (((1 : Nat) : Int) + 1) = ((2 : Nat) : Int) := by decide
        simp only [e]; (repeat' first | exact rfl | exact trivial | apply And.intro | (simp [getE]; done))
    · rename_i hb0
      rw [f 1 (by omega)] at hb
      refine ⟨?_, _, rfl⟩
      rw [show mostI 4 l X [a, b, c, d] 1 (5 - 1) 1 = 1 from by rw [show 5 - 1 = 3 + 1 from rfl, mostI, if_neg (fun hc => of_decide_eq_false hb hc.2.2)]]
    · refine ⟨?_, _, rfl⟩
      rw [show mostI 4 l X [a, b, c, d] 1 (5 - 1) 1 = 1 from by rw [show 5 - 1 = 3 + 1 from rfl, mostI, if_neg (fun hc => (beq_eq_false_iff_ne.1 hb) hc.2.1)]]
  · conv => whnf
    repeat' first
      | (refine Br.mk (fun hb => ?_) (fun hb => ?_) <;> conv => whnf)
      | (refine And.intro (Int.le_of_lt (by decide)) (And.intro (by decide) ?_); conv => whnf)
      | (refine And.intro (by decide) (And.intro (by decide) ?_); conv => whnf)
    · rename_i hb0
      rw [f 2 (by omega)] at hb
      refine ⟨3, ⟨by omega, ?_⟩, by decide, weak_of rfl ?_ rfl (Nat.le_of_ble_eq_true rfl)⟩
      · show mostI 4 l X [a, b, c, d] 1 (2 + 1) 2 = mostI 4 l X [a, b, c, d] 1 2 3
        rw [mostI, if_pos ⟨by omega, beq_iff_eq.1 hb0, of_decide_eq_true hb⟩]
      · have e : IntKind.i64.wrap (((2 : Nat) : Int) + 1) = ((3 : Nat) : Int) := by decide
        simp only [e]; (repeat' first | exact rfl | exact trivial | apply And.intro | (simp [getE]; done))
    · rename_i hb0
      rw [f 2 (by omega)] at hb
      refine ⟨?_, _, rfl⟩
      rw [show mostI 4 l X [a, b, c, d] 1 (5 - 2) 2 = 2 from by rw [show 5 - 2 = 2 + 1 from rfl, mostI, if_neg (fun hc => of_decide_eq_false hb hc.2.2)]]
    · refine ⟨?_, _, rfl⟩
      rw [show mostI 4 l X [a, b, c, d] 1 (5 - 2) 2 = 2 from by rw [show 5 - 2 = 2 + 1 from rfl, mostI, if_neg (fun hc => (beq_eq_false_iff_ne.1 hb) hc.2.1)]]
  · conv => whnf
    refine ⟨?_, _, rfl⟩
    rw [show mostI 4 l X [a, b, c, d] 1 (5 - 3) 3 = 3 from by rw [show 5 - 3 = 1 + 1 from rfl, mostI, if_neg (by omega)]]
theorem next_42 (es : List (List Int × DV)) (l a b c d X : Int) (hX : 0 ≤ X ∧ X ≤ 100) (hmin : minL [a, b, c, d] = X) (hidx : idxL [a, b, c, d] X = 2) :
    CallX G.P 93 [.agg [.d (dI 4), .d (dI l), .mp 0 0], .agg [.d (dI a), .d (dI b), .d (dI c), .d (dI d)]] [(0, .map 4 es)]
      (fun sv objs1 => sv = .tup [.c (vI X), .c (vI 2), .c (vI (mostI 4 l X [a, b, c, d] 2 5 0))] ∧ ∃ gs, objs1 = (0, .map 4 es) :: gs) := by
  have hm := minInts_ok a [b, c, d] (by simp)
  have hi := indexInts_ok [a, b, c, d] X (by simp)
  rw [hmin] at hm
  rw [hidx] at hi
  refine call_body (G := G) Try.func93 rfl (by decide) (Nat.le_of_ble_eq_true rfl) ?_
  conv => whnf
  refine ⟨by decide, by decide, by decide, ?_⟩
  conv => whnf
  refine call_sn (by repeat' first | exact rfl | exact trivial | exact Nat.le_of_ble_eq_true rfl | apply And.intro) hm ?_
  conv => whnf
  refine ⟨by decide, by decide, by decide, ?_⟩
  conv => whnf
  refine call_sn (by repeat' first | exact rfl | exact trivial | exact Nat.le_of_ble_eq_true rfl | apply And.intro) hi ?_
  conv => whnf
  clear hm hi hmin hidx
  refine .inl ⟨Nat, fun s => 5 - s, fun s => s ≤ 2 ∧ mostI 4 l X [a, b, c, d] 2 5 0 = mostI 4 l X [a, b, c, d] 2 (5 - s) s,
    fun s => ⟨[(2, .one (.c (.ptr 1 0 0))), (3, .one (.c (.ptr 2 0 0))), (7, .one (.c (vI X))), (8, .one (.c (vI 2))), (9, .one (.c (vI s)))],
      [(0, .map 4 es), (0, .box [.d (dI 4), .d (dI l), .mp 0 0]), (0, .box [.d (dI a), .d (dI b), .d (dI c), .d (dI d)])], _⟩, 0, ⟨by omega, rfl⟩, weak_of rfl ?_ rfl (Nat.le_of_ble_eq_true rfl), ?_⟩
  · (repeat' first | exact rfl | exact trivial | apply And.intro | (simp [getE]; done))
  rintro s ⟨hs, hinv⟩
  have hc : s = 0 ∨ s = 1 ∨ s = 2 := by omega
  rw [hinv]
  clear hinv
  have f : ∀ k : Nat, k ≤ 4 → IntKind.i64.wrap (X + (k : Int)) = X + k := fun k hk => wrap_i64 _ (by omega) (by omega)
  rcases hc with rfl | rfl | rfl
  · conv => whnf
    repeat' first
      | (refine Br.mk (fun hb => ?_) (fun hb => ?_) <;> conv => whnf)
      | (refine And.intro (Int.le_of_lt (by decide)) (And.intro (by decide) ?_); conv => whnf)
      | (refine And.intro (by decide) (And.intro (by decide) ?_); conv => whnf)
    · rename_i hb0
      rw [f 0 (by omega)] at hb
      refine ⟨1, ⟨by omega, ?_⟩, by decide, weak_of rfl ?_ rfl (Nat.le_of_ble_eq_true rfl)⟩
      · show mostI 4 l X [a, b, c, d] 2 (4 + 1) 0 = mostI 4 l X [a, b, c, d] 2 4 1
        rw [mostI, if_pos ⟨by omega, beq_iff_eq.1 hb0, of_decide_eq_true hb⟩]
      · have e : IntKind.i64.wrap (((0 : Nat) : Int) + 1) = ((1 : Nat) : Int) := by decide
        simp only [e]; (repeat' first | exact rfl | exact trivial | apply And.intro | (simp [getE]; done))
    · rename_i hb0
      rw [f 0 (by omega)] at hb
      refine ⟨?_, _, rfl⟩
      rw [show mostI 4 l X [a, b, c, d] 2 (5 - 0) 0 = 0 from by rw [show 5 - 0 = 4 + 1 from rfl, mostI, if_neg (fun hc => of_decide_eq_false hb hc.2.2)]]
    · refine ⟨?_, _, rfl⟩
      rw [show mostI 4 l X [a, b, c, d] 2 (5 - 0) 0 = 0 from by rw [show 5 - 0 = 4 + 1 from rfl, mostI, if_neg (fun hc => (beq_eq_false_iff_ne.1 hb) hc.2.1)]]
  · conv => whnf
    repeat' first
      | (refine Br.mk (fun hb => ?_) (fun hb => ?_) <;> conv => whnf)
      | (refine And.intro (Int.le_of_lt (by decide)) (And.intro (by decide) ?_); conv => whnf)
      | (refine And.intro (by decide) (And.intro (by decide) ?_); conv => whnf)
    · rename_i hb0
      rw [f 1 (by omega)] at hb
      refine ⟨2, ⟨by omega, ?_⟩, by decide, weak_of rfl ?_ rfl (Nat.le_of_ble_eq_true rfl)⟩
      · show mostI 4 l X [a, b, c, d] 2 (3 + 1) 1 = mostI 4 l X [a, b, c, d] 2 3 2
        rw [mostI, if_pos ⟨by omega, beq_iff_eq.1 hb0, of_decide_eq_true hb⟩]
      · have e : IntKind.i64.wrap (((1 : Nat) : Int) + 1) = ((2 : Nat) : Int) := by decide
        simp only [e]; (repeat' first | exact rfl | exact trivial | apply And.intro | (simp [getE]; done))
    · rename_i hb0
      rw [f 1 (by omega)] at hb
      refine ⟨?_, _, rfl⟩
      rw [show mostI 4 l X [a, b, c, d] 2 (5 - 1) 1 = 1 from by rw [show 5 - 1 = 3 + 1 from rfl, mostI, if_neg (fun hc => of_decide_eq_false hb hc.2.2)]]
    · refine ⟨?_, _, rfl⟩
      rw [show mostI 4 l X [a, b, c, d] 2 (5 - 1) 1 = 1 from by rw [show 5 - 1 = 3 + 1 from rfl, mostI, if_neg (fun hc => (beq_eq_false_iff_ne.1 hb) hc.2.1)]]
  · conv => whnf
    refine ⟨?_, _, rfl⟩
    rw [show mostI 4 l X [a, b, c, d] 2 (5 - 2) 2 = 2 from by rw [show 5 - 2 = 2 + 1 from rfl, mostI, if_neg (by omega)]]
theorem next_43 (es : List (List Int × DV)) (l a b c d X : Int) (hX : 0 ≤ X ∧ X ≤ 100) (hmin : minL [a, b, c, d] = X) (hidx : idxL [a, b, c, d] X = 3) :
    CallX G.P 93 [.agg [.d (dI 4), .d (dI l), .mp 0 0], .agg [.d (dI a), .d (dI b), .d (dI c), .d (dI d)]] [(0, .map 4 es)]
      (fun sv objs1 => sv = .tup [.c (vI X), .c (vI 3), .c (vI (mostI 4 l X [a, b, c, d] 3 5 0))] ∧ ∃ gs, objs1 = (0, .map 4 es) :: gs) := by
  have hm := minInts_ok a [b, c, d] (by simp)
  have hi := indexInts_ok [a, b, c, d] X (by simp)
  rw [hmin] at hm
  rw [hidx] at hi
  refine call_body (G := G) Try.func93 rfl (by decide) (Nat.le_of_ble_eq_true rfl) ?_
  conv => whnf
  refine ⟨by decide, by decide, by decide, ?_⟩
  conv => whnf
  refine call_sn (by repeat' first | exact rfl | exact trivial | exact Nat.le_of_ble_eq_true rfl | apply And.intro) hm ?_
  conv => whnf
  refine ⟨by decide, by decide, by decide, ?_⟩
  conv => whnf
  refine call_sn (by repeat' first | exact rfl | exact trivial | exact Nat.le_of_ble_eq_true rfl | apply And.intro) hi ?_
  conv => whnf
  clear hm hi hmin hidx
  refine .inl ⟨Nat, fun s => 5 - s, fun s => s ≤ 1 ∧ mostI 4 l X [a, b, c, d] 3 5 0 = mostI 4 l X [a, b, c, d] 3 (5 - s) s,
    fun s => ⟨[(2, .one (.c (.ptr 1 0 0))), (3, .one (.c (.ptr 2 0 0))), (7, .one (.c (vI X))), (8, .one (.c (vI 3))), (9, .one (.c (vI s)))],
      [(0, .map 4 es), (0, .box [.d (dI 4), .d (dI l), .mp 0 0]), (0, .box [.d (dI a), .d (dI b), .d (dI c), .d (dI d)])], _⟩, 0, ⟨by omega, rfl⟩, weak_of rfl ?_ rfl (Nat.le_of_ble_eq_true rfl), ?_⟩
  · (repeat' first | exact rfl | exact trivial | apply And.intro | (simp [getE]; done))
  rintro s ⟨hs, hinv⟩
  have hc : s = 0 ∨ s = 1 := by omega
  rw [hinv]
  clear hinv
  have f : ∀ k : Nat, k ≤ 4 → IntKind.i64.wrap (X + (k : Int)) = X + k := fun k hk => wrap_i64 _ (by omega) (by omega)
  rcases hc with rfl | rfl
  · conv => whnf
    repeat' first
      | (refine Br.mk (fun hb => ?_) (fun hb => ?_) <;> conv => whnf)
      | (refine And.intro (Int.le_of_lt (by decide)) (And.intro (by decide) ?_); conv => whnf)
      | (refine And.intro (by decide) (And.intro (by decide) ?_); conv => whnf)
    · rename_i hb0
      rw [f 0 (by omega)] at hb
      refine ⟨1, ⟨by omega, ?_⟩, by decide, weak_of rfl ?_ rfl (Nat.le_of_ble_eq_true rfl)⟩
      · show mostI 4 l X [a, b, c, d] 3 (4 + 1) 0 = mostI 4 l X [a, b, c, d] 3 4 1
        rw [mostI, if_pos ⟨by omega, beq_iff_eq.1 hb0, of_decide_eq_true hb⟩]
      · have e : IntKind.i64.wrap (((0 : Nat) : Int) + 1) = ((1 : Nat) : Int) := by decide
        simp only [e]; (repeat' first | exact rfl | exact trivial | apply And.intro | (simp [getE]; done))
    · rename_i hb0
      rw [f 0 (by omega)] at hb
      refine ⟨?_, _, rfl⟩
      rw [show mostI 4 l X [a, b, c, d] 3 (5 - 0) 0 = 0 from by rw [show 5 - 0 = 4 + 1 from rfl, mostI, if_neg (fun hc => of_decide_eq_false hb hc.2.2)]]
    · refine ⟨?_, _, rfl⟩
      rw [show mostI 4 l X [a, b, c, d] 3 (5 - 0) 0 = 0 from by rw [show 5 - 0 = 4 + 1 from rfl, mostI, if_neg (fun hc => (beq_eq_false_iff_ne.1 hb) hc.2.1)]]
  · conv => whnf
    refine ⟨?_, _, rfl⟩
    rw [show mostI 4 l X [a, b, c, d] 3 (5 - 1) 1 = 1 from by rw [show 5 - 1 = 3 + 1 from rfl, mostI, if_neg (by omega)]]
end Go.Proofs.Ytmfdkjjhdjkgpaa

namespace Go.Proofs.Ytmfdkjjhdjkgpaa
open Go Go.RowKit
set_option maxRecDepth 10000
set_option linter.unusedSimpArgs false

theorem put4_01 (a b c d : Int) (ha : 0 ≤ a ∧ a ≤ 100) (hb : 0 ≤ b ∧ b ≤ 100) (hc : 0 ≤ c ∧ c ≤ 100) (hd : 0 ≤ d ∧ d ≤ 100) : Fn G.P 94 [.agg [dI a, dI b, dI c, dI d], aI 0, aI 1] (.one (.agg [dI (a + 1), dI b, dI c, dI d])) := by
  have wa : IntKind.i64.wrap (a + 1) = a + 1 := wrap_i64 _ (by omega) (by omega)
  have wb : IntKind.i64.wrap (b + 1) = b + 1 := wrap_i64 _ (by omega) (by omega)
  have wc : IntKind.i64.wrap (c + 1) = c + 1 := wrap_i64 _ (by omega) (by omega)
  have wd : IntKind.i64.wrap (d + 1) = d + 1 := wrap_i64 _ (by omega) (by omega)
  refine fn_of_body (G := G) Try.func94 rfl (by decide) (Nat.le_of_ble_eq_true rfl) ?_
  conv => whnf
  refine .inl ⟨Nat, fun k => 5 - k, fun k => k ≤ 1,
    fun k => ⟨[(1, .one (.c (vI 0))), (2, .one (.c (vI 1))), (3, .one (.c (.ptr 0 0 0))), (6, .one (.c (.ptr 1 0 0))), (8, .one (.c (vI 1))), (9, .one (.c (vI k)))],
      [(0, .box (if k = 0 then [.d (dI a), .d (dI b), .d (dI c), .d (dI d)] else [.d (dI (a + 1)), .d (dI b), .d (dI c), .d (dI d)])), (0, .box [.d (dI 0), .d (dI 0), .d (dI 0), .d (dI 0)])], _⟩, 0, by omega, weak_of rfl ?_ rfl (Nat.le_of_ble_eq_true rfl), ?_⟩
  · (repeat' first | exact rfl | exact trivial | apply And.intro | (simp [getE]; done))
  intro k hk
  have hc : k = 0 ∨ k = 1 := by omega
  rcases hc with rfl | rfl
  · conv => whnf
    repeat' first
      | (refine And.intro (Int.le_of_lt (by decide)) (And.intro (by decide) ?_); conv => whnf)
      | (refine And.intro (by decide) (And.intro (by decide) ?_); conv => whnf)
    rw [wa]
    have e : IntKind.i64.wrap (((0 : Nat) : Int) + 1) = ((1 : Nat) : Int) := by decide
    refine ⟨1, by omega, by decide, weak_of rfl ?_ rfl (Nat.le_of_ble_eq_true rfl)⟩
    simp only [e]; (repeat' first | exact rfl | exact trivial | apply And.intro | (simp [getE]; done))
  · conv => whnf
    exact ⟨⟨⟨rfl, rfl, rfl, rfl, trivial⟩, trivial⟩, by simp [refVs, refCs, refCV]⟩

theorem put4_02 (a b c d : Int) (ha : 0 ≤ a ∧ a ≤ 100) (hb : 0 ≤ b ∧ b ≤ 100) (hc : 0 ≤ c ∧ c ≤ 100) (hd : 0 ≤ d ∧ d ≤ 100) : Fn G.P 94 [.agg [dI a, dI b, dI c, dI d], aI 0, aI 2] (.one (.agg [dI (a + 2), dI (b + 2), dI c, dI d])) := by
  have wa : IntKind.i64.wrap (a + 2) = a + 2 := wrap_i64 _ (by omega) (by omega)
  have wb : IntKind.i64.wrap (b + 2) = b + 2 := wrap_i64 _ (by omega) (by omega)
  have wc : IntKind.i64.wrap (c + 2) = c + 2 := wrap_i64 _ (by omega) (by omega)
  have wd : IntKind.i64.wrap (d + 2) = d + 2 := wrap_i64 _ (by omega) (by omega)
  refine fn_of_body (G := G) Try.func94 rfl (by decide) (Nat.le_of_ble_eq_true rfl) ?_
  conv => whnf
  refine .inl ⟨Nat, fun k => 5 - k, fun k => k ≤ 2,
    fun k => ⟨[(1, .one (.c (vI 0))), (2, .one (.c (vI 2))), (3, .one (.c (.ptr 0 0 0))), (6, .one (.c (.ptr 1 0 0))), (8, .one (.c (vI 2))), (9, .one (.c (vI k)))],
      [(0, .box (if k = 0 then [.d (dI a), .d (dI b), .d (dI c), .d (dI d)] else if k = 1 then [.d (dI (a + 2)), .d (dI b), .d (dI c), .d (dI d)] else [.d (dI (a + 2)), .d (dI (b + 2)), .d (dI c), .d (dI d)])), (0, .box [.d (dI 0), .d (dI 0), .d (dI 0), .d (dI 0)])], _⟩, 0, by omega, weak_of rfl ?_ rfl (Nat.le_of_ble_eq_true rfl), ?_⟩
  · (repeat' first | exact rfl | exact trivial | apply And.intro | (simp [getE]; done))
  intro k hk
  have hc : k = 0 ∨ k = 1 ∨ k = 2 := by omega
  rcases hc with rfl | rfl | rfl
  · conv => whnf
    repeat' first
      | (refine And.intro (Int.le_of_lt (by decide)) (And.intro (by decide) ?_); conv => whnf)
      | (refine And.intro (by decide) (And.intro (by decide) ?_); conv => whnf)
    rw [wa]
    have e : IntKind.i64.wrap (((0 : Nat) : Int) + 1) = ((1 : Nat) : Int) := by decide
    refine ⟨1, by omega, by decide, weak_of rfl ?_ rfl (Nat.le_of_ble_eq_true rfl)⟩
    simp only [e]; (repeat' first | exact rfl | exact trivial | apply And.intro | (simp [getE]; done))
  · conv => whnf
    repeat' first
      | (refine And.intro (Int.le_of_lt (by decide)) (And.intro (by decide) ?_); conv => whnf)
      | (refine And.intro (by decide) (And.intro (by decide) ?_); conv => whnf)
    rw [wb]
    have e : IntKind.i64.wrap (((1 : Nat) : Int) + 1) = ((2 : Nat) : Int) := by decide
    refine ⟨2, by omega, by decide, weak_of rfl ?_ rfl (Nat.le_of_ble_eq_true rfl)⟩
    simp only [e]; (repeat' first | exact rfl | exact trivial | apply And.intro | (simp [getE]; done))
  · conv => whnf
    exact ⟨⟨⟨rfl, rfl, rfl, rfl, trivial⟩, trivial⟩, by simp [refVs, refCs, refCV]⟩

theorem put4_03 (a b c d : Int) (ha : 0 ≤ a ∧ a ≤ 100) (hb : 0 ≤ b ∧ b ≤ 100) (hc : 0 ≤ c ∧ c ≤ 100) (hd : 0 ≤ d ∧ d ≤ 100) : Fn G.P 94 [.agg [dI a, dI b, dI c, dI d], aI 0, aI 3] (.one (.agg [dI (a + 3), dI (b + 3), dI (c + 3), dI d])) := by
  have wa : IntKind.i64.wrap (a + 3) = a + 3 := wrap_i64 _ (by omega) (by omega)
  have wb : IntKind.i64.wrap (b + 3) = b + 3 := wrap_i64 _ (by omega) (by omega)
  have wc : IntKind.i64.wrap (c + 3) = c + 3 := wrap_i64 _ (by omega) (by omega)
  have wd : IntKind.i64.wrap (d + 3) = d + 3 := wrap_i64 _ (by omega) (by omega)
  refine fn_of_body (G := G) Try.func94 rfl (by decide) (Nat.le_of_ble_eq_true rfl) ?_
  conv => whnf
  refine .inl ⟨Nat, fun k => 5 - k, fun k => k ≤ 3,
    fun k => ⟨[(1, .one (.c (vI 0))), (2, .one (.c (vI 3))), (3, .one (.c (.ptr 0 0 0))), (6, .one (.c (.ptr 1 0 0))), (8, .one (.c (vI 3))), (9, .one (.c (vI k)))],
      [(0, .box (if k = 0 then [.d (dI a), .d (dI b), .d (dI c), .d (dI d)] else if k = 1 then [.d (dI (a + 3)), .d (dI b), .d (dI c), .d (dI d)] else if k = 2 then [.d (dI (a + 3)), .d (dI (b + 3)), .d (dI c), .d (dI d)] else [.d (dI (a + 3)), .d (dI (b + 3)), .d (dI (c + 3)), .d (dI d)])), (0, .box [.d (dI 0), .d (dI 0), .d (dI 0), .d (dI 0)])], _⟩, 0, by omega, weak_of rfl ?_ rfl (Nat.le_of_ble_eq_true rfl), ?_⟩
  · (repeat' first | exact rfl | exact trivial | apply And.intro | (simp [getE]; done))
  intro k hk
  have hc : k = 0 ∨ k = 1 ∨ k = 2 ∨ k = 3 := by omega
  rcases hc with rfl | rfl | rfl | rfl
  · conv => whnf
    repeat' first
      | (refine And.intro (Int.le_of_lt (by decide)) (And.intro (by decide) ?_); conv => whnf)
      | (refine And.intro (by decide) (And.intro (by decide) ?_); conv => whnf)
    rw [wa]
    have e : IntKind.i64.wrap (((0 : Nat) : Int) + 1) = ((1 : Nat) : Int) := by decide
    refine ⟨1, by omega, by decide, weak_of rfl ?_ rfl (Nat.le_of_ble_eq_true rfl)⟩
    simp only [e]; (repeat' first | exact rfl | exact trivial | apply And.intro | (simp [getE]; done))
  · conv => whnf
    repeat' first
      | (refine And.intro (Int.le_of_lt (by decide)) (And.intro (by decide) ?_); conv => whnf)
      | (refine And.intro (by decide) (And.intro (by decide) ?_); conv => whnf)
    rw [wb]
    have e : IntKind.i64.wrap (((1 : Nat) : Int) + 1) = ((2 : Nat) : Int) := by decide
    refine ⟨2, by omega, by decide, weak_of rfl ?_ rfl (Nat.le_of_ble_eq_true rfl)⟩
    simp only [e]; (repeat' first | exact rfl | exact trivial | apply And.intro | (simp [getE]; done))
  · conv => whnf
    repeat' first
      | (refine And.intro (Int.le_of_lt (by decide)) (And.intro (by decide) ?_); conv => whnf)
      | (refine And.intro (by decide) (And.intro (by decide) ?_); conv => whnf)
    rw [wc]
    have e : IntKind.i64.wrap (((2 : Nat) : Int) + 1) = ((3 : Nat) : Int) := by decide
    refine ⟨3, by omega, by decide, weak_of rfl ?_ rfl (Nat.le_of_ble_eq_true rfl)⟩
    simp only [e]; (repeat' first | exact rfl | exact trivial | apply And.intro | (simp [getE]; done))
  · conv => whnf
    exact ⟨⟨⟨rfl, rfl, rfl, rfl, trivial⟩, trivial⟩, by simp [refVs, refCs, refCV]⟩

theorem put4_04 (a b c d : Int) (ha : 0 ≤ a ∧ a ≤ 100) (hb : 0 ≤ b ∧ b ≤ 100) (hc : 0 ≤ c ∧ c ≤ 100) (hd : 0 ≤ d ∧ d ≤ 100) : Fn G.P 94 [.agg [dI a, dI b, dI c, dI d], aI 0, aI 4] (.one (.agg [dI (a + 4), dI (b + 4), dI (c + 4), dI (d + 4)])) := by
  have wa : IntKind.i64.wrap (a + 4) = a + 4 := wrap_i64 _ (by omega) (by omega)
  have wb : IntKind.i64.wrap (b + 4) = b + 4 := wrap_i64 _ (by omega) (by omega)
  have wc : IntKind.i64.wrap (c + 4) = c + 4 := wrap_i64 _ (by omega) (by omega)
  have wd : IntKind.i64.wrap (d + 4) = d + 4 := wrap_i64 _ (by omega) (by omega)
  refine fn_of_body (G := G) Try.func94 rfl (by decide) (Nat.le_of_ble_eq_true rfl) ?_
  conv => whnf
  refine .inl ⟨Nat, fun k => 5 - k, fun k => k ≤ 4,
    fun k => ⟨[(1, .one (.c (vI 0))), (2, .one (.c (vI 4))), (3, .one (.c (.ptr 0 0 0))), (6, .one (.c (.ptr 1 0 0))), (8, .one (.c (vI 4))), (9, .one (.c (vI k)))],
      [(0, .box (if k = 0 then [.d (dI a), .d (dI b), .d (dI c), .d (dI d)] else if k = 1 then [.d (dI (a + 4)), .d (dI b), .d (dI c), .d (dI d)] else if k = 2 then [.d (dI (a + 4)), .d (dI (b + 4)), .d (dI c), .d (dI d)] else if k = 3 then [.d (dI (a + 4)), .d (dI (b + 4)), .d (dI (c + 4)), .d (dI d)] else [.d (dI (a + 4)), .d (dI (b + 4)), .d (dI (c + 4)), .d (dI (d + 4))])), (0, .box [.d (dI 0), .d (dI 0), .d (dI 0), .d (dI 0)])], _⟩, 0, by omega, weak_of rfl ?_ rfl (Nat.le_of_ble_eq_true rfl), ?_⟩
  · (repeat' first | exact rfl | exact trivial | apply And.intro | (simp [getE]; done))
  intro k hk
  have hc : k = 0 ∨ k = 1 ∨ k = 2 ∨ k = 3 ∨ k = 4 := by omega
  rcases hc with rfl | rfl | rfl | rfl | rfl
  · conv => whnf
    repeat' first
      | (refine And.intro (Int.le_of_lt (by decide)) (And.intro (by decide) ?_); conv => whnf)
      | (refine And.intro (by decide) (And.intro (by decide) ?_); conv => whnf)
    rw [wa]
    have e : IntKind.i64.wrap (((0 : Nat) : Int) + 1) = ((1 : Nat) : Int) := by decide
    refine ⟨1, by omega, by decide, weak_of rfl ?_ rfl (Nat.le_of_ble_eq_true rfl)⟩
    simp only [e]; (repeat' first | exact rfl | exact trivial | apply And.intro | (simp [getE]; done))
  · conv => whnf
    repeat' first
      | (refine And.intro (Int.le_of_lt (by decide)) (And.intro (by decide) ?_); conv => whnf)
      | (refine And.intro (by decide) (And.intro (by decide) ?_); conv => whnf)
    rw [wb]
    have e : IntKind.i64.wrap (((1 : Nat) : Int) + 1) = ((2 : Nat) : Int) := by decide
    refine ⟨2, by omega, by decide, weak_of rfl ?_ rfl (Nat.le_of_ble_eq_true rfl)⟩
    simp only [e]; (repeat' first | exact rfl | exact trivial | apply And.intro | (simp [getE]; done))
  · conv => whnf
    repeat' first
      | (refine And.intro (Int.le_of_lt (by decide)) (And.intro (by decide) ?_); conv => whnf)
      | (refine And.intro (by decide) (And.intro (by decide) ?_); conv => whnf)
    rw [wc]
    have e : IntKind.i64.wrap (((2 : Nat) : Int) + 1) = ((3 : Nat) : Int) := by decide
    refine ⟨3, by omega, by decide, weak_of rfl ?_ rfl (Nat.le_of_ble_eq_true rfl)⟩
    simp only [e]; (repeat' first | exact rfl | exact trivial | apply And.intro | (simp [getE]; done))
  · conv => whnf
    repeat' first
      | (refine And.intro (Int.le_of_lt (by decide)) (And.intro (by decide) ?_); conv => whnf)
      | (refine And.intro (by decide) (And.intro (by decide) ?_); conv => whnf)
    rw [wd]
    have e : IntKind.i64.wrap (((3 : Nat) : Int) + 1) = ((4 : Nat) : Int) := by decide
    refine ⟨4, by omega, by decide, weak_of rfl ?_ rfl (Nat.le_of_ble_eq_true rfl)⟩
    simp only [e]; (repeat' first | exact rfl | exact trivial | apply And.intro | (simp [getE]; done))
  · conv => whnf
    exact ⟨⟨⟨rfl, rfl, rfl, rfl, trivial⟩, trivial⟩, by simp [refVs, refCs, refCV]⟩

theorem put4_11 (a b c d : Int) (ha : 0 ≤ a ∧ a ≤ 100) (hb : 0 ≤ b ∧ b ≤ 100) (hc : 0 ≤ c ∧ c ≤ 100) (hd : 0 ≤ d ∧ d ≤ 100) : Fn G.P 94 [.agg [dI a, dI b, dI c, dI d], aI 1, aI 1] (.one (.agg [dI a, dI (b + 1), dI c, dI d])) := by
  have wa : IntKind.i64.wrap (a + 1) = a + 1 := wrap_i64 _ (by omega) (by omega)
  have wb : IntKind.i64.wrap (b + 1) = b + 1 := wrap_i64 _ (by omega) (by omega)
  have wc : IntKind.i64.wrap (c + 1) = c + 1 := wrap_i64 _ (by omega) (by omega)
  have wd : IntKind.i64.wrap (d + 1) = d + 1 := wrap_i64 _ (by omega) (by omega)
  refine fn_of_body (G := G) Try.func94 rfl (by decide) (Nat.le_of_ble_eq_true rfl) ?_
  conv => whnf
  refine .inl ⟨Nat, fun k => 5 - k, fun k => k ≤ 1,
    fun k => ⟨[(1, .one (.c (vI 1))), (2, .one (.c (vI 1))), (3, .one (.c (.ptr 0 0 0))), (6, .one (.c (.ptr 1 0 0))), (8, .one (.c (vI 1))), (9, .one (.c (vI k)))],
      [(0, .box (if k = 0 then [.d (dI a), .d (dI b), .d (dI c), .d (dI d)] else [.d (dI a), .d (dI (b + 1)), .d (dI c), .d (dI d)])), (0, .box [.d (dI 0), .d (dI 0), .d (dI 0), .d (dI 0)])], _⟩, 0, by omega, weak_of rfl ?_ rfl (Nat.le_of_ble_eq_true rfl), ?_⟩
  · (repeat' first | exact rfl | exact trivial | apply And.intro | (simp [getE]; done))
  intro k hk
  have hc : k = 0 ∨ k = 1 := by omega
  rcases hc with rfl | rfl
  · conv => whnf
    repeat' first
      | (refine And.intro (Int.le_of_lt (by decide)) (And.intro (by decide) ?_); conv => whnf)
      | (refine And.intro (by decide) (And.intro (by decide) ?_); conv => whnf)
    rw [wb]
    have e : IntKind.i64.wrap (((0 : Nat) : Int) + 1) = ((1 : Nat) : Int) := by decide
    refine ⟨1, by omega, by decide, weak_of rfl ?_ rfl (Nat.le_of_ble_eq_true rfl)⟩
    simp only [e]; (repeat' first | exact rfl | exact trivial | apply And.intro | (simp [getE]; done))
  · conv => whnf
    exact ⟨⟨⟨rfl, rfl, rfl, rfl, trivial⟩, trivial⟩, by simp [refVs, refCs, refCV]⟩

theorem put4_12 (a b c d : Int) (ha : 0 ≤ a ∧ a ≤ 100) (hb : 0 ≤ b ∧ b ≤ 100) (hc : 0 ≤ c ∧ c ≤ 100) (hd : 0 ≤ d ∧ d ≤ 100) : Fn G.P 94 [.agg [dI a, dI b, dI c, dI d], aI 1, aI 2] (.one (.agg [dI a, dI (b + 2), dI (c + 2), dI d])) := by
  have wa : IntKind.i64.wrap (a + 2) = a + 2 := wrap_i64 _ (by omega) (by omega)
  have wb : IntKind.i64.wrap (b + 2) = b + 2 := wrap_i64 _ (by omega) (by omega)
  have wc : IntKind.i64.wrap (c + 2) = c + 2 := wrap_i64 _ (by omega) (by omega)
  have wd : IntKind.i64.wrap (d + 2) = d + 2 := wrap_i64 _ (by omega) (by omega)
  refine fn_of_body (G := G) Try.func94 rfl (by decide) (Nat.le_of_ble_eq_true rfl) ?_
  conv => whnf
  refine .inl ⟨Nat, fun k => 5 - k, fun k => k ≤ 2,
    fun k => ⟨[(1, .one (.c (vI 1))), (2, .one (.c (vI 2))), (3, .one (.c (.ptr 0 0 0))), (6, .one (.c (.ptr 1 0 0))), (8, .one (.c (vI 2))), (9, .one (.c (vI k)))],
      [(0, .box (if k = 0 then [.d (dI a), .d (dI b), .d (dI c), .d (dI d)] else if k = 1 then [.d (dI a), .d (dI (b + 2)), .d (dI c), .d (dI d)] else [.d (dI a), .d (dI (b + 2)), .d (dI (c + 2)), .d (dI d)])), (0, .box [.d (dI 0), .d (dI 0), .d (dI 0), .d (dI 0)])], _⟩, 0, by omega, weak_of rfl ?_ rfl (Nat.le_of_ble_eq_true rfl), ?_⟩
  · (repeat' first | exact rfl | exact trivial | apply And.intro | (simp [getE]; done))
  intro k hk
  have hc : k = 0 ∨ k = 1 ∨ k = 2 := by omega
  rcases hc with rfl | rfl | rfl
  · conv => whnf
    repeat' first
      | (refine And.intro (Int.le_of_lt (by decide)) (And.intro (by decide) ?_); conv => whnf)
      | (refine And.intro (by decide) (And.intro (by decide) ?_); conv => whnf)
    rw [wb]
    have e : IntKind.i64.wrap (((0 : Nat) : Int) + 1) = ((1 : Nat) : Int) := by decide
    refine ⟨1, by omega, by decide, weak_of rfl ?_ rfl (Nat.le_of_ble_eq_true rfl)⟩
    simp only [e]; (repeat' first | exact rfl | exact trivial | apply And.intro | (simp [getE]; done))
  · conv => whnf
    repeat' first
      | (refine And.intro (Int.le_of_lt (by decide)) (And.intro (by decide) ?_); conv => whnf)
      | (refine And.intro (by decide) (And.intro (by decide) ?_); conv => whnf)
    rw [wc]
    have e : IntKind.i64.wrap (((1 : Nat) : Int) + 1) = ((2 : Nat) : Int) := by decide
    refine ⟨2, by omega, by decide, weak_of rfl ?_ rfl (Nat.le_of_ble_eq_true rfl)⟩
    simp only [e]; (repeat' first | exact rfl | exact trivial | apply And.intro | (simp [getE]; done))
  · conv => whnf
    exact ⟨⟨⟨rfl, rfl, rfl, rfl, trivial⟩, trivial⟩, by simp [refVs, refCs, refCV]⟩

theorem put4_13 (a b c d : Int) (ha : 0 ≤ a ∧ a ≤ 100) (hb : 0 ≤ b ∧ b ≤ 100) (hc : 0 ≤ c ∧ c ≤ 100) (hd : 0 ≤ d ∧ d ≤ 100) : Fn G.P 94 [.agg [dI a, dI b, dI c, dI d], aI 1, aI 3] (.one (.agg [dI a, dI (b + 3), dI (c + 3), dI (d + 3)])) := by
  have wa : IntKind.i64.wrap (a + 3) = a + 3 := wrap_i64 _ (by omega) (by omega)
  have wb : IntKind.i64.wrap (b + 3) = b + 3 := wrap_i64 _ (by omega) (by omega)
  have wc : IntKind.i64.wrap (c + 3) = c + 3 := wrap_i64 _ (by omega) (by omega)
  have wd : IntKind.i64.wrap (d + 3) = d + 3 := wrap_i64 _ (by omega) (by omega)
  refine fn_of_body (G := G) Try.func94 rfl (by decide) (Nat.le_of_ble_eq_true rfl) ?_
  conv => whnf
  refine .inl ⟨Nat, fun k => 5 - k, fun k => k ≤ 3,
    fun k => ⟨[(1, .one (.c (vI 1))), (2, .one (.c (vI 3))), (3, .one (.c (.ptr 0 0 0))), (6, .one (.c (.ptr 1 0 0))), (8, .one (.c (vI 3))), (9, .one (.c (vI k)))],
      [(0, .box (if k = 0 then [.d (dI a), .d (dI b), .d (dI c), .d (dI d)] else if k = 1 then [.d (dI a), .d (dI (b + 3)), .d (dI c), .d (dI d)] else if k = 2 then [.d (dI a), .d (dI (b + 3)), .d (dI (c + 3)), .d (dI d)] else [.d (dI a), .d (dI (b + 3)), .d (dI (c + 3)), .d (dI (d + 3))])), (0, .box [.d (dI 0), .d (dI 0), .d (dI 0), .d (dI 0)])], _⟩, 0, by omega, weak_of rfl ?_ rfl (Nat.le_of_ble_eq_true rfl), ?_⟩
  · (repeat' first | exact rfl | exact trivial | apply And.intro | (simp [getE]; done))
  intro k hk
  have hc : k = 0 ∨ k = 1 ∨ k = 2 ∨ k = 3 := by omega
  rcases hc with rfl | rfl | rfl | rfl
  · conv => whnf
    repeat' first
      | (refine And.intro (Int.le_of_lt (by decide)) (And.intro (by decide) ?_); conv => whnf)
      | (refine And.intro (by decide) (And.intro (by decide) ?_); conv => whnf)
    rw [wb]
    have e : IntKind.i64.wrap (((0 : Nat) : Int) + 1) = ((1 : Nat) : Int) := by decide
    refine ⟨1, by omega, by decide, weak_of rfl ?_ rfl (Nat.le_of_ble_eq_true rfl)⟩
    simp only [e]; (repeat' first | exact rfl | exact trivial | apply And.intro | (simp [getE]; done))
  · conv => whnf
    repeat' first
      | (refine And.intro (Int.le_of_lt (by decide)) (And.intro (by decide) ?_); conv => whnf)
      | (refine And.intro (by decide) (And.intro (by decide) ?_); conv => whnf)
    rw [wc]
    have e : IntKind.i64.wrap (((1 : Nat) : Int) + 1) = ((2 : Nat) : Int) := by decide
    refine ⟨2, by omega, by decide, weak_of rfl ?_ rfl (Nat.le_of_ble_eq_true rfl)⟩
    simp only [e]; (repeat' first | exact rfl | exact trivial | apply And.intro | (simp [getE]; done))
  · conv => whnf
    repeat' first
      | (refine And.intro (Int.le_of_lt (by decide)) (And.intro (by decide) ?_); conv => whnf)
      | (refine And.intro (by decide) (And.intro (by decide) ?_); conv => whnf)
    rw [wd]
    have e : IntKind.i64.wrap (((2 : Nat) : Int) + 1) = ((3 : Nat) : Int) := by decide
    refine ⟨3, by omega, by decide, weak_of rfl ?_ rfl (Nat.le_of_ble_eq_true rfl)⟩
    simp only [e]; (repeat' first | exact rfl | exact trivial | apply And.intro | (simp [getE]; done))
  · conv => whnf
    exact ⟨⟨⟨rfl, rfl, rfl, rfl, trivial⟩, trivial⟩, by simp [refVs, refCs, refCV]⟩

theorem put4_21 (a b c d : Int) (ha : 0 ≤ a ∧ a ≤ 100) (hb : 0 ≤ b ∧ b ≤ 100) (hc : 0 ≤ c ∧ c ≤ 100) (hd : 0 ≤ d ∧ d ≤ 100) : Fn G.P 94 [.agg [dI a, dI b, dI c, dI d], aI 2, aI 1] (.one (.agg [dI a, dI b, dI (c + 1), dI d])) := by
  have wa : IntKind.i64.wrap (a + 1) = a + 1 := wrap_i64 _ (by omega) (by omega)
  have wb : IntKind.i64.wrap (b + 1) = b + 1 := wrap_i64 _ (by omega) (by omega)
  have wc : IntKind.i64.wrap (c + 1) = c + 1 := wrap_i64 _ (by omega) (by omega)
  have wd : IntKind.i64.wrap (d + 1) = d + 1 := wrap_i64 _ (by omega) (by omega)
  refine fn_of_body (G := G) Try.func94 rfl (by decide) (Nat.le_of_ble_eq_true rfl) ?_
  conv => whnf
  refine .inl ⟨Nat, fun k => 5 - k, fun k => k ≤ 1,
    fun k => ⟨[(1, .one (.c (vI 2))), (2, .one (.c (vI 1))), (3, .one (.c (.ptr 0 0 0))), (6, .one (.c (.ptr 1 0 0))), (8, .one (.c (vI 1))), (9, .one (.c (vI k)))],
      [(0, .box (if k = 0 then [.d (dI a), .d (dI b), .d (dI c), .d (dI d)] else [.d (dI a), .d (dI b), .d (dI (c + 1)), .d (dI d)])), (0, .box [.d (dI 0), .d (dI 0), .d (dI 0), .d (dI 0)])], _⟩, 0, by omega, weak_of rfl ?_ rfl (Nat.le_of_ble_eq_true rfl), ?_⟩
  · (repeat' first | exact rfl | exact trivial | apply And.intro | (simp [getE]; done))
  intro k hk
  have hc : k = 0 ∨ k = 1 := by omega
  rcases hc with rfl | rfl
  · conv => whnf
    repeat' first
      | (refine And.intro (Int.le_of_lt (by decide)) (And.intro (by decide) ?_); conv => whnf)
      | (refine And.intro (by decide) (And.intro (by decide) ?_); conv => whnf)
    rw [wc]
    have e : IntKind.i64.wrap (((0 : Nat) : Int) + 1) = ((1 : Nat) : Int) := by decide
    refine ⟨1, by omega, by decide, weak_of rfl ?_ rfl (Nat.le_of_ble_eq_true rfl)⟩
    simp only [e]; (repeat' first | exact rfl | exact trivial | apply And.intro | (simp [getE]; done))
  · conv => whnf
    exact ⟨⟨⟨rfl, rfl, rfl, rfl, trivial⟩, trivial⟩, by simp [refVs, refCs, refCV]⟩

theorem put4_22 (a b c d : Int) (ha : 0 ≤ a ∧ a ≤ 100) (hb : 0 ≤ b ∧ b ≤ 100) (hc : 0 ≤ c ∧ c ≤ 100) (hd : 0 ≤ d ∧ d ≤ 100) : Fn G.P 94 [.agg [dI a, dI b, dI c, dI d], aI 2, aI 2] (.one (.agg [dI a, dI b, dI (c + 2), dI (d + 2)])) := by
  have wa : IntKind.i64.wrap (a + 2) = a + 2 := wrap_i64 _ (by omega) (by omega)
  have wb : IntKind.i64.wrap (b + 2) = b + 2 := wrap_i64 _ (by omega) (by omega)
  have wc : IntKind.i64.wrap (c + 2) = c + 2 := wrap_i64 _ (by omega) (by omega)
  have wd : IntKind.i64.wrap (d + 2) = d + 2 := wrap_i64 _ (by omega) (by omega)
  refine fn_of_body (G := G) Try.func94 rfl (by decide) (Nat.le_of_ble_eq_true rfl) ?_
  conv => whnf
  refine .inl ⟨Nat, fun k => 5 - k, fun k => k ≤ 2,
    fun k => ⟨[(1, .one (.c (vI 2))), (2, .one (.c (vI 2))), (3, .one (.c (.ptr 0 0 0))), (6, .one (.c (.ptr 1 0 0))), (8, .one (.c (vI 2))), (9, .one (.c (vI k)))],
      [(0, .box (if k = 0 then [.d (dI a), .d (dI b), .d (dI c), .d (dI d)] else if k = 1 then [.d (dI a), .d (dI b), .d (dI (c + 2)), .d (dI d)] else [.d (dI a), .d (dI b), .d (dI (c + 2)), .d (dI (d + 2))])), (0, .box [.d (dI 0), .d (dI 0), .d (dI 0), .d (dI 0)])], _⟩, 0, by omega, weak_of rfl ?_ rfl (Nat.le_of_ble_eq_true rfl), ?_⟩
  · (repeat' first | exact rfl | exact trivial | apply And.intro | (simp [getE]; done))
  intro k hk
  have hc : k = 0 ∨ k = 1 ∨ k = 2 := by omega
  rcases hc with rfl | rfl | rfl
  · conv => whnf
    repeat' first
      | (refine And.intro (Int.le_of_lt (by decide)) (And.intro (by decide) ?_); conv => whnf)
      | (refine And.intro (by decide) (And.intro (by decide) ?_); conv => whnf)
    rw [wc]
    have e : IntKind.i64.wrap (((0 : Nat) : Int) + 1) = ((1 : Nat) : Int) := by decide
    refine ⟨1, by omega, by decide, weak_of rfl ?_ rfl (Nat.le_of_ble_eq_true rfl)⟩
    simp only [e]; (repeat' first | exact rfl | exact trivial | apply And.intro | (simp [getE]; done))
  · conv => whnf
    repeat' first
      | (refine And.intro (Int.le_of_lt (by decide)) (And.intro (by decide) ?_); conv => whnf)
      | (refine And.intro (by decide) (And.intro (by decide) ?_); conv => whnf)
    rw [wd]
    have e : IntKind.i64.wrap (((1 : Nat) : Int) + 1) = ((2 : Nat) : Int) := by decide
    refine ⟨2, by omega, by decide, weak_of rfl ?_ rfl (Nat.le_of_ble_eq_true rfl)⟩
    simp only [e]; (repeat' first | exact rfl | exact trivial | apply And.intro | (simp [getE]; done))
  · conv => whnf
    exact ⟨⟨⟨rfl, rfl, rfl, rfl, trivial⟩, trivial⟩, by simp [refVs, refCs, refCV]⟩

theorem put4_31 (a b c d : Int) (ha : 0 ≤ a ∧ a ≤ 100) (hb : 0 ≤ b ∧ b ≤ 100) (hc : 0 ≤ c ∧ c ≤ 100) (hd : 0 ≤ d ∧ d ≤ 100) : Fn G.P 94 [.agg [dI a, dI b, dI c, dI d], aI 3, aI 1] (.one (.agg [dI a, dI b, dI c, dI (d + 1)])) := by
  have wa : IntKind.i64.wrap (a + 1) = a + 1 := wrap_i64 _ (by omega) (by omega)
  have wb : IntKind.i64.wrap (b + 1) = b + 1 := wrap_i64 _ (by omega) (by omega)
  have wc : IntKind.i64.wrap (c + 1) = c + 1 := wrap_i64 _ (by omega) (by omega)
  have wd : IntKind.i64.wrap (d + 1) = d + 1 := wrap_i64 _ (by omega) (by omega)
  refine fn_of_body (G := G) Try.func94 rfl (by decide) (Nat.le_of_ble_eq_true rfl) ?_
  conv => whnf
  refine .inl ⟨Nat, fun k => 5 - k, fun k => k ≤ 1,
    fun k => ⟨[(1, .one (.c (vI 3))), (2, .one (.c (vI 1))), (3, .one (.c (.ptr 0 0 0))), (6, .one (.c (.ptr 1 0 0))), (8, .one (.c (vI 1))), (9, .one (.c (vI k)))],
      [(0, .box (if k = 0 then [.d (dI a), .d (dI b), .d (dI c), .d (dI d)] else [.d (dI a), .d (dI b), .d (dI c), .d (dI (d + 1))])), (0, .box [.d (dI 0), .d (dI 0), .d (dI 0), .d (dI 0)])], _⟩, 0, by omega, weak_of rfl ?_ rfl (Nat.le_of_ble_eq_true rfl), ?_⟩
  · (repeat' first | exact rfl | exact trivial | apply And.intro | (simp [getE]; done))
  intro k hk
  have hc : k = 0 ∨ k = 1 := by omega
  rcases hc with rfl | rfl
  · conv => whnf
    repeat' first
      | (refine And.intro (Int.le_of_lt (by decide)) (And.intro (by decide) ?_); conv => whnf)
      | (refine And.intro (by decide) (And.intro (by decide) ?_); conv => whnf)
    rw [wd]
    have e : IntKind.i64.wrap (((0 : Nat) : Int) + 1) = ((1 : Nat) : Int) := by decide
    refine ⟨1, by omega, by decide, weak_of rfl ?_ rfl (Nat.le_of_ble_eq_true rfl)⟩
    simp only [e]; (repeat' first | exact rfl | exact trivial | apply And.intro | (simp [getE]; done))
  · conv => whnf
    exact ⟨⟨⟨rfl, rfl, rfl, rfl, trivial⟩, trivial⟩, by simp [refVs, refCs, refCV]⟩

end Go.Proofs.Ytmfdkjjhdjkgpaa

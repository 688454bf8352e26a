/- Squares of a cut fill it: each cell is in just one. -/
import Derived.Test.YtmfdkjjhdjkgpaaQZg
import Derived.Test.YtmfdkjjhdjkgpaaQZz
import Derived.Test.YtmfdkjjhdjkgpaaQPsort
import Derived.Test.YtmfdkjjhdjkgpaaQQs
namespace Go.Proofs.Ytmfdkjjhdjkgpaa
open Go Go.RowKit
set_option maxRecDepth 10000
set_option linter.unusedSimpArgs false

def inI (X s : Int) (x : Nat) : Bool := decide (X ≤ x) && decide ((x : Int) < X + s)

/-- The cell is in the square. -/
def inSq (q : Int × Int × Int) (x y : Nat) : Bool := inI q.1 q.2.2 x && inI q.2.1 q.2.2 y

def sumN (n : Nat) (f : Nat → Nat) : Nat := ((List.range n).map f).sum

theorem sumN_succ (n : Nat) (f : Nat → Nat) : sumN (n + 1) f = sumN n f + f n := by
  simp [sumN, List.range_succ]

theorem sumN_congr {f g : Nat → Nat} : ∀ (n : Nat), (∀ i, i < n → f i = g i) → sumN n f = sumN n g
  | 0, _ => rfl
  | n + 1, h => by rw [sumN_succ, sumN_succ, sumN_congr n (fun i hi => h i (by omega)), h n (by omega)]

theorem sumN_add (n : Nat) (f g : Nat → Nat) : sumN n (fun i => f i + g i) = sumN n f + sumN n g := by
  induction n with
  | zero => rfl
  | succ n ih => rw [sumN_succ, sumN_succ, sumN_succ, ih]; omega

theorem sumN_zero (n : Nat) : sumN n (fun _ => 0) = 0 := by
  induction n with
  | zero => rfl
  | succ n ih => rw [sumN_succ, ih]

theorem sumN_const (n c : Nat) : sumN n (fun _ => c) = n * c := by
  induction n with
  | zero => simp [sumN]
  | succ n ih => rw [sumN_succ, ih, Nat.succ_mul]

theorem sumN_le {f g : Nat → Nat} : ∀ (n : Nat), (∀ i, i < n → f i ≤ g i) → sumN n f ≤ sumN n g
  | 0, _ => Nat.le_refl _
  | n + 1, h => by
    rw [sumN_succ, sumN_succ]
    have := sumN_le n (fun i hi => h i (by omega))
    have := h n (by omega)
    omega

theorem sumN_lt {f g : Nat → Nat} {k : Nat} : ∀ (n : Nat), (∀ i, i < n → f i ≤ g i) → k < n → f k < g k → sumN n f < sumN n g
  | 0, _, hk, _ => by omega
  | n + 1, h, hk, hlt => by
    rw [sumN_succ, sumN_succ]
    have h1 := h n (by omega)
    by_cases e : k = n
    · subst e
      have := sumN_le k (fun i hi => h i (by omega))
      omega
    · have := sumN_lt n (fun i hi => h i (by omega)) (by omega) hlt
      omega

theorem sumN_inI {c : Nat} : ∀ (n : Nat) (X s : Int), 0 ≤ X → 0 ≤ s → X + s ≤ n → sumN n (fun x => if inI X s x then c else 0) = s.toNat * c
  | 0, X, s, h1, h2, h3 => by
    have : s = 0 := by omega
    subst this; simp [sumN]
  | n + 1, X, s, h1, h2, h3 => by
    rw [sumN_succ]
    by_cases h : X + s ≤ n
    · rw [sumN_inI n X s h1 h2 h]
      have : inI X s n = false := by simp [inI]; omega
      rw [this]; simp
    · by_cases hs0 : s = 0
      · subst hs0
        have h0 : ∀ x, inI X 0 x = false := fun x => by simp [inI]
        simp only [h0]
        simp [sumN_zero]
      have he : X + s = n + 1 := by omega
      have hc : sumN n (fun x => if inI X s x then c else 0) = sumN n (fun x => if inI X (s - 1) x then c else 0) := by
        refine sumN_congr n fun i hi => ?_
        have : inI X s i = inI X (s - 1) i := by
          unfold inI
          congr 1
          apply decide_eq_decide.2
          omega
        rw [this]
      rw [hc, sumN_inI n X (s - 1) h1 (by omega) (by omega)]
      have : inI X s n = true := by simp [inI]; omega
      rw [this, if_pos rfl]
      have e : s.toNat = (s - 1).toNat + 1 := by omega
      rw [e, Nat.succ_mul]

/-- How many squares a cell is in. -/
def cnt (l : List (Int × Int × Int)) (x y : Nat) : Nat := (l.map fun q => if inSq q x y then 1 else 0).sum

theorem cnt_sum {w h : Nat} : ∀ (l : List (Int × Int × Int)), (∀ q ∈ l, placeB w h q = true) → sumN w (fun x => sumN h (fun y => cnt l x y)) = (l.map fun q => q.2.2.toNat * q.2.2.toNat).sum
  | [], _ => by
    have : (fun x : Nat => sumN h (fun y => cnt [] x y)) = fun _ => 0 := by funext x; simp [cnt, sumN_zero]
    rw [this, sumN_zero]; rfl
  | q :: l, hp => by
    have e : ∀ x y, cnt (q :: l) x y = (if inSq q x y then 1 else 0) + cnt l x y := fun x y => by simp [cnt]
    have hq := hp q (by simp)
    simp only [placeB, inB, Bool.and_eq_true, decide_eq_true_eq] at hq
    simp only [e]
    rw [sumN_congr (g := fun x => sumN h (fun y => if inSq q x y then 1 else 0) + sumN h (fun y => cnt l x y)) w (fun x _ => sumN_add h _ _), sumN_add, cnt_sum l (fun p hp' => hp p (by simp [hp']))]
    rw [List.map_cons, List.sum_cons]
    congr 1
    have e2 : ∀ x, sumN h (fun y => if inSq q x y then 1 else 0) = if inI q.1 q.2.2 x then q.2.2.toNat else 0 := fun x => by
      by_cases hx : inI q.1 q.2.2 x = true
      · rw [if_pos hx]
        have := sumN_inI (c := 1) h q.2.1 q.2.2 (by omega) (by omega) (by omega)
        rw [Nat.mul_one] at this
        rw [← this]
        exact sumN_congr h fun y _ => by simp [inSq, hx]
      · have hx' : inI q.1 q.2.2 x = false := by simpa using hx
        rw [if_neg hx]
        have : (fun y : Nat => if inSq q x y then 1 else 0) = fun _ => 0 := by funext y; simp [inSq, hx']
        rw [this, sumN_zero]
    simp only [e2]
    exact sumN_inI w q.1 q.2.2 (by omega) (by omega) (by omega)

theorem inSq_ov {a b : Int × Int × Int} {x y : Nat} (ha : inSq a x y = true) (hb : inSq b x y = true) : ovB b a = true := by
  simp only [inSq, inI, Bool.and_eq_true, decide_eq_true_eq] at ha hb
  simp only [ovB, Bool.and_eq_true, decide_eq_true_eq]
  omega

theorem cnt_none : ∀ (l : List (Int × Int × Int)) {x y : Nat}, (∀ q ∈ l, inSq q x y = false) → cnt l x y = 0
  | [], _, _, _ => rfl
  | q :: l, x, y, h => by
    have e : cnt (q :: l) x y = (if inSq q x y then 1 else 0) + cnt l x y := by simp [cnt]
    rw [e, h q (by simp), cnt_none l (fun p hp => h p (by simp [hp]))]; rfl

theorem cnt_le : ∀ (l : List (Int × Int × Int)) (x y : Nat), l.Pairwise (fun a b => ovB b a = false) → cnt l x y ≤ 1
  | [], _, _, _ => by simp [cnt]
  | q :: l, x, y, h => by
    obtain ⟨h1, h2⟩ := List.pairwise_cons.1 h
    have e : cnt (q :: l) x y = (if inSq q x y then 1 else 0) + cnt l x y := by simp [cnt]
    rw [e]
    by_cases hq : inSq q x y = true
    · rw [if_pos hq, cnt_none l (fun p hp => by
        by_cases hp' : inSq p x y = true
        · have := inSq_ov hq hp'
          rw [h1 p hp] at this; cases this
        · simpa using hp')]
      exact Nat.le_refl _
    · rw [if_neg hq]
      have := cnt_le l x y h2
      omega

/-- What a test of a cut says. -/
theorem chk_facts {w h : Int} : ∀ (l pre : List (Int × Int × Int)) (area : Int), cutChk w h pre l area = true → (∀ q ∈ l, placeB w h q = true) ∧ l.Pairwise (fun a b => ovB b a = false) ∧ (∀ a ∈ pre, ∀ b ∈ l, ovB b a = false) ∧ area + (l.map fun q => q.2.2 * q.2.2).sum = w * h
  | [], pre, area, hc => ⟨by simp, List.Pairwise.nil, by simp, by simp only [cutChk, beq_iff_eq] at hc; simpa using hc⟩
  | s :: l, pre, area, hc => by
    simp only [cutChk, Bool.and_eq_true, okB] at hc
    obtain ⟨⟨hp, ho, _⟩, hr⟩ := hc
    obtain ⟨h1, h2, h3, h4⟩ := chk_facts l (pre ++ [s]) _ hr
    have ho' : ∀ a ∈ pre, ovB s a = false := by simpa using ho
    refine ⟨?_, List.pairwise_cons.2 ⟨fun b hb => h3 s (by simp) b hb, h2⟩, ?_, ?_⟩
    · intro q hq
      rcases List.mem_cons.1 hq with rfl | hq
      · exact hp
      · exact h1 q hq
    · intro a ha b hb
      rcases List.mem_cons.1 hb with rfl | hb
      · exact ho' a ha
      · exact h3 a (by simp [ha]) b hb
    · rw [List.map_cons, List.sum_cons, ← h4]; omega

theorem good_chk {w h : Int} {sq : List (Int × Int × Int)} (hg : goodCutB w h sq = true) : (1 ≤ w ∧ w ≤ 500) ∧ (1 ≤ h ∧ h ≤ 500) ∧ (1 ≤ sq.length ∧ sq.length ≤ 30) ∧ (∀ q ∈ sq, placeB w h q = true) ∧ sq.Pairwise (fun a b => ovB b a = false) ∧ (sq.map fun q => q.2.2 * q.2.2).sum = w * h := by
  simp only [goodCutB, Bool.and_eq_true] at hg
  obtain ⟨h1, h2, h3, h4⟩ := hg
  obtain ⟨k1, k2, _, k4⟩ := chk_facts sq [] 0 h4
  simp only [inB, decide_eq_true_eq] at h1 h2 h3
  exact ⟨h1, h2, by omega, k1, k2, by omega⟩

theorem sum_sq : ∀ (l : List (Int × Int × Int)), (∀ q ∈ l, 0 ≤ q.2.2) → (((l.map fun q => q.2.2.toNat * q.2.2.toNat).sum : Nat) : Int) = (l.map fun q => q.2.2 * q.2.2).sum
  | [], _ => rfl
  | q :: l, h => by
    have := h q (by simp)
    have e : ((q.2.2.toNat : Nat) : Int) = q.2.2 := by omega
    rw [List.map_cons, List.sum_cons, List.map_cons, List.sum_cons, ← sum_sq l (fun p hp => h p (by simp [hp]))]
    rw [Int.natCast_add, Int.natCast_mul, e]

/-- Each cell is in a square. -/
theorem good_cover {w h : Int} {sq : List (Int × Int × Int)} (hg : goodCutB w h sq = true) {x y : Nat} (hx : (x : Int) < w) (hy : (y : Int) < h) : ∃ q ∈ sq, inSq q x y = true := by
  obtain ⟨⟨w1, w2⟩, ⟨h1, h2⟩, _, hp, hd, ha⟩ := good_chk hg
  obtain ⟨W, rfl⟩ : ∃ W : Nat, w = W := ⟨w.toNat, by omega⟩
  obtain ⟨H, rfl⟩ : ∃ H : Nat, h = H := ⟨h.toNat, by omega⟩
  by_cases hex : ∃ q ∈ sq, inSq q x y = true
  · exact hex
  exfalso
  have hno : ∀ q ∈ sq, inSq q x y = false := fun q hq => by
    by_cases hc : inSq q x y = true
    · exact (hex ⟨q, hq, hc⟩).elim
    · simpa using hc
  have hs := cnt_sum (w := W) (h := H) sq hp
  have hpos : ∀ q ∈ sq, 0 ≤ q.2.2 := fun q hq => by
    have := hp q hq
    simp only [placeB, inB, Bool.and_eq_true, decide_eq_true_eq] at this; omega
  have he := sum_sq sq hpos
  rw [ha] at he
  have hlt : sumN W (fun x => sumN H (fun y => cnt sq x y)) < sumN W (fun _ => sumN H (fun _ => 1)) := by
    refine sumN_lt (k := x) W (fun i _ => sumN_le H fun j _ => cnt_le sq i j hd) (by omega) ?_
    refine sumN_lt (k := y) H (fun j _ => cnt_le sq x j hd) (by omega) ?_
    rw [cnt_none sq hno]; exact Nat.one_pos
  rw [sumN_const, sumN_const, hs, Nat.mul_one] at hlt
  have : ((W * H : Nat) : Int) = (W : Int) * H := by rw [Int.natCast_mul]
  omega

end Go.Proofs.Ytmfdkjjhdjkgpaa

namespace Go.Proofs.Ytmfdkjjhdjkgpaa
open Go Go.RowKit
set_option maxRecDepth 10000
set_option linter.unusedSimpArgs false

theorem cell_eq {w h : Int} {sq : List (Int × Int × Int)} (hg : goodCutB w h sq = true) {a b : Int × Int × Int} (ha : a ∈ sq) (hb : b ∈ sq) {x y : Nat} (h1 : inSq a x y = true) (h2 : inSq b x y = true) : a = b := by
  obtain ⟨_, _, _, _, hd, _⟩ := good_chk hg
  obtain ⟨i, hi, rfl⟩ := List.mem_iff_getElem.1 ha
  obtain ⟨j, hj, rfl⟩ := List.mem_iff_getElem.1 hb
  rcases Nat.lt_trichotomy i j with h | rfl | h
  · have := List.pairwise_iff_getElem.1 hd i j hi hj h
    rw [inSq_ov h1 h2] at this; cases this
  · rfl
  · have := List.pairwise_iff_getElem.1 hd j i hj hi h
    rw [inSq_ov h2 h1] at this; cases this

theorem good_nodup {w h : Int} {sq : List (Int × Int × Int)} (hg : goodCutB w h sq = true) : sq.Nodup := by
  obtain ⟨_, _, _, hp, hd, _⟩ := good_chk hg
  rw [List.Nodup, List.pairwise_iff_getElem]
  intro i j hi hj hij he
  have h1 := List.pairwise_iff_getElem.1 hd i j hi hj hij
  have h2 := hp _ (List.getElem_mem hi)
  rw [← he] at h1
  simp only [placeB, inB, Bool.and_eq_true, decide_eq_true_eq] at h2
  simp only [ovB, Bool.and_eq_false_iff, decide_eq_false_iff_not] at h1
  omega

/-- What the first i squares fill of each row: so many cells from the left. -/
def Fil (l h : Nat) (S : List (Int × Int × Int)) (i : Nat) (R : List Nat) : Prop :=
  ∀ r, r < h → R.getD r 0 ≤ l ∧ ∀ x : Nat, x < l → (x < R.getD r 0 ↔ ∃ j q, j < i ∧ S[j]? = some q ∧ inSq q x r = true)

end Go.Proofs.Ytmfdkjjhdjkgpaa

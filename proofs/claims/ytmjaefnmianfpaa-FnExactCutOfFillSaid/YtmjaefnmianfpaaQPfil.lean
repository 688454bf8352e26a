/- Strips are filled in the order of their squares: the next one always stands at the first free cell. -/
import Derived.Test.YtmjaefnmianfpaaQPcov
import Derived.Test.YtmjaefnmianfpaaQPsort
import Derived.Test.YtmjaefnmianfpaaQQs
namespace Go.Proofs.Ytmjaefnmianfpaa
open Go Go.RowKit
set_option maxRecDepth 10000
set_option linter.unusedSimpArgs false

theorem cell_eq {w h : Int} {sq : List (Int × Int × Int)} (hg : goodCutB w h sq = true) {a b : Int × Int × Int} (ha : a ∈ sq) (hb : b ∈ sq) {x y : Nat} (h1 : inSq a x y = true) (h2 : inSq b x y = true) : a = b := by
  obtain ⟨_, _, _, _, hd, _⟩ := good_chk hg
  obtain ⟨i, hi, rfl⟩ := List.mem_iff_getElem.1 ha
  obtain ⟨j, hj, rfl⟩ := List.mem_iff_getElem.1 hb
  rcases Nat.lt_trichotomy i j with h | rfl | h
  · have := List.pairwise_iff_getElem.1 hd i j hi hj h
    rw [inSq_ov h1 h2] at this; cases this
  · rfl
  · have := List.pairwise_iff_getElem.1 hd j i hj hi h
    rw [inSq_ov h2 h1] at this; cases this

theorem good_nodup {w h : Int} {sq : List (Int × Int × Int)} (hg : goodCutB w h sq = true) : sq.Nodup := by
  obtain ⟨_, _, _, hp, hd, _⟩ := good_chk hg
  rw [List.Nodup, List.pairwise_iff_getElem]
  intro i j hi hj hij he
  have h1 := List.pairwise_iff_getElem.1 hd i j hi hj hij
  have h2 := hp _ (List.getElem_mem hi)
  rw [← he] at h1
  simp only [placeB, inB, Bool.and_eq_true, decide_eq_true_eq] at h2
  simp only [ovB, Bool.and_eq_false_iff, decide_eq_false_iff_not] at h1
  omega

/-- What the first i squares fill of each row: so many cells from the left. -/
def Fil (l h : Nat) (S : List (Int × Int × Int)) (i : Nat) (R : List Nat) : Prop :=
  ∀ r, r < h → R.getD r 0 ≤ l ∧ ∀ x : Nat, x < l → (x < R.getD r 0 ↔ ∃ j q, j < i ∧ S[j]? = some q ∧ inSq q x r = true)

theorem fil_start {l h : Nat} {S : List (Int × Int × Int)} : Fil l h S 0 [0, 0, 0, 0] := by
  intro r _
  have : ([0, 0, 0, 0] : List Nat).getD r 0 = 0 := by
    match r with
    | 0 => rfl
    | 1 => rfl
    | 2 => rfl
    | 3 => rfl
    | r + 4 => rfl
  rw [this]
  exact ⟨Nat.zero_le _, fun x _ => ⟨fun h => by omega, fun ⟨j, _, hj, _⟩ => by omega⟩⟩

theorem fil_step {l h X st y i : Nat} {sq S : List (Int × Int × Int)} {R : List Nat} {q : Int × Int × Int} (hg : goodCutB l h sq = true) (hS : S.Perm sq) (hasc : Asc ltXY S) (hh : h < 5) (hq : S[i]? = some q) (hf : Fil l h S i R)
    (hat : At h l X st R) (hy : freeS h st = some y) : ∃ s : Nat, q = ((X : Int), (y : Int), (s : Int)) ∧ 1 ≤ s ∧ s ≤ mst h l X R y ∧ Fil l h S (i + 1) (putR R y s) := by
  obtain ⟨y1, y2, y3⟩ := freeS_spec hy
  have hin : i < S.length := (List.getElem?_eq_some_iff.1 hq).1
  have hmem : ∀ j p, S[j]? = some p → p ∈ sq := fun j p hj => hS.mem_iff.1 (List.mem_of_getElem? hj)
  have hqm := hmem i q hq
  obtain ⟨_, _, _, hpl, _, _⟩ := good_chk hg
  have hpq := hpl q hqm
  simp only [placeB, inB, Bool.and_eq_true, decide_eq_true_eq] at hpq
  have hnd : S.Nodup := hS.symm.nodup (good_nodup hg)
  -- no cell of q is filled yet
  have hfree : ∀ x r : Nat, r < h → x < l → inSq q x r = true → R.getD r 0 ≤ x := by
    intro x r hr hx hin'
    by_cases hc : x < R.getD r 0
    · obtain ⟨j, p, hj, hp, hpin⟩ := ((hf r hr).2 x hx).1 hc
      have := cell_eq hg (hmem j p hp) hqm hpin hin'
      subst this
      have hji := List.pairwise_iff_getElem.1 hnd j i (List.getElem?_eq_some_iff.1 hp).1 hin hj
      rw [(List.getElem?_eq_some_iff.1 hp).2, (List.getElem?_eq_some_iff.1 hq).2] at hji
      exact (hji rfl).elim
    · omega
  obtain ⟨qx, hqx⟩ : ∃ n : Nat, q.1 = n := ⟨q.1.toNat, by omega⟩
  obtain ⟨qy, hqy⟩ : ∃ n : Nat, q.2.1 = n := ⟨q.2.1.toNat, by omega⟩
  obtain ⟨s, hs⟩ : ∃ n : Nat, q.2.2 = n := ⟨q.2.2.toNat, by omega⟩
  have hcell : ∀ a b : Nat, qx ≤ a → a < qx + s → qy ≤ b → b < qy + s → inSq q a b = true := by
    intro a b h1 h2 h3 h4
    simp only [inSq, inI, Bool.and_eq_true, decide_eq_true_eq]
    omega
  have hrow : ∀ r, r < h → R.getD r 0 = X + dg st r := fun r hr => hat.row r hr
  have hR1 : R.getD qy 0 ≤ qx := hfree qx qy (by omega) (by omega) (hcell qx qy (by omega) (by omega) (by omega) (by omega))
  have hXq : X ≤ qx := by have := hrow qy (by omega); omega
  have hXl : X < l := by omega
  have hRy : R.getD y 0 = X := by rw [hrow y y1, y2]; rfl
  -- the first free cell is in a square that comes now
  obtain ⟨p, hp, hpin⟩ := good_cover hg (x := X) (y := y) (by omega) (by omega)
  obtain ⟨j, hj, hjp⟩ := List.mem_iff_getElem.1 (hS.mem_iff.2 hp)
  have hpp := hpl p hp
  simp only [placeB, inB, Bool.and_eq_true, decide_eq_true_eq] at hpp
  have hji : ¬ j < i := by
    intro hlt
    have := ((hf y y1).2 X hXl).2 ⟨j, p, hlt, by rw [List.getElem?_eq_getElem hj, hjp], hpin⟩
    omega
  have hpin0 := hpin
  simp only [inSq, inI, Bool.and_eq_true, decide_eq_true_eq] at hpin
  obtain ⟨px, hpx⟩ : ∃ n : Nat, p.1 = n := ⟨p.1.toNat, by omega⟩
  obtain ⟨py, hpy⟩ : ∃ n : Nat, p.2.1 = n := ⟨p.2.1.toNat, by omega⟩
  have hpfree : R.getD py 0 ≤ px := by
    by_cases hc : px < R.getD py 0
    · obtain ⟨k, p', hk, hp', hpin'⟩ := ((hf py (by omega)).2 px (by omega)).1 hc
      have hc2 : inSq p px py = true := by simp only [inSq, inI, Bool.and_eq_true, decide_eq_true_eq]; omega
      have := cell_eq hg (hmem k p' hp') hp hpin' hc2
      subst this
      have hkj := List.pairwise_iff_getElem.1 hnd k j (List.getElem?_eq_some_iff.1 hp').1 hj (by omega)
      rw [(List.getElem?_eq_some_iff.1 hp').2, hjp] at hkj
      exact (hkj rfl).elim
    · omega
  have hrp := hrow py (by omega)
  have hpxX : px = X := by omega
  have hpyy : py = y := by
    have h0 : dg st py = 0 := by omega
    by_cases hlt : py < y
    · exact (y3 py hlt h0).elim
    · omega
  have hqq : qx = X ∧ qy = y := by
    by_cases hij : i = j
    · subst hij
      have : p = q := by rw [← hjp]; exact (List.getElem?_eq_some_iff.1 hq).2
      subst this
      omega
    · have ha := List.pairwise_iff_getElem.1 hasc i j hin hj (by omega)
      rw [hjp, (List.getElem?_eq_some_iff.1 hq).2] at ha
      simp only [ltXY, Bool.or_eq_false_iff, Bool.and_eq_false_imp, decide_eq_false_iff_not, beq_iff_eq] at ha
      have hxx : qx = X := by omega
      refine ⟨hxx, ?_⟩
      have h0 : dg st qy = 0 := by have := hrow qy (by omega); omega
      by_cases hlt : qy < y
      · exact (y3 qy hlt h0).elim
      · omega
  obtain ⟨e1, e2⟩ := hqq
  subst e1 e2
  have hall : ∀ k, k < s → qy + k < h ∧ R.getD (qy + k) 0 = qx ∧ qx + k < l := by
    intro k hk
    have h1 : qy + k < h := by omega
    have h2 := hfree qx (qy + k) h1 (by omega) (hcell qx (qy + k) (by omega) (by omega) (by omega) (by omega))
    have h3 := hrow (qy + k) h1
    exact ⟨h1, by omega, by omega⟩
  refine ⟨s, by rw [← hqx, ← hqy, ← hs], by omega, (mst_iff hh).2 hall, ?_⟩
  intro r hr
  have hr4 : r < 4 := by omega
  rw [putR_get hr4]
  obtain ⟨g1, g2⟩ := hf r hr
  by_cases hc : qy ≤ r ∧ r < qy + s
  · rw [if_pos hc]
    have hk := hall (r - qy) (by omega)
    rw [show qy + (r - qy) = r by omega] at hk
    refine ⟨by omega, fun x hx => ⟨fun hlt => ?_, fun ⟨j, p, hj, hp, hin'⟩ => ?_⟩⟩
    · by_cases hx2 : x < R.getD r 0
      · obtain ⟨j, p, h1, h2, h3⟩ := (g2 x hx).1 hx2
        exact ⟨j, p, by omega, h2, h3⟩
      · exact ⟨i, q, by omega, hq, hcell x r (by omega) (by omega) (by omega) (by omega)⟩
    · by_cases hji2 : j = i
      · subst hji2
        rw [hq] at hp
        obtain rfl := Option.some.inj hp
        simp only [inSq, inI, Bool.and_eq_true, decide_eq_true_eq] at hin'
        omega
      · have := (g2 x hx).2 ⟨j, p, by omega, hp, hin'⟩
        omega
  · rw [if_neg hc, Nat.add_zero]
    refine ⟨g1, fun x hx => ⟨fun hlt => ?_, fun ⟨j, p, hj, hp, hin'⟩ => ?_⟩⟩
    · obtain ⟨j, p, h1, h2, h3⟩ := (g2 x hx).1 hlt
      exact ⟨j, p, by omega, h2, h3⟩
    · by_cases hji2 : j = i
      · subst hji2
        rw [hq] at hp
        obtain rfl := Option.some.inj hp
        simp only [inSq, inI, Bool.and_eq_true, decide_eq_true_eq] at hin'
        omega
      · exact (g2 x hx).2 ⟨j, p, by omega, hp, hin'⟩

end Go.Proofs.Ytmjaefnmianfpaa

/- Filling by a list of sides, told without any program. -/
import Derived.Test.YtmfdkjjhdjkgpaaQZt
import Derived.Test.YtmfdkjjhdjkgpaaQZv
namespace Go.Proofs.Ytmfdkjjhdjkgpaa
open Go Go.RowKit
set_option maxRecDepth 10000
set_option maxHeartbeats 1000000
set_option linter.unusedSimpArgs false

/-- The first of the least rows. -/
def rowI (R : List Nat) : Nat → Nat
  | 0 => 0
  | i + 1 => if R.getD i 0 < R.getD (rowI R i) 0 then i else rowI R i

theorem rowI_facts (R : List Nat) : ∀ n, rowI R n ≤ n - 1 ∧ (∀ j, j < n → R.getD (rowI R n) 0 ≤ R.getD j 0) ∧ ∀ j, j < rowI R n → R.getD (rowI R n) 0 < R.getD j 0
  | 0 => ⟨Nat.le_refl _, fun j h => by omega, fun j h => by simp [rowI] at h⟩
  | n + 1 => by
    obtain ⟨h1, h2, h3⟩ := rowI_facts R n
    rw [rowI]
    by_cases c : R.getD n 0 < R.getD (rowI R n) 0
    · rw [if_pos c]
      refine ⟨by omega, fun j hj => ?_, fun j hj => ?_⟩
      · rcases Nat.lt_or_ge j n with g | g
        · exact Nat.le_of_lt (Nat.lt_of_lt_of_le c (h2 j g))
        · rw [show j = n by omega]; exact Nat.le_refl _
      · exact Nat.lt_of_lt_of_le c (h2 j hj)
    · rw [if_neg c]
      refine ⟨by omega, fun j hj => ?_, h3⟩
      rcases Nat.lt_or_ge j n with g | g
      · exact h2 j g
      · rw [show j = n by omega]; omega

/-- A square of a side can stand at the first free cell. -/
def fitF (h : Nat) (R : List Nat) (s : Nat) : Prop := 1 ≤ s ∧ rowI R h + s ≤ h ∧ ∀ k, k < s → R.getD (rowI R h + k) 0 = R.getD (rowI R h) 0

open Classical in
/-- Rows and squares behind the first i sides. -/
noncomputable def stA (h : Nat) (S : List Int) : Nat → Option (List Nat × List S3)
  | 0 => some ([0, 0, 0, 0], [])
  | i + 1 => match stA h S i with
    | none => none
    | some (R, sq) => match S[i]? with
      | none => none
      | some s => if fitF h R s.toNat then some (putR R (rowI R h) s.toNat, sq ++ [(((R.getD (rowI R h) 0 : Nat) : Int), ((rowI R h : Nat) : Int), s)])
        else if 2 ^ 63 ≤ ((rowI R h : Nat) : Int) + s then some (R, sq ++ [(((R.getD (rowI R h) 0 : Nat) : Int), ((rowI R h : Nat) : Int), s)]) else none

theorem stA_yes {h i : Nat} {S : List Int} {R : List Nat} {sq : List S3} {s : Nat} (h1 : stA h S i = some (R, sq)) (h2 : S[i]? = some (s : Int)) (h3 : fitF h R s) :
    stA h S (i + 1) = some (putR R (rowI R h) s, sq ++ [(((R.getD (rowI R h) 0 : Nat) : Int), ((rowI R h : Nat) : Int), (s : Int))]) := by
  rw [stA, h1]
  dsimp only
  rw [h2]
  dsimp only
  rw [Int.toNat_natCast, if_pos h3]

theorem stA_no {h i : Nat} {S : List Int} {R : List Nat} {sq : List S3} {s : Int} (h1 : stA h S i = some (R, sq)) (h2 : S[i]? = some s) (h3 : ¬ fitF h R s.toNat) (h4 : ¬ (2 ^ 63 ≤ ((rowI R h : Nat) : Int) + s)) : stA h S (i + 1) = none := by
  rw [stA, h1]
  dsimp only
  rw [h2]
  dsimp only
  rw [if_neg h3, if_neg h4]

theorem stA_over {h i : Nat} {S : List Int} {R : List Nat} {sq : List S3} {s : Int} (h1 : stA h S i = some (R, sq)) (h2 : S[i]? = some s) (h3 : ¬ fitF h R s.toNat) (h4 : 2 ^ 63 ≤ ((rowI R h : Nat) : Int) + s) :
    stA h S (i + 1) = some (R, sq ++ [(((R.getD (rowI R h) 0 : Nat) : Int), ((rowI R h : Nat) : Int), s)]) := by
  rw [stA, h1]
  dsimp only
  rw [h2]
  dsimp only
  rw [if_neg h3, if_pos h4]

theorem stA_inv {h i : Nat} {S : List Int} {R : List Nat} {sq : List S3} (h1 : stA h S (i + 1) = some (R, sq)) : ∃ R0 sq0 t, stA h S i = some (R0, sq0) ∧ sq = sq0 ++ [t] := by
  rw [stA] at h1
  cases h2 : stA h S i with
  | none => rw [h2] at h1; cases h1
  | some p =>
    obtain ⟨R0, sq0⟩ := p
    rw [h2] at h1
    dsimp only at h1
    cases h3 : S[i]? with
    | none => rw [h3] at h1; cases h1
    | some s =>
      rw [h3] at h1
      dsimp only at h1
      by_cases c : fitF h R0 s.toNat
      · rw [if_pos c] at h1
        cases h1
        exact ⟨_, sq0, _, rfl, rfl⟩
      · rw [if_neg c] at h1
        by_cases d : 2 ^ 63 ≤ ((rowI R0 h : Nat) : Int) + s
        · rw [if_pos d] at h1
          cases h1
          exact ⟨_, sq0, _, rfl, rfl⟩
        · rw [if_neg d] at h1; cases h1

theorem stA_none {h : Nat} {S : List Int} {i : Nat} (h1 : stA h S i = none) : ∀ d, stA h S (i + d) = none
  | 0 => h1
  | d + 1 => by
    show stA h S ((i + d) + 1) = none
    rw [stA, stA_none h1 d]

theorem stA_more {h : Nat} {S : List Int} {i : Nat} {R : List Nat} {sq : List S3} (h1 : stA h S i = some (R, sq)) : ∀ d R' sq', stA h S (i + d) = some (R', sq') → ∃ t, sq' = sq ++ t
  | 0, R', sq', h2 => by
    rw [Nat.add_zero, h1] at h2; cases h2
    exact ⟨[], by simp⟩
  | d + 1, R', sq', h2 => by
    obtain ⟨R0, sq0, s, e1, rfl⟩ := stA_inv (i := i + d) h2
    obtain ⟨t, rfl⟩ := stA_more h1 d R0 sq0 e1
    exact ⟨t ++ [_], by rw [List.append_assoc]⟩

/-- What filling by a list of sides gives. -/
noncomputable def cofL (h : Nat) (S : List Int) : (Int × Int × List S3) × Bool :=
  match stA h S S.length with
  | none => ((0, 0, []), false)
  | some (R, sq) => if (cofR (R.getD 0 0 : Nat) h sq).2 = true ∧ (cofR (R.getD 0 0 : Nat) h sq).1.1 ≤ 30 then cofR (R.getD 0 0 : Nat) h sq else ((0, 0, []), false)

/-- The squares fill the rows. -/
def FilL (h : Nat) (R : List Nat) (sq : List S3) : Prop := ∀ r, r < h → ∀ x : Nat, x < R.getD r 0 ↔ ∃ q ∈ sq, inSq q x r = true

theorem filL_step {h : Nat} {R : List Nat} {sq : List S3} {s : Nat} (hh : h < 5) (hf : FilL h R sq) (hk : fitF h R s) : FilL h (putR R (rowI R h) s) (sq ++ [(((R.getD (rowI R h) 0 : Nat) : Int), ((rowI R h : Nat) : Int), (s : Int))]) := by
  intro r hr x
  obtain ⟨k1, k2, k3⟩ := hk
  rw [putR_get (by omega)]
  have hin : inSq (((R.getD (rowI R h) 0 : Nat) : Int), ((rowI R h : Nat) : Int), (s : Int)) x r = true ↔ (R.getD (rowI R h) 0 ≤ x ∧ x < R.getD (rowI R h) 0 + s) ∧ rowI R h ≤ r ∧ r < rowI R h + s := by
    simp only [inSq, inI, Bool.and_eq_true, decide_eq_true_eq]
    omega
  have hall : (∃ q ∈ sq ++ [(((R.getD (rowI R h) 0 : Nat) : Int), ((rowI R h : Nat) : Int), (s : Int))], inSq q x r = true) ↔ (∃ q ∈ sq, inSq q x r = true) ∨ ((R.getD (rowI R h) 0 ≤ x ∧ x < R.getD (rowI R h) 0 + s) ∧ rowI R h ≤ r ∧ r < rowI R h + s) := by
    constructor
    · rintro ⟨q, hq, hx⟩
      rcases List.mem_append.1 hq with g | g
      · exact .inl ⟨q, g, hx⟩
      · rw [List.mem_singleton.1 g] at hx; exact .inr (hin.1 hx)
    · rintro (⟨q, hq, hx⟩ | g)
      · exact ⟨q, List.mem_append.2 (.inl hq), hx⟩
      · exact ⟨_, List.mem_append.2 (.inr (by simp)), hin.2 g⟩
  rw [hall, ← hf r hr x]
  by_cases c : rowI R h ≤ r ∧ r < rowI R h + s
  · rw [if_pos c]
    have := k3 (r - rowI R h) (by omega)
    rw [show rowI R h + (r - rowI R h) = r by omega] at this
    omega
  · rw [if_neg c]
    omega

theorem filL_good {h w : Nat} {R : List Nat} {sq l : List S3} (hf : FilL h R sq) (hp : l.Perm sq) (hg : goodCutB w h l = true) : ∀ r, r < h → R.getD r 0 = w := by
  intro r hr
  obtain ⟨_, _, _, hpl, _, _⟩ := good_chk hg
  have h1 : w ≤ R.getD r 0 := by
    rcases Nat.lt_or_ge (R.getD r 0) w with g | g
    · obtain ⟨q, hq, hx⟩ := good_cover hg (x := R.getD r 0) (y := r) (by omega) (by omega)
      have := (hf r hr _).2 ⟨q, hp.mem_iff.1 hq, hx⟩
      omega
    · exact g
  rcases Nat.lt_or_ge w (R.getD r 0) with g | g
  · obtain ⟨q, hq, hx⟩ := (hf r hr w).1 g
    have := hpl q (hp.mem_iff.2 hq)
    simp only [placeB, inB, Bool.and_eq_true, decide_eq_true_eq] at this
    simp only [inSq, inI, Bool.and_eq_true, decide_eq_true_eq] at hx
    omega
  · omega

theorem cof_width {h w w' : Nat} {R : List Nat} {sq : List S3} (hh : 1 ≤ h) (hf : FilL h R sq) (e : w = R.getD 0 0) (e' : (∀ r, r < h → R.getD r 0 ≤ w') ∧ ∃ r, r < h ∧ R.getD r 0 = w') : cofR w' h sq = cofR w h sq := by
  have hp := sortI_perm lessB sq
  unfold cofR
  by_cases c : goodCutB w h (sortI lessB sq) = true
  · have := filL_good hf hp c
    obtain ⟨r, hr, hr'⟩ := e'.2
    rw [this r hr] at hr'
    rw [hr']
  · by_cases d : goodCutB w' h (sortI lessB sq) = true
    · have := filL_good hf hp d 0 hh
      rw [← e] at this
      rw [this] at c
      exact (c d).elim
    · rw [if_neg c, if_neg d]

/-- A square beyond the greatest length: no strip. -/
theorem cof_far {h : Nat} {S : List Int} {i : Nat} {R : List Nat} {sq : List S3} (h1 : stA h S i = some (R, sq)) (hi : i ≤ S.length) (hq : ∃ q ∈ sq, 30 < q.1 + q.2.2) : cofL h S = ((0, 0, []), false) := by
  unfold cofL
  cases h2 : stA h S S.length with
  | none => rfl
  | some p =>
    obtain ⟨R', sq'⟩ := p
    dsimp only
    obtain ⟨t, rfl⟩ := stA_more h1 (S.length - i) R' sq' (by rw [← h2]; congr 1; omega)
    obtain ⟨q, hq1, hq2⟩ := hq
    rw [if_neg]
    rintro ⟨c1, c2⟩
    unfold cofR at c1 c2
    by_cases g : goodCutB (R'.getD 0 0 : Nat) h (sortI lessB (sq ++ t)) = true
    · rw [if_pos g] at c2
      obtain ⟨_, _, _, hpl, _, _⟩ := good_chk g
      have := hpl q ((sortI_perm lessB _).mem_iff.2 (List.mem_append.2 (.inl hq1)))
      simp only [placeB, inB, Bool.and_eq_true, decide_eq_true_eq] at this
      dsimp only at c2
      omega
    · rw [if_neg g] at c1; cases c1

theorem cof_stop {h : Nat} {S : List Int} {i : Nat} (h1 : stA h S i = none) (hi : i ≤ S.length) : cofL h S = ((0, 0, []), false) := by
  have := stA_none h1 (S.length - i)
  rw [show i + (S.length - i) = S.length by omega] at this
  unfold cofL
  rw [this]

/-- Rows against digits. -/
theorem at_row {h l X st y : Nat} {R : List Nat} (hat : At h l X st R) (hy : freeS h st = some y) : rowI R h = y ∧ R.getD y 0 = X := by
  obtain ⟨y1, y2, y3⟩ := freeS_spec hy
  have hX : R.getD y 0 = X := by rw [hat.row y y1, y2]; rfl
  obtain ⟨h1, h2, h3⟩ := rowI_facts R h
  have e1 := h2 y y1
  have e2 := hat.row (rowI R h) (by omega)
  refine ⟨?_, hX⟩
  rcases Nat.lt_trichotomy (rowI R h) y with g | g | g
  · have := y3 _ g
    omega
  · exact g
  · have := h3 y g
    omega

theorem mst_fitF {h X st y s : Nat} {R : List Nat} (hh : h < 5) (hat : At h 30 X st R) (hy : freeS h st = some y) (hs : 1 ≤ s) : s ≤ mst h 30 X R y ↔ fitF h R s ∧ X + s ≤ 30 := by
  obtain ⟨e1, e2⟩ := at_row hat hy
  rw [mst_iff hh]
  unfold fitF
  rw [e1, e2]
  constructor
  · intro g
    have := g (s - 1) (by omega)
    unfold okI at this
    exact ⟨⟨hs, by omega, fun k hk => (g k hk).2.1⟩, by omega⟩
  · rintro ⟨⟨_, g1, g2⟩, g3⟩ k hk
    exact ⟨by omega, g2 k hk, by omega⟩

end Go.Proofs.Ytmfdkjjhdjkgpaa

/- The rank of a strip, told without any program. -/
import Derived.Test.YtmfdkjjhdjkgpaaQZv
import Derived.Test.YtmfdkjjhdjkgpaaQNst
import Derived.Test.YtmfdkjjhdjkgpaaQZk
namespace Go.Proofs.Ytmfdkjjhdjkgpaa
open Go Go.RowKit
set_option maxRecDepth 10000
set_option linter.unusedSimpArgs false

/-- How far rows are filled behind the first i squares. -/
def rowsA (S : List (Int × Int × Int)) : Nat → List Nat
  | 0 => [0, 0, 0, 0]
  | i + 1 => match S[i]? with
    | some q => putR (rowsA S i) q.2.1.toNat q.2.2.toNat
    | none => rowsA S i

open Classical in
/-- How many ways there are to go on from rows that are filled so far. -/
noncomputable def waysA (h l : Nat) (R : List Nat) : Int := if e : ∃ p : Nat × Nat, At h l p.1 p.2 R then IntKind.i64.wrap (Vw 0 h (l - (Classical.choose e).1) (Classical.choose e).2) else 0

theorem waysA_eq {h l X st : Nat} {R : List Nat} (hh : h < 5) (hat : At h l X st R) : waysA h l R = IntKind.i64.wrap (Vw 0 h (l - X) st) := by
  have e : ∃ p : Nat × Nat, At h l p.1 p.2 R := ⟨(X, st), hat⟩
  unfold waysA
  rw [dif_pos e]
  obtain ⟨e1, e2⟩ := At.unique hh (Classical.choose_spec e) hat
  rw [e1, e2]

theorem four {R : List Nat} (h : R.length = 4) : R = [R.getD 0 0, R.getD 1 0, R.getD 2 0, R.getD 3 0] := by
  match R, h with
  | [a, b, c, d], _ => rfl

/-- What holds ahead of square i. -/
structure RankAt (l h : Nat) (S : List (Int × Int × Int)) (i : Nat) (X st : Nat) : Prop where
  at_ : At h l X st (rowsA S i)
  fil : Fil l h S i (rowsA S i)
  le : X ≤ l

/-- The reference's state: rows that are not moved on yet. -/
structure RepS (l h : Nat) (R : List Nat) (left st : Nat) : Prop where
  le : left ≤ l
  lt : st < 4 ^ h
  row : ∀ r, r < h → R.getD r 0 = (l - left) + dg st r
  room : ∀ r, r < h → dg st r ≤ left

theorem rep_start {l h : Nat} (hh : h < 5) : RepS l h [0, 0, 0, 0] l 0 := by
  refine ⟨Nat.le_refl _, Nat.pow_pos (by omega), fun r hr => ?_, fun r hr => ?_⟩
  · have : r = 0 ∨ r = 1 ∨ r = 2 ∨ r = 3 := by omega
    rcases this with rfl | rfl | rfl | rfl <;> simp [dg]
  · simp [dg]

theorem rep_shift {l h left st : Nat} {R : List Nat} (hh : 1 ≤ h ∧ h < 5) (hr : RepS l h R left st) (hf : freeS h st = none) : 1 ≤ left ∧ onesS 0 h ≤ st ∧ RepS l h R (left - 1) (st - onesS 0 h) := by
  have h256 := Nat.lt_of_lt_of_le hr.lt (pow_le256 hh.2)
  obtain ⟨s1, s2⟩ := shift_lt h hh.2 st h256 hr.lt hf
  have hsd := shift_dg hh.2 hr.lt hf
  have h0 := hsd 0 (by omega)
  have h1 := hr.room 0 (by omega)
  have hle := hr.le
  refine ⟨by omega, s1, by omega, s2, fun r hr' => ?_, fun r hr' => ?_⟩
  · have := hsd r hr'
    have := hr.row r hr'
    omega
  · have := hsd r hr'
    have := hr.room r hr'
    omega

theorem rep_at {l h left st X st' : Nat} {R : List Nat} (hh : h < 5) (hr : RepS l h R left st) (hf : (freeS h st).isSome = true) (hat : At h l X st' R) : X = l - left ∧ st' = st := by
  have : At h l (l - left) st R := ⟨hr.row, hr.lt, hf, hat.le, hat.small⟩
  exact At.unique hh hat this

theorem rep_nx {l h left st y s a b : Nat} {R : List Nat} (hh : 1 ≤ h ∧ h < 5) (hr : RepS l h R left st) (hf : freeS h st = some y) (hs : 1 ≤ s ∧ s ≤ h) (hn : nx h left st y s = some (a, b)) (hR : ∀ r, r < h → R.getD r 0 ≤ l) : RepS l h (putR R y s) a b := by
  obtain ⟨y1, _, _⟩ := freeS_spec hf
  obtain ⟨_, n2, n3⟩ := nx_mu hh.2 hr.lt hs.1 hs.2 hn
  have hle := hr.le
  unfold nx at hn
  by_cases h4 : s = 4
  · subst h4
    rw [if_pos rfl] at hn
    split at hn
    · rename_i hc
      simp only [Option.some.injEq, Prod.mk.injEq] at hn
      obtain ⟨rfl, rfl⟩ := hn
      obtain ⟨rfl, hc⟩ := hc
      have h4 : h = 4 := by omega
      subst h4
      have hy0 : y = 0 := by
        have : freeS 4 0 = some 0 := by decide
        rw [this] at hf
        exact (Option.some.inj hf).symm
      subst hy0
      refine ⟨by omega, n2, fun r hr' => ?_, fun r _ => by simp [dg]⟩
      rw [putR_get hr', if_pos (by omega), hr.row r hr']
      have : dg 0 r = 0 := by simp [dg]
      rw [this]; omega
    · cases hn
  · rw [if_neg h4] at hn
    simp only [Option.map_eq_some_iff, Prod.mk.injEq] at hn
    obtain ⟨t, ht, rfl, rfl⟩ := hn
    unfold putS at ht
    split at ht
    · rename_i hc
      obtain ⟨c1, c2, c3⟩ := hc
      obtain rfl := Option.some.inj ht
      have hd := put_dg hh.2 hr.lt (by omega) hs.1 c1 c3
      refine ⟨hle, n2, fun r hr' => ?_, fun r hr' => ?_⟩
      · rw [putR_get (by omega), hd r (by omega), hr.row r hr']; omega
      · rw [hd r (by omega)]
        split
        · rename_i hc
          have := clear_iff.1 c3 (r - y) (by omega)
          rw [show y + (r - y) = r by omega] at this
          omega
        · exact hr.room r hr'
    · cases ht

/-- What the reference adds for a side. -/
theorem nxV_ways {l h left st y k : Nat} {R : List Nat} (hh : 1 ≤ h ∧ h < 5) (hl : l ≤ 30) (hat : At h l (l - left) st R) (hle : left ≤ l) (hf : freeS h st = some y) (hk : 1 ≤ k) (hm : k ≤ mst h l (l - left) R y) : nxV 0 h left st y k = waysA h l (putR R y k) := by
  obtain ⟨X', st', a, b, n1, n2, n3, n4, _⟩ := put_at (1 : Int) 0 (stepV 0) hh.2 hl (by omega) hat hf hk hm
  rw [waysA_eq hh.2 n2]
  rw [show l - (l - left) = left by omega] at n1
  unfold nxV
  rw [n1]
  show IntKind.i64.wrap (Vw 0 h a b) = _
  rw [Vw_eq, Vw_eq, n4]

end Go.Proofs.Ytmfdkjjhdjkgpaa

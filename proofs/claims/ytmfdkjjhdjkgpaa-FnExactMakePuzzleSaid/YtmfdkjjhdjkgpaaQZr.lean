/- Rows whose elements change places; plain. -/
import Derived.Test.YtmfdkjjhdjkgpaaQPsort
namespace Go.Proofs.Ytmfdkjjhdjkgpaa
open List

abbrev S3 := Int × Int × Int

def gD (L : List S3) (p : Nat) : S3 := L.getD p (0, 0, 0)

def swapL (L : List S3) (i j : Nat) : List S3 := (L.set i (gD L j)).set j (gD L i)

theorem swapL_get {L : List S3} {i j : Nat} (hi : i < L.length) (hj : j < L.length) (p : Nat) : gD (swapL L i j) p = if p = j then gD L i else if p = i then gD L j else gD L p := by
  simp only [gD, swapL, List.getD_eq_getElem?_getD, List.getElem?_set, List.length_set]
  by_cases h1 : p = j
  · subst h1; simp [hj]
  · have h1' : ¬ j = p := fun h => h1 h.symm
    rw [if_neg h1', if_neg h1]
    by_cases h2 : p = i
    · subst h2; simp [hi]
    · have h2' : ¬ i = p := fun h => h2 h.symm
      rw [if_neg h2', if_neg h2]

/-- The same but for the places from a on up to b, which have changed among themselves. -/
structure Seg (a b : Nat) (l L : List S3) : Prop where
  perm : L.Perm l
  out : ∀ p, p < a ∨ b ≤ p → gD L p = gD l p
  frm : ∀ p, a ≤ p → p < b → ∃ q, a ≤ q ∧ q < b ∧ gD L p = gD l q

theorem Seg.refl (a b : Nat) (l : List S3) : Seg a b l l := ⟨List.Perm.refl _, fun _ _ => rfl, fun p h1 h2 => ⟨p, h1, h2, rfl⟩⟩

theorem Seg.trans {a b : Nat} {l L M : List S3} (h : Seg a b l L) (g : Seg a b L M) : Seg a b l M :=
  ⟨g.perm.trans h.perm, fun p hp => (g.out p hp).trans (h.out p hp), fun p h1 h2 => by
    obtain ⟨q, q1, q2, q3⟩ := g.frm p h1 h2
    obtain ⟨r, r1, r2, r3⟩ := h.frm q q1 q2
    exact ⟨r, r1, r2, q3.trans r3⟩⟩

theorem Seg.len {a b : Nat} {l L : List S3} (h : Seg a b l L) : L.length = l.length := h.perm.length_eq

/-- In order from a on up to i, the one at j aside, which is less than those behind it. -/
structure InsR (lt : S3 → S3 → Bool) (a i j : Nat) (L : List S3) : Prop where
  asc : ∀ p q, a ≤ p → p < q → q ≤ i → p ≠ j → q ≠ j → lt (gD L q) (gD L p) = false
  up : ∀ q, j < q → q ≤ i → lt (gD L j) (gD L q) = true

theorem InsR.step {lt : S3 → S3 → Bool} {a i j : Nat} {L : List S3} (h : InsR lt a i j L) (hi : i < L.length) (hj : j ≤ i) (haj : a < j) (hlt : lt (gD L j) (gD L (j - 1)) = true) : InsR lt a i (j - 1) (swapL L j (j - 1)) := by
  have hs := fun p => swapL_get (L := L) (i := j) (j := j - 1) (by omega) (by omega) p
  refine ⟨fun p q h1 h2 h3 h4 h5 => ?_, fun q h1 h2 => ?_⟩
  · rw [hs, hs, if_neg h4, if_neg h5]
    by_cases hq : q = j
    · rw [if_pos hq, if_neg (by omega)]
      exact h.asc p (j - 1) h1 (by omega) (by omega) (by omega) (by omega)
    · rw [if_neg hq]
      by_cases hp : p = j
      · rw [if_pos hp]
        exact h.asc (j - 1) q (by omega) (by omega) h3 (by omega) hq
      · rw [if_neg hp]
        exact h.asc p q h1 h2 h3 hp hq
  · rw [hs, hs, if_pos rfl, if_neg (by omega)]
    split
    · exact hlt
    · exact h.up q (by omega) h2

end Go.Proofs.Ytmfdkjjhdjkgpaa

namespace Go.Proofs.Ytmfdkjjhdjkgpaa
open List

end Go.Proofs.Ytmfdkjjhdjkgpaa

namespace Go.Proofs.Ytmfdkjjhdjkgpaa
open List

/-- An element taken up from a to i - 1. -/
structure UpR (l L : List S3) (a k : Nat) : Prop where
  hd : gD L k = gD l a
  lo : ∀ p, a ≤ p → p < k → gD L p = gD l (p + 1)
  out : ∀ p, p < a ∨ k < p → gD L p = gD l p

theorem UpR.step {l L : List S3} {a k : Nat} (h : UpR l L a k) (hak : a ≤ k) (hk : k + 1 < L.length) : UpR l (swapL L k (k + 1)) a (k + 1) := by
  have hs := fun p => swapL_get (L := L) (i := k) (j := k + 1) (by omega) (by omega) p
  refine ⟨by rw [hs, if_pos rfl]; exact h.hd, fun p h1 h2 => ?_, fun p hp => ?_⟩
  · rw [hs, if_neg (by omega)]
    by_cases e : p = k
    · rw [if_pos e, h.out (k + 1) (.inr (by omega)), e]
    · rw [if_neg e]; exact h.lo p h1 (by omega)
  · rw [hs, if_neg (by omega), if_neg (by omega)]; exact h.out p (by omega)

/-- An element taken down from m to k. -/
structure DnR (l L : List S3) (m k : Nat) : Prop where
  hd : gD L k = gD l m
  hi : ∀ p, k < p → p ≤ m → gD L p = gD l (p - 1)
  out : ∀ p, p < k ∨ m < p → gD L p = gD l p

theorem DnR.step {l L : List S3} {m k : Nat} (h : DnR l L m k) (hkm : k ≤ m) (hk0 : 1 ≤ k) (hm : m < L.length) : DnR l (swapL L k (k - 1)) m (k - 1) := by
  have hs := fun p => swapL_get (L := L) (i := k) (j := k - 1) (by omega) (by omega) p
  refine ⟨by rw [hs, if_pos rfl]; exact h.hd, fun p h1 h2 => ?_, fun p hp => ?_⟩
  · rw [hs, if_neg (by omega)]
    by_cases e : p = k
    · rw [if_pos e, h.out (k - 1) (.inl (by omega)), e]
    · rw [if_neg e]; exact h.hi p (by omega) h2
  · rw [hs, if_neg (by omega), if_neg (by omega)]; exact h.out p (by omega)

variable {lt : S3 → S3 → Bool}

end Go.Proofs.Ytmfdkjjhdjkgpaa

/- Rows whose elements change places; plain. -/
import Derived.Test.YtmfdkjjhdjkgpaaQPsort
namespace Go.Proofs.Ytmfdkjjhdjkgpaa
open List

abbrev S3 := Int × Int × Int

def gD (L : List S3) (p : Nat) : S3 := L.getD p (0, 0, 0)

def swapL (L : List S3) (i j : Nat) : List S3 := (L.set i (gD L j)).set j (gD L i)

theorem swapL_len (L : List S3) (i j : Nat) : (swapL L i j).length = L.length := by simp [swapL]

theorem gD_at {L : List S3} {p : Nat} (h : p < L.length) : L[p]? = some (gD L p) := by
  simp [gD, List.getD, List.getElem?_eq_getElem h]

theorem gD_get {L : List S3} {p : Nat} (h : p < L.length) : gD L p = L[p] := by
  simp [gD, List.getD, List.getElem?_eq_getElem h]

theorem swapL_get {L : List S3} {i j : Nat} (hi : i < L.length) (hj : j < L.length) (p : Nat) : gD (swapL L i j) p = if p = j then gD L i else if p = i then gD L j else gD L p := by
  simp only [gD, swapL, List.getD_eq_getElem?_getD, List.getElem?_set, List.length_set]
  by_cases h1 : p = j
  · subst h1; simp [hj]
  · have h1' : ¬ j = p := fun h => h1 h.symm
    rw [if_neg h1', if_neg h1]
    by_cases h2 : p = i
    · subst h2; simp [hi]
    · have h2' : ¬ i = p := fun h => h2 h.symm
      rw [if_neg h2', if_neg h2]

theorem swapL_perm {L : List S3} {i j : Nat} (hi : i < L.length) (hj : j < L.length) : (swapL L i j).Perm L := by
  unfold swapL
  rw [gD_get hi, gD_get hj]
  exact List.set_set_perm hi hj

/-- The same but for the places from a on up to b, which have changed among themselves. -/
structure Seg (a b : Nat) (l L : List S3) : Prop where
  perm : L.Perm l
  out : ∀ p, p < a ∨ b ≤ p → gD L p = gD l p
  frm : ∀ p, a ≤ p → p < b → ∃ q, a ≤ q ∧ q < b ∧ gD L p = gD l q

theorem Seg.refl (a b : Nat) (l : List S3) : Seg a b l l := ⟨List.Perm.refl _, fun _ _ => rfl, fun p h1 h2 => ⟨p, h1, h2, rfl⟩⟩

theorem Seg.trans {a b : Nat} {l L M : List S3} (h : Seg a b l L) (g : Seg a b L M) : Seg a b l M :=
  ⟨g.perm.trans h.perm, fun p hp => (g.out p hp).trans (h.out p hp), fun p h1 h2 => by
    obtain ⟨q, q1, q2, q3⟩ := g.frm p h1 h2
    obtain ⟨r, r1, r2, r3⟩ := h.frm q q1 q2
    exact ⟨r, r1, r2, q3.trans r3⟩⟩

theorem Seg.wide {a b a' b' : Nat} {l L : List S3} (h : Seg a b l L) (ha : a' ≤ a) (hb : b ≤ b') : Seg a' b' l L :=
  ⟨h.perm, fun p hp => h.out p (by omega), fun p h1 h2 => by
    by_cases hin : a ≤ p ∧ p < b
    · obtain ⟨q, q1, q2, q3⟩ := h.frm p hin.1 hin.2
      exact ⟨q, by omega, by omega, q3⟩
    · exact ⟨p, h1, h2, h.out p (by omega)⟩⟩

theorem Seg.len {a b : Nat} {l L : List S3} (h : Seg a b l L) : L.length = l.length := h.perm.length_eq

theorem swap_seg {a b i j : Nat} {L : List S3} (hi : i < L.length) (hj : j < L.length) (h1 : a ≤ i ∧ i < b) (h2 : a ≤ j ∧ j < b) : Seg a b L (swapL L i j) := by
  refine ⟨swapL_perm hi hj, fun p hp => ?_, fun p p1 p2 => ?_⟩
  · rw [swapL_get hi hj, if_neg (by omega), if_neg (by omega)]
  · rw [swapL_get hi hj]
    split
    · exact ⟨i, h1.1, h1.2, rfl⟩
    · split
      · exact ⟨j, h2.1, h2.2, rfl⟩
      · exact ⟨p, p1, p2, rfl⟩

/-- In order from a on up to b. -/
def AscR (lt : S3 → S3 → Bool) (a b : Nat) (L : List S3) : Prop := ∀ p q, a ≤ p → p < q → q < b → lt (gD L q) (gD L p) = false

/-- In order from a on up to i, the one at j aside, which is less than those behind it. -/
structure InsR (lt : S3 → S3 → Bool) (a i j : Nat) (L : List S3) : Prop where
  asc : ∀ p q, a ≤ p → p < q → q ≤ i → p ≠ j → q ≠ j → lt (gD L q) (gD L p) = false
  up : ∀ q, j < q → q ≤ i → lt (gD L j) (gD L q) = true

theorem InsR.start {lt : S3 → S3 → Bool} {a i : Nat} {L : List S3} (h : AscR lt a i L) : InsR lt a i i L :=
  ⟨fun p q h1 h2 h3 h4 h5 => h p q h1 h2 (by omega), fun q h1 h2 => by omega⟩

theorem InsR.step {lt : S3 → S3 → Bool} {a i j : Nat} {L : List S3} (h : InsR lt a i j L) (hi : i < L.length) (hj : j ≤ i) (haj : a < j) (hlt : lt (gD L j) (gD L (j - 1)) = true) : InsR lt a i (j - 1) (swapL L j (j - 1)) := by
  have hs := fun p => swapL_get (L := L) (i := j) (j := j - 1) (by omega) (by omega) p
  refine ⟨fun p q h1 h2 h3 h4 h5 => ?_, fun q h1 h2 => ?_⟩
  · rw [hs, hs, if_neg h4, if_neg h5]
    by_cases hq : q = j
    · rw [if_pos hq, if_neg (by omega)]
      exact h.asc p (j - 1) h1 (by omega) (by omega) (by omega) (by omega)
    · rw [if_neg hq]
      by_cases hp : p = j
      · rw [if_pos hp]
        exact h.asc (j - 1) q (by omega) (by omega) h3 (by omega) hq
      · rw [if_neg hp]
        exact h.asc p q h1 h2 h3 hp hq
  · rw [hs, hs, if_pos rfl, if_neg (by omega)]
    split
    · exact hlt
    · exact h.up q (by omega) h2

theorem InsR.stop {lt : S3 → S3 → Bool} (hasym : ∀ x y, lt x y = true → lt y x = false) (hn : ∀ x y z, lt x y = false → lt y z = false → lt x z = false) {a i j : Nat} {L : List S3} (h : InsR lt a i j L) (haj : a ≤ j) (hlt : j = a ∨ lt (gD L j) (gD L (j - 1)) = false) : AscR lt a (i + 1) L := by
  intro p q h1 h2 h3
  by_cases hp : p = j
  · subst hp
    exact hasym _ _ (h.up q h2 (by omega))
  · by_cases hq : q = j
    · subst hq
      rcases hlt with rfl | hlt
      · omega
      · by_cases hpp : p = q - 1
        · subst hpp; exact hlt
        · exact hn _ _ _ hlt (h.asc p (q - 1) h1 (by omega) (by omega) hp (by omega))
    · exact h.asc p q h1 h2 (by omega) hp hq

end Go.Proofs.Ytmfdkjjhdjkgpaa

namespace Go.Proofs.Ytmfdkjjhdjkgpaa
open List

/-- Two blocks of n, from a and from b on, exchanged. -/
def swR (L : List S3) (a b : Nat) : Nat → List S3
  | 0 => L
  | n + 1 => swapL (swR L a b n) (a + n) (b + n)

theorem swR_len (L : List S3) (a b : Nat) : ∀ n, (swR L a b n).length = L.length
  | 0 => rfl
  | n + 1 => by rw [swR, swapL_len, swR_len L a b n]

theorem swR_get {L : List S3} {a b : Nat} : ∀ n, a + n ≤ b → b + n ≤ L.length → ∀ p, gD (swR L a b n) p = if a ≤ p ∧ p < a + n then gD L (p - a + b) else if b ≤ p ∧ p < b + n then gD L (p - b + a) else gD L p
  | 0, _, _, p => by rw [swR, if_neg (by omega), if_neg (by omega)]
  | n + 1, h1, h2, p => by
    have ih := swR_get n (by omega : a + n ≤ b) (by omega : b + n ≤ L.length)
    rw [swR, swapL_get (by rw [swR_len]; omega) (by rw [swR_len]; omega)]
    by_cases c1 : p = b + n
    · subst c1
      rw [if_pos rfl, ih, if_neg (show ¬ (a ≤ a + n ∧ a + n < a + n) by omega), if_neg (show ¬ (b ≤ a + n ∧ a + n < b + n) by omega), if_neg (show ¬ (a ≤ b + n ∧ b + n < a + (n + 1)) by omega), if_pos (show b ≤ b + n ∧ b + n < b + (n + 1) by omega)]
      congr 1; omega
    · rw [if_neg c1]
      by_cases c2 : p = a + n
      · subst c2
        rw [if_pos rfl, ih, if_neg (show ¬ (a ≤ b + n ∧ b + n < a + n) by omega), if_neg (show ¬ (b ≤ b + n ∧ b + n < b + n) by omega), if_pos (show a ≤ a + n ∧ a + n < a + (n + 1) by omega)]
        congr 1; omega
      · rw [if_neg c2, ih]
        by_cases c3 : a ≤ p ∧ p < a + n
        · rw [if_pos c3, if_pos (show a ≤ p ∧ p < a + (n + 1) by omega)]
        · rw [if_neg c3, if_neg (show ¬ (a ≤ p ∧ p < a + (n + 1)) by omega)]
          by_cases c4 : b ≤ p ∧ p < b + n
          · rw [if_pos c4, if_pos (show b ≤ p ∧ p < b + (n + 1) by omega)]
          · rw [if_neg c4, if_neg (show ¬ (b ≤ p ∧ p < b + (n + 1)) by omega)]

theorem swR_seg {L : List S3} {a b s e : Nat} : ∀ n, a + n ≤ b → b + n ≤ L.length → s ≤ a → b + n ≤ e → Seg s e L (swR L a b n)
  | 0, _, _, _, _ => Seg.refl _ _ _
  | n + 1, h1, h2, h3, h4 => (swR_seg n (by omega) (by omega) h3 (by omega)).trans (swap_seg (by rw [swR_len]; omega) (by rw [swR_len]; omega) (by omega) (by omega))

/-- What stands at p when the blocks from a and from m on have changed places. -/
def rotG (L : List S3) (a m b p : Nat) : S3 := if a ≤ p ∧ p < a + (b - m) then gD L (p - a + m) else if a + (b - m) ≤ p ∧ p < b then gD L (p - (b - m)) else gD L p

theorem rot_left {L : List S3} {m i j : Nat} (h1 : j < i) (h2 : i ≤ m) (h3 : 1 ≤ j) (hl : m + j ≤ L.length) (p : Nat) : rotG (swR L (m - i) m j) (m - (i - j)) m (m + j) p = rotG L (m - i) m (m + j) p := by
  have hs := swR_get (L := L) (a := m - i) (b := m) j (by omega) hl
  unfold rotG
  by_cases c1 : p < m - i
  · rw [if_neg (by omega), if_neg (by omega), if_neg (by omega), if_neg (by omega), hs, if_neg (by omega), if_neg (by omega)]
  · by_cases c2 : p < m - i + j
    · rw [if_neg (by omega), if_neg (by omega), if_pos (by omega), hs, if_pos (by omega)]
    · by_cases c3 : p < m - (i - j) + j
      · rw [if_pos (by omega), hs, if_neg (by omega), if_pos (by omega), if_neg (by omega), if_pos (by omega)]
        congr 1; omega
      · by_cases c4 : p < m + j
        · rw [if_neg (by omega), if_pos (by omega), hs, if_neg (by omega), if_neg (by omega), if_neg (by omega), if_pos (by omega)]
        · rw [if_neg (by omega), if_neg (by omega), if_neg (by omega), if_neg (by omega), hs, if_neg (by omega), if_neg (by omega)]

theorem rot_right {L : List S3} {m i j : Nat} (h1 : i < j) (h2 : i ≤ m) (h3 : 1 ≤ i) (hl : m + j ≤ L.length) (p : Nat) : rotG (swR L (m - i) (m + j - i) i) (m - i) m (m + (j - i)) p = rotG L (m - i) m (m + j) p := by
  have hs := swR_get (L := L) (a := m - i) (b := m + j - i) i (by omega) (by omega)
  unfold rotG
  by_cases c1 : p < m - i
  · rw [if_neg (by omega), if_neg (by omega), if_neg (by omega), if_neg (by omega), hs, if_neg (by omega), if_neg (by omega)]
  · by_cases c2 : p < m - i + (j - i)
    · rw [if_pos (by omega), if_pos (by omega), hs, if_neg (by omega), if_neg (by omega)]
    · by_cases c3 : p < m + (j - i)
      · rw [if_neg (by omega), if_pos (by omega), if_pos (by omega), hs, if_pos (by omega)]
        congr 1; omega
      · by_cases c4 : p < m + j
        · rw [if_neg (by omega), if_neg (by omega), if_neg (by omega), if_pos (by omega), hs, if_neg (by omega), if_pos (by omega)]
          congr 1; omega
        · rw [if_neg (by omega), if_neg (by omega), if_neg (by omega), if_neg (by omega), hs, if_neg (by omega), if_neg (by omega)]

theorem rot_end {L : List S3} {m i : Nat} (h2 : i ≤ m) (hl : m + i ≤ L.length) (p : Nat) : gD (swR L (m - i) m i) p = rotG L (m - i) m (m + i) p := by
  have hs := swR_get (L := L) (a := m - i) (b := m) i (by omega) hl
  unfold rotG
  rw [hs]
  by_cases c1 : m - i ≤ p ∧ p < m - i + i
  · rw [if_pos c1, if_pos (show m - i ≤ p ∧ p < m - i + (m + i - m) by omega)]
  · rw [if_neg c1, if_neg (show ¬ (m - i ≤ p ∧ p < m - i + (m + i - m)) by omega)]
    by_cases c2 : m ≤ p ∧ p < m + i
    · rw [if_pos c2, if_pos (show m - i + (m + i - m) ≤ p ∧ p < m + i by omega)]
      congr 1; omega
    · rw [if_neg c2, if_neg (show ¬ (m - i + (m + i - m) ≤ p ∧ p < m + i) by omega)]

end Go.Proofs.Ytmfdkjjhdjkgpaa

namespace Go.Proofs.Ytmfdkjjhdjkgpaa
open List

/-- An element taken up from a to i - 1. -/
structure UpR (l L : List S3) (a k : Nat) : Prop where
  hd : gD L k = gD l a
  lo : ∀ p, a ≤ p → p < k → gD L p = gD l (p + 1)
  out : ∀ p, p < a ∨ k < p → gD L p = gD l p

theorem UpR.start (l : List S3) (a : Nat) : UpR l l a a := ⟨rfl, fun p h1 h2 => by omega, fun _ _ => rfl⟩

theorem UpR.step {l L : List S3} {a k : Nat} (h : UpR l L a k) (hak : a ≤ k) (hk : k + 1 < L.length) : UpR l (swapL L k (k + 1)) a (k + 1) := by
  have hs := fun p => swapL_get (L := L) (i := k) (j := k + 1) (by omega) (by omega) p
  refine ⟨by rw [hs, if_pos rfl]; exact h.hd, fun p h1 h2 => ?_, fun p hp => ?_⟩
  · rw [hs, if_neg (by omega)]
    by_cases e : p = k
    · rw [if_pos e, h.out (k + 1) (.inr (by omega)), e]
    · rw [if_neg e]; exact h.lo p h1 (by omega)
  · rw [hs, if_neg (by omega), if_neg (by omega)]; exact h.out p (by omega)

/-- An element taken down from m to k. -/
structure DnR (l L : List S3) (m k : Nat) : Prop where
  hd : gD L k = gD l m
  hi : ∀ p, k < p → p ≤ m → gD L p = gD l (p - 1)
  out : ∀ p, p < k ∨ m < p → gD L p = gD l p

theorem DnR.start (l : List S3) (m : Nat) : DnR l l m m := ⟨rfl, fun p h1 h2 => by omega, fun _ _ => rfl⟩

theorem DnR.step {l L : List S3} {m k : Nat} (h : DnR l L m k) (hkm : k ≤ m) (hk0 : 1 ≤ k) (hm : m < L.length) : DnR l (swapL L k (k - 1)) m (k - 1) := by
  have hs := fun p => swapL_get (L := L) (i := k) (j := k - 1) (by omega) (by omega) p
  refine ⟨by rw [hs, if_pos rfl]; exact h.hd, fun p h1 h2 => ?_, fun p hp => ?_⟩
  · rw [hs, if_neg (by omega)]
    by_cases e : p = k
    · rw [if_pos e, h.out (k - 1) (.inl (by omega)), e]
    · rw [if_neg e]; exact h.hi p (by omega) h2
  · rw [hs, if_neg (by omega), if_neg (by omega)]; exact h.out p (by omega)

variable {lt : S3 → S3 → Bool}

theorem up_asc (hasym : ∀ x y, lt x y = true → lt y x = false) {l L : List S3} {a b i : Nat} (ha : AscR lt (a + 1) b l) (hai : a + 1 ≤ i) (hib : i ≤ b) (h : UpR l L a (i - 1)) (h1 : ∀ p, a + 1 ≤ p → p < i → lt (gD l p) (gD l a) = true) (h2 : ∀ p, i ≤ p → p < b → lt (gD l p) (gD l a) = false) : AscR lt a b L := by
  intro p q q1 q2 q3
  by_cases c1 : q < i - 1
  · rw [h.lo p q1 (by omega), h.lo q (by omega) c1]
    exact ha _ _ (by omega) (by omega) (by omega)
  · by_cases c2 : q = i - 1
    · rw [c2, h.hd, h.lo p q1 (by omega)]
      exact hasym _ _ (h1 (p + 1) (by omega) (by omega))
    · rw [h.out q (.inr (by omega))]
      by_cases c3 : p < i - 1
      · rw [h.lo p q1 c3]
        exact ha _ _ (by omega) (by omega) q3
      · by_cases c4 : p = i - 1
        · rw [c4, h.hd]; exact h2 q (by omega) q3
        · rw [h.out p (.inr (by omega))]
          exact ha _ _ (by omega) q2 q3

theorem dn_asc (hasym : ∀ x y, lt x y = true → lt y x = false) {l L : List S3} {a m i : Nat} (ha : AscR lt a m l) (hai : a ≤ i) (him : i ≤ m) (h : DnR l L m i) (h1 : ∀ p, a ≤ p → p < i → lt (gD l m) (gD l p) = false) (h2 : ∀ p, i ≤ p → p < m → lt (gD l m) (gD l p) = true) : AscR lt a (m + 1) L := by
  intro p q q1 q2 q3
  by_cases c1 : q < i
  · rw [h.out p (.inl (by omega)), h.out q (.inl c1)]
    exact ha _ _ q1 q2 (by omega)
  · by_cases c2 : q = i
    · rw [c2, h.hd, h.out p (.inl (by omega))]
      exact h1 p q1 (by omega)
    · rw [h.hi q (by omega) (by omega)]
      by_cases c3 : p < i
      · rw [h.out p (.inl c3)]
        exact ha _ _ q1 (by omega) (by omega)
      · by_cases c4 : p = i
        · rw [c4, h.hd]; exact hasym _ _ (h2 (q - 1) (by omega) (by omega))
        · rw [h.hi p (by omega) (by omega)]
          exact ha _ _ (by omega) (by omega) (by omega)

/-- Behind the exchange in the middle: two halves, each of two rows in order, and no one of the second half less than one of the first. -/
theorem mid_facts (hasym : ∀ x y, lt x y = true → lt y x = false) (hn : ∀ x y z, lt x y = false → lt y z = false → lt x z = false) {l L : List S3} {a m b s e mid : Nat} (h1 : AscR lt a m l) (h2 : AscR lt m b l) (hs : a ≤ s ∧ s ≤ m) (he : m ≤ e ∧ e ≤ b) (hmid : s + (e - m) = mid)
    (hrot : ∀ p, gD L p = rotG l s m e p) (hlo : a < s → e < b → lt (gD l e) (gD l (s - 1)) = false) (hup : s < m → m < e → lt (gD l (e - 1)) (gD l s) = true) :
    AscR lt a s L ∧ AscR lt s mid L ∧ AscR lt mid e L ∧ AscR lt e b L ∧ ∀ p q, a ≤ p → p < mid → mid ≤ q → q < b → lt (gD L q) (gD L p) = false := by
  have g1 : ∀ p, p < s → gD L p = gD l p := fun p hp => by rw [hrot, rotG, if_neg (by omega), if_neg (by omega)]
  have g2 : ∀ p, s ≤ p → p < mid → gD L p = gD l (p - s + m) := fun p q1 q2 => by rw [hrot, rotG, if_pos (by omega)]
  have g3 : ∀ p, mid ≤ p → p < e → gD L p = gD l (p - (e - m)) := fun p q1 q2 => by rw [hrot, rotG, if_neg (by omega), if_pos (by omega)]
  have g4 : ∀ p, e ≤ p → gD L p = gD l p := fun p hp => by rw [hrot, rotG, if_neg (by omega), if_neg (by omega)]
  have irr : ∀ x, lt x x = false := fun x => by
    cases hx : lt x x with
    | false => rfl
    | true => have := hasym x x hx; rw [hx] at this; cases this
  -- not less, at places that need not differ
  have w1 : ∀ p q, a ≤ p → p ≤ q → q < m → lt (gD l q) (gD l p) = false := fun p q q1 q2 q3 => by
    by_cases e0 : p = q
    · subst e0; exact irr _
    · exact h1 p q q1 (by omega) q3
  have w2 : ∀ p q, m ≤ p → p ≤ q → q < b → lt (gD l q) (gD l p) = false := fun p q q1 q2 q3 => by
    by_cases e0 : p = q
    · subst e0; exact irr _
    · exact h2 p q q1 (by omega) q3
  refine ⟨fun p q q1 q2 q3 => ?_, fun p q q1 q2 q3 => ?_, fun p q q1 q2 q3 => ?_, fun p q q1 q2 q3 => ?_, fun p q q1 q2 q3 q4 => ?_⟩
  · rw [g1 p (by omega), g1 q q3]; exact h1 p q q1 q2 (by omega)
  · rw [g2 p q1 (by omega), g2 q (by omega) q3]; exact h2 _ _ (by omega) (by omega) (by omega)
  · rw [g3 p q1 (by omega), g3 q (by omega) q3]; exact h1 _ _ (by omega) (by omega) (by omega)
  · rw [g4 p q1, g4 q (by omega)]; exact h2 p q (by omega) q2 q3
  · by_cases c1 : p < s
    · rw [g1 p c1]
      by_cases c2 : q < e
      · rw [g3 q q3 c2]; exact w1 _ _ q1 (by omega) (by omega)
      · rw [g4 q (by omega)]
        exact hn _ _ _ (w2 e q (by omega) (by omega) q4) (hn _ _ _ (hlo (by omega) (by omega)) (w1 p (s - 1) q1 (by omega) (by omega)))
    · rw [g2 p (by omega) q2]
      by_cases c2 : q < e
      · rw [g3 q q3 c2]
        refine hn _ _ _ (w1 s _ (by omega) (by omega) (by omega)) (hn _ _ _ (hasym _ _ (hup (by omega) (by omega))) (w2 _ (e - 1) (by omega) (by omega) (by omega)))
      · rw [g4 q (by omega)]
        exact w2 _ _ (by omega) (by omega) q4

/-- Two halves, each put in order. -/
theorem halves_asc {l L : List S3} {a mid b : Nat} (hL : ∀ p q, a ≤ p → p < mid → mid ≤ q → q < b → lt (gD l q) (gD l p) = false) {M : List S3} (hm1 : Seg a mid l L) (hm2 : Seg mid b L M) (h1 : AscR lt a mid L) (h2 : AscR lt mid b M) (_ : a ≤ mid) (_ : mid ≤ b) : AscR lt a b M := by
  intro p q q1 q2 q3
  by_cases c1 : q < mid
  · rw [hm2.out p (.inl (by omega)), hm2.out q (.inl c1)]
    exact h1 p q q1 q2 c1
  · by_cases c2 : p < mid
    · obtain ⟨q', r1, r2, r3⟩ := hm2.frm q (by omega) q3
      obtain ⟨p', s1, s2, s3⟩ := hm1.frm p q1 c2
      rw [r3, hm1.out q' (.inr r1), hm2.out p (.inl c2), s3]
      exact hL p' q' s1 s2 r1 r2
    · exact h2 p q (by omega) q2 q3

end Go.Proofs.Ytmfdkjjhdjkgpaa

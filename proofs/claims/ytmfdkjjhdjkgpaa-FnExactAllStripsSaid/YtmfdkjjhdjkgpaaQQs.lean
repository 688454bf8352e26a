/- Filling strips, as the program has it: how far each row is filled. -/
import Derived.Test.YtmfdkjjhdjkgpaaQZi
namespace Go.Proofs.Ytmfdkjjhdjkgpaa
open Go Go.RowKit

/-- How far each row is filled: the least filled one up to column X, the others as the digits say. -/
structure At (h l X st : Nat) (R : List Nat) : Prop where
  row : ∀ i, i < h → R.getD i 0 = X + dg st i
  lt : st < 4 ^ h
  free : (freeS h st).isSome = true
  le : ∀ i, i < h → R.getD i 0 ≤ l
  small : ∀ i, R.getD i 0 ≤ 34

theorem freeS_spec {h st y : Nat} (h1 : freeS h st = some y) : y < h ∧ dg st y = 0 ∧ ∀ j, j < y → dg st j ≠ 0 := by
  unfold freeS at h1
  rw [List.find?_range_eq_some] at h1
  obtain ⟨k1, k2, k3⟩ := h1
  exact ⟨by simpa using k2, by simpa using k1, fun j hj => by simpa using k3 j hj⟩

theorem dg_ext {h st st' : Nat} (hh : h < 5) (h1 : st < 4 ^ h) (h2 : st' < 4 ^ h) (h3 : ∀ i, i < h → dg st i = dg st' i) : st = st' := by
  have hc : h = 0 ∨ h = 1 ∨ h = 2 ∨ h = 3 ∨ h = 4 := by omega
  rcases hc with rfl | rfl | rfl | rfl | rfl
  · simp at h1 h2; omega
  · have e0 := h3 0 (by omega)
    simp [dg] at e0 h1 h2; omega
  · have e0 := h3 0 (by omega)
    have e1 := h3 1 (by omega)
    simp [dg] at e0 e1 h1 h2; omega
  · have e0 := h3 0 (by omega)
    have e1 := h3 1 (by omega)
    have e2 := h3 2 (by omega)
    simp [dg] at e0 e1 e2 h1 h2; omega
  · have e0 := h3 0 (by omega)
    have e1 := h3 1 (by omega)
    have e2 := h3 2 (by omega)
    have e3 := h3 3 (by omega)
    simp [dg] at e0 e1 e2 e3 h1 h2; omega

theorem At.unique {h l X st X' st' : Nat} {R : List Nat} (hh : h < 5) (h1 : At h l X st R) (h2 : At h l X' st' R) : X = X' ∧ st = st' := by
  obtain ⟨y, hy⟩ := Option.isSome_iff_exists.1 h1.free
  obtain ⟨y', hy'⟩ := Option.isSome_iff_exists.1 h2.free
  obtain ⟨a1, a2, _⟩ := freeS_spec hy
  obtain ⟨b1, b2, _⟩ := freeS_spec hy'
  have c1 := h1.row y a1
  have c2 := h2.row y a1
  have c3 := h1.row y' b1
  have c4 := h2.row y' b1
  have hX : X = X' := by omega
  subst hX
  exact ⟨rfl, dg_ext hh h1.lt h2.lt fun i hi => by have := h1.row i hi; have := h2.row i hi; omega⟩

/-! Digits of a shifted state, and of one with a square more. -/

def shChk (h st : Nat) : Bool := !(decide (st < 4 ^ h) && (freeS h st).isNone) || ((List.range h).all fun i => dg (st - onesS 0 h) i + 1 == dg st i)

theorem sh_all : ((List.range 5).all fun h => (List.range 256).all fun st => shChk h st) = true := by decide +kernel

theorem shift_dg {h st : Nat} (hh : h < 5) (h1 : st < 4 ^ h) (h2 : freeS h st = none) : ∀ i, i < h → dg (st - onesS 0 h) i + 1 = dg st i := by
  have := sh_all
  simp only [List.all_eq_true, List.mem_range] at this
  have := this h hh st (Nat.lt_of_lt_of_le h1 (pow_le256 hh))
  simpa [shChk, h1, h2] using this

def pdChk (h st r side : Nat) : Bool := !(decide (1 ≤ side) && decide (r + side ≤ h) && clearB st r side) || ((List.range 4).all fun i => dg (st + side * onesS r side) i == dg st i + (if r ≤ i ∧ i < r + side then side else 0))

theorem pd_all : ((List.range 5).all fun h => (List.range 256).all fun st => (List.range 4).all fun r => (List.range 4).all fun side => pdChk h st r side) = true := by decide +kernel

theorem put_dg {h st r side : Nat} (hh : h < 5) (hst : st < 4 ^ h) (hs : side < 4) (h1 : 1 ≤ side) (h2 : r + side ≤ h) (h3 : clearB st r side = true) : ∀ i, i < 4 → dg (st + side * onesS r side) i = dg st i + (if r ≤ i ∧ i < r + side then side else 0) := by
  have := pd_all
  simp only [List.all_eq_true, List.mem_range] at this
  have := this h hh st (Nat.lt_of_lt_of_le hst (pow_le256 hh)) r (by omega) side hs
  simpa [pdChk, h1, h2, h3] using this

/-- A state, farther on to where a row is free. -/
theorem norm_ok {α : Type} (one zero : α) (step : Nat → α → α → α) {h : Nat} (hh : h < 5) (hp : 1 ≤ h) : ∀ (n left st : Nat), st < n → st < 4 ^ h → left ≤ 30 → (∀ i, i < h → dg st i ≤ left) →
    ∃ m st', m ≤ left ∧ st' < 4 ^ h ∧ (freeS h st').isSome = true ∧ (∀ i, i < h → dg st i = m + dg st' i) ∧ Es one zero step h left st = Es one zero step h (left - m) st' ∧ mu h (left - m) st' ≤ mu h left st
  | 0, _, _, hn, _, _, _ => by omega
  | n + 1, left, st, hn, hst, hl, hd => by
    cases hf : freeS h st with
    | some y => exact ⟨0, st, by omega, hst, by rw [hf]; rfl, fun i _ => by omega, rfl, Nat.le_refl _⟩
    | none =>
      have hsd := shift_dg hh hst hf
      have h0 := hsd 0 hp
      have hl0 : left ≠ 0 := by have := hd 0 hp; omega
      obtain ⟨k1, k2⟩ := shift_lt h hh st (Nat.lt_of_lt_of_le hst (pow_le256 hh)) hst hf
      have hlt : st - onesS 0 h < st := by
        rcases Nat.lt_or_ge (st - onesS 0 h) st with g | g
        · exact g
        · have : st - onesS 0 h = st := by omega
          rw [this] at h0; omega
      obtain ⟨m, st', m1, m2, m3, m4, m5, m6⟩ := norm_ok one zero step hh hp n (left - 1) (st - onesS 0 h) (by omega) k2 (by omega) (fun i hi => by have := hsd i hi; have := hd i hi; omega)
      refine ⟨m + 1, st', by omega, m2, m3, fun i hi => by have := hsd i hi; have := m4 i hi; omega, ?_, ?_⟩
      · rw [Es_shift one zero step hh hl hst hl0 hf, m5]
        congr 1; omega
      · have hz := zer_le h (st - onesS 0 h)
        have e : (h + 1) * left = (h + 1) * (left - 1) + (h + 1) := by rw [← Nat.mul_succ]; congr 1; omega
        have e2 : left - (m + 1) = left - 1 - m := by omega
        rw [e2]
        unfold mu at m6 ⊢
        omega

/-- Which sides fit. -/
def okI (h l X : Nat) (R : List Nat) (y k : Nat) : Prop := y + k < h ∧ R.getD (y + k) 0 = X ∧ X + k < l

theorem mostI_spec {h l X : Nat} {R : List Nat} {y : Nat} : ∀ (n s : Nat), s ≤ mostI h l X (R.map Int.ofNat) y n s ∧ mostI h l X (R.map Int.ofNat) y n s ≤ s + n ∧ (∀ k, s ≤ k → k < mostI h l X (R.map Int.ofNat) y n s → okI h l X R y k) ∧
    (mostI h l X (R.map Int.ofNat) y n s < s + n → ¬ okI h l X R y (mostI h l X (R.map Int.ofNat) y n s))
  | 0, s => ⟨Nat.le_refl _, by simp [mostI], fun k h1 h2 => by simp [mostI] at h2; omega, fun h1 => by simp [mostI] at h1⟩
  | n + 1, s => by
    have hget : (R.map Int.ofNat).getD (y + s) 0 = ((R.getD (y + s) 0 : Nat) : Int) := by
      simp only [List.getD_eq_getElem?_getD, List.getElem?_map]
      cases R[y + s]? <;> rfl
    have hiff : (y + s < h ∧ (R.map Int.ofNat).getD (y + s) 0 = (X : Int) ∧ (X : Int) + (s : Int) < (l : Int)) ↔ okI h l X R y s := by
      rw [hget]; unfold okI
      constructor
      · rintro ⟨a, b, c⟩; exact ⟨a, by omega, by omega⟩
      · rintro ⟨a, b, c⟩; exact ⟨a, by omega, by omega⟩
    rw [mostI]
    by_cases hc : okI h l X R y s
    · rw [if_pos (hiff.2 hc)]
      obtain ⟨k1, k2, k3, k4⟩ := mostI_spec (h := h) (l := l) (X := X) (R := R) (y := y) n (s + 1)
      refine ⟨by omega, by omega, fun k h1 h2 => ?_, fun h1 => k4 (by omega)⟩
      by_cases e : k = s
      · subst e; exact hc
      · exact k3 k (by omega) h2
    · rw [if_neg (fun g => hc (hiff.1 g))]
      exact ⟨Nat.le_refl _, by omega, fun k h1 h2 => by omega, fun _ => hc⟩

def mst (h l X : Nat) (R : List Nat) (y : Nat) : Nat := mostI h l X (R.map Int.ofNat) y 5 0

theorem mst_iff {h l X : Nat} {R : List Nat} {y side : Nat} (hh : h < 5) : side ≤ mst h l X R y ↔ ∀ k, k < side → okI h l X R y k := by
  obtain ⟨_, k2, k3, k4⟩ := mostI_spec (h := h) (l := l) (X := X) (R := R) (y := y) 5 0
  constructor
  · intro hs k hk
    exact k3 k (Nat.zero_le _) (Nat.lt_of_lt_of_le hk hs)
  · intro hs
    rcases Nat.lt_or_ge (mst h l X R y) side with g | g
    · exfalso
      have hok := hs _ g
      refine k4 ?_ hok
      have := hok.1
      unfold mst at this
      omega
    · exact g

theorem mst_le {h l X : Nat} {R : List Nat} {y : Nat} (hh : h < 5) : mst h l X R y ≤ h := by
  rcases Nat.lt_or_ge h (mst h l X R y) with g | g
  · have := (mst_iff hh (side := h + 1)).1 g h (by omega)
    have := this.1
    omega
  · exact g

theorem clear_iff {st r side : Nat} : clearB st r side = true ↔ ∀ k, k < side → dg st (r + k) = 0 := by
  unfold clearB
  simp [List.all_eq_true]

theorem nx_iff {h l X st y side : Nat} {R : List Nat} (hh : h < 5) (hX : X ≤ l) (hat : At h l X st R) (hy : freeS h st = some y) (hs : 1 ≤ side) (hsh : side ≤ h) : (nx h (l - X) st y side).isSome = true ↔ side ≤ mst h l X R y := by
  rw [mst_iff hh]
  have hrow := hat.row
  unfold nx
  by_cases h4 : side = 4
  · subst h4
    have e : h = 4 := by omega
    subst e
    rw [if_pos rfl]
    obtain ⟨y1, y2, y3⟩ := freeS_spec hy
    constructor
    · intro hc
      split at hc
      · rename_i hz
        obtain ⟨rfl, hz⟩ := hz
        have hy0 : y = 0 := by
          rcases Nat.eq_zero_or_pos y with e | e
          · exact e
          · exact absurd (by decide : dg 0 0 = 0) (y3 0 e)
        subst hy0
        intro k hk
        refine ⟨by omega, ?_, by omega⟩
        rw [Nat.zero_add, hrow k hk]
        simp [dg]
      · cases hc
    · intro hc
      have y0 : y = 0 := by have := (hc 3 (by omega)).1; omega
      subst y0
      have hz : st = 0 := dg_ext hh hat.lt (by decide) (fun i hi => by
        have := (hc i hi).2.1
        rw [Nat.zero_add, hrow i hi] at this
        have e : dg 0 i = 0 := by simp [dg]
        omega)
      have := (hc 3 (by omega)).2.2
      rw [if_pos ⟨hz, by omega⟩]
      rfl
  · rw [if_neg h4]
    unfold putS
    constructor
    · intro hc
      split at hc
      · rename_i hz
        obtain ⟨z1, z2, z3⟩ := hz
        intro k hk
        have := clear_iff.1 z3 k hk
        exact ⟨by omega, by rw [hrow _ (by omega)]; omega, by omega⟩
      · cases hc
    · intro hc
      have c1 := hc (side - 1) (by omega)
      unfold okI at c1
      rw [if_pos ⟨by omega, by omega, clear_iff.2 fun k hk => by have := hc k hk; have h2 := this.2.1; rw [hrow _ this.1] at h2; omega⟩]
      rfl

/-- Rows with a square more. -/
def putR (R : List Nat) (y side : Nat) : List Nat := (List.range 4).map fun i => R.getD i 0 + (if y ≤ i ∧ i < y + side then side else 0)

theorem putR_get {R : List Nat} {y side i : Nat} (hi : i < 4) : (putR R y side).getD i 0 = R.getD i 0 + (if y ≤ i ∧ i < y + side then side else 0) := by
  unfold putR
  simp only [List.getD_eq_getElem?_getD, List.getElem?_map, List.getElem?_range hi, Option.map_some, Option.getD_some]

theorem putR_beyond {R : List Nat} {y side i : Nat} (hi : 4 ≤ i) : (putR R y side).getD i 0 = 0 := by
  unfold putR
  rw [List.getD_eq_getElem?_getD, List.getElem?_eq_none (by simpa using hi)]
  rfl

/-- A square more: the rows, and what is told of them. -/
theorem put_at {α : Type} (one zero : α) (step : Nat → α → α → α) {h l X st y side : Nat} {R : List Nat} (hh : h < 5) (hl : l ≤ 30) (hX : X ≤ l) (hat : At h l X st R) (hy : freeS h st = some y) (hs : 1 ≤ side) (hm : side ≤ mst h l X R y) :
    ∃ X' st' a b, nx h (l - X) st y side = some (a, b) ∧ At h l X' st' (putR R y side) ∧ X' ≤ l ∧ Es one zero step h a b = Es one zero step h (l - X') st' ∧ mu h (l - X') st' < mu h (l - X) st := by
  have hsh : side ≤ h := Nat.le_trans hm (mst_le hh)
  have hok := (mst_iff hh).1 hm
  have hsome := (nx_iff hh hX hat hy hs hsh).2 hm
  obtain ⟨⟨a, b⟩, hn⟩ := Option.isSome_iff_exists.1 hsome
  obtain ⟨n1, n2, n3⟩ := nx_mu hh hat.lt hs hsh hn
  have hc1 := hok (side - 1) (by omega)
  have hsmall : ∀ i, (putR R y side).getD i 0 ≤ 34 := by
    intro i
    by_cases hi : i < 4
    · rw [putR_get hi]
      split
      · rename_i hc
        have h1 := hok (i - y) (by omega)
        have h2 := h1.2.1
        rw [show y + (i - y) = i by omega] at h2
        have := hc1.2.2
        omega
      · have := hat.small i; omega
    · rw [putR_beyond (by omega)]; omega
  have hle : ∀ i, i < h → (putR R y side).getD i 0 ≤ l := by
    intro i hi
    rw [putR_get (by omega)]
    split
    · rename_i hc
      have h1 := hok (i - y) (by omega)
      have h2 := h1.2.1
      rw [show y + (i - y) = i by omega] at h2
      have := hc1.2.2
      omega
    · have := hat.le i hi; omega
  by_cases h4 : side = 4
  · subst h4
    have e : h = 4 := by omega
    subst e
    unfold nx at hn
    rw [if_pos rfl] at hn
    split at hn
    · rename_i hz
      simp only [Option.some.injEq, Prod.mk.injEq] at hn
      obtain ⟨rfl, rfl⟩ := hn
      have y0 : y = 0 := by have := (hok 3 (by omega)).1; omega
      subst y0
      refine ⟨X + 4, 0, _, 0, by unfold nx; rw [if_pos rfl, if_pos hz], ⟨fun i hi => ?_, by decide, by decide, hle, hsmall⟩, by omega, ?_, ?_⟩
      · rw [putR_get hi, if_pos ⟨by omega, by omega⟩, hat.row i hi, hz.1]
        simp [dg]
      · rfl
      · have e2 : l - (X + 4) = l - X - 4 := by omega
        rw [e2]; exact n1
    · cases hn
  · have hn' := hn
    unfold nx at hn
    rw [if_neg h4] at hn
    unfold putS at hn
    split at hn
    · rename_i hz
      simp only [Option.map_some, Option.some.injEq, Prod.mk.injEq] at hn
      obtain ⟨rfl, rfl⟩ := hn
      have hd := put_dg hh hat.lt (by omega) hs hz.1 hz.2.2
      have hrow1 : ∀ i, i < h → (putR R y side).getD i 0 = X + dg (st + side * onesS y side) i := by
        intro i hi
        rw [putR_get (by omega), hat.row i hi, hd i (by omega)]; omega
      obtain ⟨m, st', m1, m2, m3, m4, m5, m6⟩ := norm_ok one zero step hh (by omega) (st + side * onesS y side + 1) (l - X) (st + side * onesS y side) (by omega) n2 (by omega) (fun i hi => by
        have := hrow1 i hi; have := hle i hi; omega)
      refine ⟨X + m, st', _, _, hn', ⟨fun i hi => by rw [hrow1 i hi, m4 i hi]; omega, m2, m3, hle, hsmall⟩, by omega, ?_, ?_⟩
      · rw [m5]; congr 1; omega
      · have e2 : l - (X + m) = l - X - m := by omega
        rw [e2]; omega
    · cases hn

/-- At the end. -/
theorem at_end {h l st : Nat} {R : List Nat} (hh : h < 5) (hat : At h l l st R) : st = 0 := by
  refine dg_ext hh hat.lt (Nat.pow_pos (by omega)) fun i hi => ?_
  have := hat.row i hi
  have := hat.le i hi
  have e : dg 0 i = 0 := by simp [dg]
  omega

end Go.Proofs.Ytmfdkjjhdjkgpaa

/- Strips: by squares; the reference's memory of lists. -/
import Derived.Test.YtmjaefnmianfpaaQTst
namespace Go.Proofs.Ytmjaefnmianfpaa
open Go Go.RowKit
set_option maxRecDepth 10000
set_option linter.unusedSimpArgs false

/-- All that stands out is within what is left. -/
def Rch (h left st : Nat) : Prop := ∀ i, i < h → dg st i ≤ left

theorem rch_zero {h left : Nat} : Rch h left 0 := fun i _ => by simp [dg]

theorem rch_shift {h left st : Nat} (hh : h < 5) (hst : st < 4 ^ h) (hf : freeS h st = none) (hr : Rch h left st) : Rch h (left - 1) (st - onesS 0 h) := by
  intro i hi
  have := shift_dg hh hst hf i hi
  have := hr i hi
  omega

theorem rch_nx {h left st r side a b : Nat} (hh : h < 5) (hst : st < 4 ^ h) (h1 : 1 ≤ side) (hr : Rch h left st) (hn : nx h left st r side = some (a, b)) : Rch h a b := by
  unfold nx at hn
  split at hn
  · split at hn
    · simp only [Option.some.injEq, Prod.mk.injEq] at hn
      obtain ⟨rfl, rfl⟩ := hn
      exact rch_zero
    · cases hn
  · rename_i h4
    simp only [Option.map_eq_some_iff, Prod.mk.injEq] at hn
    obtain ⟨s, hs, rfl, rfl⟩ := hn
    unfold putS at hs
    split at hs
    · rename_i hc
      obtain ⟨c1, c2, c3⟩ := hc
      obtain rfl := Option.some.inj hs
      intro i hi
      rw [put_dg hh (Nat.lt_of_lt_of_le hst (Nat.le_refl _)) (by omega) h1 c1 c3 i (by omega)]
      have := hr i hi
      split
      · rename_i hc2
        have := (clear_iff.1 c3) (i - r) (by omega)
        rw [show r + (i - r) = i by omega] at this
        omega
      · omega
    · cases hs

theorem rch_end {h st : Nat} (hh : h < 5) (hst : st < 4 ^ h) (hr : Rch h 0 st) : st = 0 := by
  refine dg_ext hh hst (Nat.pow_pos (by omega)) fun i hi => ?_
  have := hr i hi
  have e : dg 0 i = 0 := by simp [dg]
  omega

theorem nx_one {h left st r : Nat} (h0 : left ≠ 0) (hf : freeS h st = some r) : ∃ s, nx h left st r 1 = some (left, s) := by
  obtain ⟨k1, k2, _⟩ := freeS_spec hf
  refine ⟨st + 1 * onesS r 1, ?_⟩
  unfold nx putS
  rw [if_neg (by omega), if_pos ⟨by omega, by omega, by rw [clear_iff]; intro k hk; rw [show r + k = r by omega]; exact k2⟩]
  rfl

def stepL (_ : Nat) (a v : List Int) : List Int := addK (padTo a (v.length + 1)) v v.length

/-- How many ways there are, with each number of squares. -/
noncomputable def Bw (h left st : Nat) : List Int := (Tw h left st).1

theorem Bw_eq (h left st : Nat) : Bw h left st = Es [1] [] stepL h left st := by
  unfold Bw
  rw [Tw_eq]
  exact Es_hom Prod.fst oneT zeroT stepT [1] [] stepL rfl rfl (fun i a b => rfl)

theorem stepL_len (i : Nat) (a v : List Int) : (stepL i a v).length = max a.length (v.length + 1) := by
  unfold stepL
  rw [addK_len]
  unfold padTo
  rw [List.length_append, List.length_replicate]
  omega

theorem partL_pos {h left st y : Nat} : ∀ i, 1 ≤ i → (∃ s, nx h left st y 1 = some s) → 0 < (partE [1] [] stepL h left st y i).length
  | 0, h1, _ => by omega
  | i + 1, _, ⟨⟨a, b⟩, hs⟩ => by
    by_cases hi : i = 0
    · subst hi
      rw [partE_succ _ _ _ hs, stepL_len]; omega
    · have ih := partL_pos (h := h) (left := left) (st := st) (y := y) i (by omega) ⟨_, hs⟩
      cases hn : nx h left st y (i + 1) with
      | some p =>
        obtain ⟨a', b'⟩ := p
        rw [partE_succ _ _ _ hn, stepL_len]; omega
      | none =>
        have hp : partE [1] [] stepL h left st y (i + 1) = partE [1] [] stepL h left st y i := by
          conv => lhs; unfold partE
          rw [List.range_succ, List.foldl_append]
          simp only [List.foldl_cons, List.foldl_nil, hn]
          rfl
        rw [hp]; exact ih

theorem Bw_pos {h : Nat} (hh : 1 ≤ h ∧ h < 5) : ∀ (n left st : Nat), mu h left st < n → left ≤ 30 → st < 4 ^ h → Rch h left st → 0 < (Bw h left st).length
  | 0, _, _, hm, _, _, _ => by omega
  | n + 1, left, st, hm, hl, hst, hr => by
    by_cases h0 : left = 0
    · subst h0
      obtain rfl := rch_end hh.2 hst hr
      rw [Bw_eq, Es_zero]; exact Nat.one_pos
    · cases hf : freeS h st with
      | none =>
        have h256 := Nat.lt_of_lt_of_le hst (pow_le256 hh.2)
        obtain ⟨s1, s2⟩ := shift_lt h hh.2 st h256 hst hf
        rw [Bw_eq, Es_shift _ _ _ hh.2 hl hst h0 hf, ← Bw_eq]
        refine Bw_pos hh n _ _ ?_ (by omega) s2 (rch_shift hh.2 hst hf hr)
        have hz := zer_le h (st - onesS 0 h)
        have e : (h + 1) * left = (h + 1) * (left - 1) + (h + 1) := by rw [← Nat.mul_succ]; congr 1; omega
        unfold mu at hm ⊢
        omega
      | some y =>
        rw [Bw_eq, Es_put _ _ _ hh.2 hl hst h0 hf]
        have := partL_pos (h := h) (left := left) (st := st) (y := y) h hh.1 (by obtain ⟨s, hs⟩ := nx_one h0 hf; exact ⟨_, hs⟩)
        exact this

/-- Cells that are free still. -/
def clS (h left st : Nat) : Nat := ((List.range h).map fun i => left - dg st i).sum

theorem sum_map_le {f g : Nat → Nat} : ∀ (l : List Nat), (∀ i ∈ l, f i ≤ g i) → (l.map f).sum ≤ (l.map g).sum
  | [], _ => by simp
  | x :: r, h => by
    have h1 := h x (by simp)
    have h2 := sum_map_le r (fun i hi => h i (by simp [hi]))
    simp only [List.map_cons, List.sum_cons]
    omega

theorem sum_map_lt {f g : Nat → Nat} {k : Nat} : ∀ (l : List Nat), (∀ i ∈ l, f i ≤ g i) → k ∈ l → f k < g k → (l.map f).sum < (l.map g).sum
  | [], _, hk, _ => by simp at hk
  | x :: r, h, hk, hlt => by
    have h1 := h x (by simp)
    simp only [List.map_cons, List.sum_cons]
    rcases List.mem_cons.1 hk with rfl | hk
    · have h2 := sum_map_le r (fun i hi => h i (by simp [hi]))
      omega
    · have h2 := sum_map_lt r (fun i hi => h i (by simp [hi])) hk hlt
      omega

theorem clS_nx {h left st r side a b : Nat} (hh : h < 5) (hst : st < 4 ^ h) (h1 : 1 ≤ side) (hs : side ≤ h) (hr : Rch h left st) (hf : freeS h st = some r) (hl : left ≠ 0) (hn : nx h left st r side = some (a, b)) : clS h a b < clS h left st := by
  obtain ⟨k1, k2, _⟩ := freeS_spec hf
  unfold nx at hn
  split at hn
  · split at hn
    · rename_i h4 hc
      simp only [Option.some.injEq, Prod.mk.injEq] at hn
      obtain ⟨rfl, rfl⟩ := hn
      obtain ⟨rfl, hc⟩ := hc
      exact sum_map_lt _ (fun i _ => by simp [dg]) (List.mem_range.2 k1) (by simp [dg]; omega)
    · cases hn
  · rename_i h4
    simp only [Option.map_eq_some_iff, Prod.mk.injEq] at hn
    obtain ⟨s, hs', rfl, rfl⟩ := hn
    unfold putS at hs'
    split at hs'
    · rename_i hc
      obtain ⟨c1, c2, c3⟩ := hc
      obtain rfl := Option.some.inj hs'
      have hd := put_dg hh hst (by omega) h1 c1 c3
      refine sum_map_lt _ (fun i hi => ?_) (List.mem_range.2 k1) ?_
      · rw [hd i (by have := List.mem_range.1 hi; omega)]; omega
      · rw [hd r (by omega), k2, if_pos ⟨by omega, by omega⟩]; omega
    · cases hs'

theorem clS_shift {h left st : Nat} (hh : h < 5) (hst : st < 4 ^ h) (hf : freeS h st = none) (hr : Rch h left st) : clS h (left - 1) (st - onesS 0 h) ≤ clS h left st := by
  refine sum_map_le _ fun i hi => ?_
  have := shift_dg hh hst hf i (List.mem_range.1 hi)
  omega

theorem partL_len {h left st y n : Nat} (hs : ∀ side a b, 1 ≤ side → side ≤ h → nx h left st y side = some (a, b) → (Es [1] [] stepL h a b).length + 1 ≤ n) : ∀ i, i ≤ h → (partE [1] [] stepL h left st y i).length ≤ n
  | 0, _ => Nat.zero_le _
  | i + 1, hi => by
    have ih := partL_len hs i (by omega)
    cases hn : nx h left st y (i + 1) with
    | some p =>
      obtain ⟨a', b'⟩ := p
      have := hs (i + 1) a' b' (by omega) hi hn
      rw [partE_succ _ _ _ hn, stepL_len]; omega
    | none =>
      have hp : partE [1] [] stepL h left st y (i + 1) = partE [1] [] stepL h left st y i := by
        conv => lhs; unfold partE
        rw [List.range_succ, List.foldl_append]
        simp only [List.foldl_cons, List.foldl_nil, hn]
        rfl
      rw [hp]; exact ih

theorem Bw_len {h : Nat} (hh : 1 ≤ h ∧ h < 5) : ∀ (n left st : Nat), mu h left st < n → left ≤ 30 → st < 4 ^ h → Rch h left st → (Bw h left st).length ≤ clS h left st + 1
  | 0, _, _, hm, _, _, _ => by omega
  | n + 1, left, st, hm, hl, hst, hr => by
    by_cases h0 : left = 0
    · subst h0
      obtain rfl := rch_end hh.2 hst hr
      rw [Bw_eq, Es_zero]; simp
    · cases hf : freeS h st with
      | none =>
        have h256 := Nat.lt_of_lt_of_le hst (pow_le256 hh.2)
        obtain ⟨s1, s2⟩ := shift_lt h hh.2 st h256 hst hf
        rw [Bw_eq, Es_shift _ _ _ hh.2 hl hst h0 hf, ← Bw_eq]
        have := clS_shift hh.2 hst hf hr
        refine Nat.le_trans (Bw_len hh n _ _ ?_ (by omega) s2 (rch_shift hh.2 hst hf hr)) (by omega)
        have hz := zer_le h (st - onesS 0 h)
        have e : (h + 1) * left = (h + 1) * (left - 1) + (h + 1) := by rw [← Nat.mul_succ]; congr 1; omega
        unfold mu at hm ⊢
        omega
      | some y =>
        rw [Bw_eq, Es_put _ _ _ hh.2 hl hst h0 hf]
        refine partL_len (n := clS h left st + 1) (y := y) (fun side a b h1 h2 hn => ?_) h (Nat.le_refl _)
        obtain ⟨n1, n2, n3⟩ := nx_mu hh.2 hst h1 h2 hn
        have := Bw_len hh n a b (by omega) (by omega) n2 (rch_nx hh.2 hst h1 hr hn)
        rw [Bw_eq] at this
        have := clS_nx hh.2 hst h1 h2 hr hf h0 hn
        omega

theorem clS_zero {h left : Nat} : clS h left 0 = h * left := by
  unfold clS
  have : ((List.range h).map fun i => left - dg 0 i) = List.replicate h left := by
    apply List.ext_getElem
    · simp
    · intro i h1 h2; simp [dg]
  rw [this]; simp

end Go.Proofs.Ytmjaefnmianfpaa

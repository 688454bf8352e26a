/- Strips: what all counts are to each other; plain. -/
import Derived.Test.YtnmeehiahlfgaaaQWst
import Derived.Test.YtnmeehiahlfgaaaQArt
import Derived.Test.YtnmeehiahlfgaaaQRst
import Derived.Test.YtnmeehiahlfgaaaQZx
namespace Go.Proofs.Ytnmeehiahlfgaaa
open Go Go.RowKit
set_option maxRecDepth 10000
set_option maxHeartbeats 1000000
set_option linter.unusedSimpArgs false

/-- What holds at all states that are reached. -/
theorem walk_ind {h : Nat} (hh : 1 ≤ h ∧ h < 5) {P : Nat → Nat → Prop} (h0 : P 0 0)
    (hs : ∀ left st, left ≠ 0 → left ≤ 30 → st < 4 ^ h → Rch h left st → freeS h st = none → P (left - 1) (st - onesS 0 h) → P left st)
    (hp : ∀ left st r, left ≠ 0 → left ≤ 30 → st < 4 ^ h → Rch h left st → freeS h st = some r → (∀ side a b, 1 ≤ side → side ≤ h → nx h left st r side = some (a, b) → a ≤ left ∧ b < 4 ^ h ∧ Rch h a b ∧ P a b) → P left st) :
    ∀ n left st, mu h left st < n → left ≤ 30 → st < 4 ^ h → Rch h left st → P left st
  | 0, _, _, hm, _, _, _ => by omega
  | n + 1, left, st, hm, hl, hst, hr => by
    by_cases hl0 : left = 0
    · subst hl0
      obtain rfl := rch_end hh.2 hst hr
      exact h0
    · cases hf : freeS h st with
      | none =>
        have h256 := Nat.lt_of_lt_of_le hst (pow_le256 hh.2)
        obtain ⟨s1, s2⟩ := shift_lt h hh.2 st h256 hst hf
        refine hs left st hl0 hl hst hr hf (walk_ind hh h0 hs hp n _ _ ?_ (by omega) s2 (rch_shift hh.2 hst hf hr))
        have hz := zer_le h (st - onesS 0 h)
        have e : (h + 1) * left = (h + 1) * (left - 1) + (h + 1) := by rw [← Nat.mul_succ]; congr 1; omega
        unfold mu at hm ⊢
        omega
      | some r =>
        refine hp left st r hl0 hl hst hr hf fun side a b h1 h2 hn => ?_
        obtain ⟨n1, n2, n3⟩ := nx_mu hh.2 hst h1 h2 hn
        have hr' := rch_nx hh.2 hst h1 hr hn
        exact ⟨n3, n2, hr', walk_ind hh h0 hs hp n a b (by omega) (by omega) n2 hr'⟩

theorem walk_all {h : Nat} (hh : 1 ≤ h ∧ h < 5) {P : Nat → Nat → Prop} (h0 : P 0 0)
    (hs : ∀ left st, left ≠ 0 → left ≤ 30 → st < 4 ^ h → Rch h left st → freeS h st = none → P (left - 1) (st - onesS 0 h) → P left st)
    (hp : ∀ left st r, left ≠ 0 → left ≤ 30 → st < 4 ^ h → Rch h left st → freeS h st = some r → (∀ side a b, 1 ≤ side → side ≤ h → nx h left st r side = some (a, b) → a ≤ left ∧ b < 4 ^ h ∧ Rch h a b ∧ P a b) → P left st)
    {left st : Nat} (hl : left ≤ 30) (hst : st < 4 ^ h) (hr : Rch h left st) : P left st :=
  walk_ind hh h0 hs hp 1000 left st (Nat.lt_of_lt_of_le (mu_small hh.2 hl) (by omega)) hl hst hr

/-- Two sums over the sides, side by side. -/
theorem fold_two {α β : Type} {I : Nat → α → β → Prop} {f : α → Nat → α} {g : β → Nat → β} {a : α} {b : β} (h0 : I 0 a b) : ∀ n, (∀ i a b, i < n → I i a b → I (i + 1) (f a i) (g b i)) → I n ((List.range n).foldl f a) ((List.range n).foldl g b)
  | 0, _ => h0
  | n + 1, hs => by
    rw [List.range_succ, List.foldl_append, List.foldl_append]
    exact hs n _ _ (by omega) (fold_two h0 n fun i a b hi hI => hs i a b (by omega) hI)

theorem fold_one {α : Type} {I : Nat → α → Prop} {f : α → Nat → α} {a : α} (h0 : I 0 a) : ∀ n, (∀ i a, i < n → I i a → I (i + 1) (f a i)) → I n ((List.range n).foldl f a)
  | 0, _ => h0
  | n + 1, hs => by
    rw [List.range_succ, List.foldl_append]
    exact hs n _ (by omega) (fold_one h0 n fun i a hi hI => hs i a (by omega) hI)

/-- Put after each other. -/
theorem Cn_mul {h a b : Nat} (hh : 1 ≤ h ∧ h < 5) (hab : a + b ≤ 30) : Cn h a 0 * Cn h b 0 ≤ Cn h (a + b) 0 := by
  have key : ∀ {left st : Nat}, left ≤ 30 → st < 4 ^ h → Rch h left st → left + b ≤ 30 → Cn h left st * Cn h b 0 ≤ Cn h (left + b) st := by
    intro left st hl hst hr
    refine walk_all (P := fun left st => left + b ≤ 30 → Cn h left st * Cn h b 0 ≤ Cn h (left + b) st) hh ?_ ?_ ?_ hl hst hr
    · intro _
      rw [Nat.zero_add, Cn_eq h 0 0, Es_zero, Nat.one_mul]
      exact Nat.le_refl _
    · intro left st h0 hl hst hr hf ih hb
      have ih := ih (by omega)
      rw [Cn_eq h left, Es_shift _ _ _ hh.2 hl hst h0 hf, ← Cn_eq, Cn_eq h (left + b), Es_shift _ _ _ hh.2 hb hst (by omega) hf, ← Cn_eq]
      rw [show left + b - 1 = left - 1 + b by omega]
      exact ih
    · intro left st r h0 hl hst hr hf ih hb
      rw [Cn_eq h left, Es_put _ _ _ hh.2 hl hst h0 hf, Cn_eq h (left + b), Es_put _ _ _ hh.2 hb hst (by omega) hf]
      refine fold_two (I := fun _ x y => x * Cn h b 0 ≤ y) (by simp) h fun i x y hi hI => ?_
      cases hn : nx h left st r (i + 1) with
      | none =>
        dsimp only
        split
        · exact Nat.le_trans hI (Nat.le_add_right _ _)
        · exact hI
      | some p =>
        obtain ⟨a', b'⟩ := p
        obtain ⟨_, _, _, ih'⟩ := ih (i + 1) a' b' (by omega) hi hn
        have ih' := ih' (by have := (nx_mu hh.2 hst (by omega) hi hn).2.2; omega)
        have hn2 : nx h (left + b) st r (i + 1) = some (a' + b, b') := by
          unfold nx at hn ⊢
          by_cases h4 : i + 1 = 4
          · rw [if_pos h4] at hn ⊢
            split at hn
            · rename_i hc
              simp only [Option.some.injEq, Prod.mk.injEq] at hn
              obtain ⟨rfl, rfl⟩ := hn
              rw [if_pos ⟨hc.1, by omega⟩]
              simp only [Option.some.injEq, Prod.mk.injEq, and_true]
              omega
            · cases hn
          · rw [if_neg h4] at hn ⊢
            simp only [Option.map_eq_some_iff, Prod.mk.injEq] at hn
            obtain ⟨t, ht, rfl, rfl⟩ := hn
            unfold putS at ht ⊢
            split at ht
            · rename_i hc
              obtain rfl := Option.some.inj ht
              rw [if_pos ⟨hc.1, by omega, hc.2.2⟩]
              rfl
            · cases ht
        rw [hn2]
        show (x + Es 1 0 stepN h a' b') * Cn h b 0 ≤ y + Es 1 0 stepN h (a' + b) b'
        rw [Nat.add_mul, ← Cn_eq, ← Cn_eq]
        omega
  exact key (by omega) (Nat.pow_pos (by omega)) rch_zero hab

/-- All ways, and those without a side. -/
def stepU (side i : Nat) (a b : T5 × Nat) : T5 × Nat := (step5 i a.1 b.1, if i = side then a.2 else a.2 + b.2)

theorem without_facts {h l side : Nat} (hs : 1 ≤ side ∧ side ≤ 4) : ∃ w : Nat, Vw side h l 0 = (w : Int) ∧ w ≤ Cn h l 0 ∧ (of5 (S5 h l 0) side = 0 ↔ w = Cn h l 0) := by
  refine ⟨(Es ((1, 0, 0, 0, 0), 1) ((0, 0, 0, 0, 0), 0) (stepU side) h l 0).2, ?_, ?_⟩
  · rw [Vw_eq]
    exact (Es_hom (fun t : T5 × Nat => (t.2 : Int)) _ _ (stepU side) 1 0 (stepV side) rfl rfl (fun i a b => by unfold stepU stepV; dsimp only; split <;> simp)).symm
  · have e : (Es ((1, 0, 0, 0, 0), 1) ((0, 0, 0, 0, 0), 0) (stepU side) h l 0).1 = S5 h l 0 := Es_hom Prod.fst _ _ (stepU side) _ _ step5 rfl rfl (fun i a b => rfl)
    have hP : ∀ n left st, (fun t : T5 × Nat => t.2 ≤ t.1.1 ∧ (of5 t.1 side = 0 ↔ t.2 = t.1.1)) (Ev ((1, 0, 0, 0, 0), 1) ((0, 0, 0, 0, 0), 0) (stepU side) h n left st) := by
      intro n left st
      refine Ev_prop (fun t : T5 × Nat => t.2 ≤ t.1.1 ∧ (of5 t.1 side = 0 ↔ t.2 = t.1.1)) ?_ ?_ ?_ n left st
      · have : side = 1 ∨ side = 2 ∨ side = 3 ∨ side = 4 := by omega
        rcases this with rfl | rfl | rfl | rfl <;> simp [of5]
      · have : side = 1 ∨ side = 2 ∨ side = 3 ∨ side = 4 := by omega
        rcases this with rfl | rfl | rfl | rfl <;> simp [of5]
      · rintro i ⟨a, u⟩ ⟨b, v⟩ ⟨a1, a2⟩ ⟨b1, b2⟩
        dsimp only at a1 a2 b1 b2
        have e : of5 (step5 (i + 1) a b) side = of5 a side + (on (i + 1) side b.1 + of5 b side) := by
          have : side = 1 ∨ side = 2 ∨ side = 3 ∨ side = 4 := by omega
          rcases this with rfl | rfl | rfl | rfl <;> rfl
        unfold stepU
        dsimp only
        rw [e]
        have e2 : (step5 (i + 1) a b).1 = a.1 + b.1 := rfl
        rw [e2]
        unfold on
        by_cases c : i + 1 = side
        · rw [if_pos c, if_pos c]
          omega
        · rw [if_neg c, if_neg c]
          omega
    have := hP 200 l 0
    rw [← S5_fst, ← e]
    exact this

/-- No squares of a side that is too great. -/
theorem side_none {h l side : Nat} (hs : 1 ≤ side ∧ side ≤ 4) (hg : h < side) : of5 (S5 h l 0) side = 0 := by
  have e : of5 (S5 h l 0) side = Es 0 0 stepN h l 0 := by
    unfold S5 Es
    refine Ev_hom2 (fun t : T5 => of5 t side) _ _ step5 0 0 stepN ?_ ?_ (fun i a b hi => ?_) _ _ _
    · have : side = 1 ∨ side = 2 ∨ side = 3 ∨ side = 4 := by omega
      rcases this with rfl | rfl | rfl | rfl <;> rfl
    · have : side = 1 ∨ side = 2 ∨ side = 3 ∨ side = 4 := by omega
      rcases this with rfl | rfl | rfl | rfl <;> rfl
    · have e : of5 (step5 (i + 1) a b) side = of5 a side + (on (i + 1) side b.1 + of5 b side) := by
        have : side = 1 ∨ side = 2 ∨ side = 3 ∨ side = 4 := by omega
        rcases this with rfl | rfl | rfl | rfl <;> rfl
      rw [e]
      unfold on stepN
      rw [if_neg (by omega), Nat.zero_add]
  rw [e]
  exact Ev_prop (fun v : Nat => v = 0) rfl rfl (fun i a b ha hb => by subst ha hb; rfl) _ _ _

/-- Cells that a square takes. -/
theorem clS_put {h left st r side a b : Nat} (hh : 1 ≤ h ∧ h < 5) (hst : st < 4 ^ h) (h1 : 1 ≤ side) (hs : side ≤ h) (hf : freeS h st = some r) (hn : nx h left st r side = some (a, b)) : clS h a b + side * side = clS h left st := by
  obtain ⟨k1, k2, _⟩ := freeS_spec hf
  have hc4 : h = 1 ∨ h = 2 ∨ h = 3 ∨ h = 4 := by omega
  unfold nx at hn
  split at hn
  · split at hn
    · rename_i h4 hc
      simp only [Option.some.injEq, Prod.mk.injEq] at hn
      obtain ⟨rfl, rfl⟩ := hn
      obtain ⟨rfl, hc⟩ := hc
      have : h = 4 := by omega
      subst this
      subst h4
      rw [clS_zero, clS_zero]
      omega
    · cases hn
  · rename_i h4
    simp only [Option.map_eq_some_iff, Prod.mk.injEq] at hn
    obtain ⟨s, hs', rfl, rfl⟩ := hn
    unfold putS at hs'
    split at hs'
    · rename_i hc
      obtain ⟨c1, c2, c3⟩ := hc
      obtain rfl := Option.some.inj hs'
      have hd := put_dg hh.2 hst (by omega) h1 c1 c3
      have hz := clear_iff.1 c3
      have d0 := hd 0 (by omega)
      have d1 := hd 1 (by omega)
      have d2 := hd 2 (by omega)
      have d3 := hd 3 (by omega)
      have z0 := hz 0
      have z1 := hz 1
      have z2 := hz 2
      have hside : side = 1 ∨ side = 2 ∨ side = 3 := by omega
      unfold clS
      rcases hc4 with rfl | rfl | rfl | rfl
      · rcases hside with rfl | rfl | rfl
        · have : r = 0 := by omega
          subst this
          simp at d0 z0
          simp [List.range_succ, d0]
          omega
        · omega
        · omega
      all_goals
        simp only [List.range_succ, List.range_zero, List.nil_append, List.cons_append, List.map_cons, List.map_nil, List.sum_cons, List.sum_nil, d0, d1, d2, d3]
        have hr : r = 0 ∨ r = 1 ∨ r = 2 ∨ r = 3 := by omega
        rcases hside with rfl | rfl | rfl <;> rcases hr with rfl | rfl | rfl | rfl <;> first | omega | (simp at z0 z1 z2 ⊢; omega) | (simp at z0 z1 z2 ⊢)
    · cases hs'

theorem clS_same {h left st : Nat} (hh : 1 ≤ h ∧ h < 5) (h0 : left ≠ 0) (hst : st < 4 ^ h) (hf : freeS h st = none) : clS h (left - 1) (st - onesS 0 h) = clS h left st := by
  unfold clS
  congr 1
  refine List.map_congr_left fun i hi => ?_
  have := shift_dg hh.2 hst hf i (List.mem_range.1 hi)
  omega

def area5 (t : T5) : Nat := of5 t 1 + 4 * of5 t 2 + 9 * of5 t 3 + 16 * of5 t 4

/-- The squares of all ways have the area of all. -/
theorem area_all {h l : Nat} (hh : 1 ≤ h ∧ h < 5) (hl : l ≤ 30) : area5 (S5 h l 0) = Cn h l 0 * (h * l) := by
  have key := walk_all (h := h) (P := fun left st => area5 (S5 h left st) = (S5 h left st).1 * clS h left st) hh ?_ ?_ ?_ hl (Nat.pow_pos (by omega)) (rch_zero (h := h) (left := l))
  · rw [key, S5_fst, clS_zero]
  · unfold S5
    rw [Es_zero]
    simp [area5, of5, clS_zero]
  · intro left st h0 hl hst hr hf ih
    have e : S5 h left st = S5 h (left - 1) (st - onesS 0 h) := by unfold S5; exact Es_shift _ _ _ hh.2 hl hst h0 hf
    rw [e, ih, clS_same hh h0 hst hf]
  · intro left st r h0 hl hst hr hf ih
    have e : S5 h left st = (List.range h).foldl (fun acc i => match nx h left st r (i + 1) with
      | some (l, s) => step5 (i + 1) acc (Es (1, 0, 0, 0, 0) (0, 0, 0, 0, 0) step5 h l s)
      | none => acc) (0, 0, 0, 0, 0) := by unfold S5; exact Es_put _ _ _ hh.2 hl hst h0 hf
    rw [e]
    refine fold_one (I := fun _ t => area5 t = t.1 * clS h left st) (by simp [area5, of5]) h fun i t hi hI => ?_
    cases hn : nx h left st r (i + 1) with
    | none => exact hI
    | some p =>
      obtain ⟨a, b⟩ := p
      obtain ⟨_, _, _, ih'⟩ := ih (i + 1) a b (by omega) hi hn
      have hc := clS_put hh hst (by omega) hi hf hn
      show area5 (step5 (i + 1) t (S5 h a b)) = (t.1 + (S5 h a b).1) * clS h left st
      rw [Nat.add_mul, ← hI, ← hc, Nat.mul_add, ← ih']
      generalize S5 h a b = v
      have hi4 : i = 0 ∨ i = 1 ∨ i = 2 ∨ i = 3 := by omega
      unfold area5 step5 of5 on
      rcases hi4 with rfl | rfl | rfl | rfl <;> simp <;> omega

theorem addN_getD (p o : List Nat) : ∀ k, k < p.length → ∀ j, (addN p o k).getD j 0 = p.getD j 0 + (if 1 ≤ j ∧ j ≤ k then o.getD (j - 1) 0 else 0)
  | 0, _, j => by rw [if_neg (by omega)]; rfl
  | k + 1, hk, j => by
    rw [addN, getD_set _ _ _ _ (by rw [addN_len]; omega)]
    have ih := addN_getD p o k (by omega)
    by_cases c : k + 1 = j
    · subst c
      rw [if_pos rfl, ih, if_neg (by omega), if_pos (by omega), Nat.add_sub_cancel]
      omega
    · rw [if_neg c, ih]
      by_cases d : 1 ≤ j ∧ j ≤ k
      · rw [if_pos d, if_pos (by omega)]
      · rw [if_neg d, if_neg (by omega)]

theorem stepLN_getD (i : Nat) (a v : List Nat) (j : Nat) : (stepLN i a v).getD j 0 = a.getD j 0 + (if 1 ≤ j then v.getD (j - 1) 0 else 0) := by
  unfold stepLN
  rw [addN_getD _ _ _ (by rw [padN_len]; omega), padN_getD]
  by_cases c : 1 ≤ j
  · rw [if_pos c]
    by_cases d : j ≤ v.length
    · rw [if_pos ⟨c, d⟩]
    · rw [if_neg (by omega)]
      have : v.getD (j - 1) 0 = 0 := by
        rw [List.getD_eq_getElem?_getD, List.getElem?_eq_none (by omega)]; rfl
      rw [this]
  · rw [if_neg c, if_neg (by omega)]

theorem nx_one' {h left st r : Nat} (h0 : left ≠ 0) (hf : freeS h st = some r) : ∃ s, nx h left st r 1 = some (left, s) := nx_one h0 hf

/-- One way has as many squares as cells. -/
theorem Bn_last {h l : Nat} (hh : 1 ≤ h ∧ h < 5) (hl : l ≤ 30) : (Bn h l 0).getD (h * l) 0 = 1 := by
  have key := walk_all (h := h) (P := fun left st => (Bn h left st).getD (clS h left st) 0 = 1 ∧ ∀ j, clS h left st < j → (Bn h left st).getD j 0 = 0) hh ?_ ?_ ?_ hl (Nat.pow_pos (by omega)) (rch_zero (h := h) (left := l))
  · rw [clS_zero] at key
    exact key.1
  · rw [Bn_eq, Es_zero, clS_zero]
    refine ⟨rfl, fun j hj => ?_⟩
    rw [List.getD_eq_getElem?_getD, List.getElem?_eq_none (by simp; omega)]; rfl
  · intro left st h0 hl hst hr hf ih
    have e : Bn h left st = Bn h (left - 1) (st - onesS 0 h) := by rw [Bn_eq, Es_shift _ _ _ hh.2 hl hst h0 hf, ← Bn_eq]
    rw [e, ← clS_same hh h0 hst hf]
    exact ih
  · intro left st r h0 hl hst hr hf ih
    rw [Bn_eq, Es_put _ _ _ hh.2 hl hst h0 hf]
    have hcl : 1 ≤ clS h left st := by
      obtain ⟨s, hs⟩ := nx_one h0 hf
      have := clS_put hh hst (Nat.le_refl 1) hh.1 hf hs
      omega
    have := fold_one (I := fun m (t : List Nat) => t.getD (clS h left st) 0 = (if m = 0 then 0 else 1) ∧ ∀ j, clS h left st < j → t.getD j 0 = 0) (a := ([] : List Nat)) (f := fun acc i => match nx h left st r (i + 1) with
      | some (l, s) => stepLN (i + 1) acc (Es [1] [] stepLN h l s)
      | none => acc) ⟨by simp, fun j _ => by simp⟩ h fun i t hi hI => ?_
    · rw [if_neg (by omega)] at this
      exact this
    · cases hn : nx h left st r (i + 1) with
      | none =>
        have hi0 : i ≠ 0 := by
          rintro rfl
          obtain ⟨s, hs⟩ := nx_one h0 hf
          rw [hs] at hn; cases hn
        rw [if_neg hi0] at hI
        rw [if_neg (by omega)]
        exact hI
      | some p =>
        obtain ⟨a, b⟩ := p
        obtain ⟨_, _, _, ih1, ih2⟩ := ih (i + 1) a b (by omega) hi hn
        have hc := clS_put hh hst (by omega) hi hf hn
        have eB : Es [1] [] stepLN h a b = Bn h a b := (Bn_eq h a b).symm
        dsimp only
        rw [eB, if_neg (by omega)]
        have hsq : 1 ≤ (i + 1) * (i + 1) ∧ (i ≠ 0 → 4 ≤ (i + 1) * (i + 1)) ∧ (i = 0 → (i + 1) * (i + 1) = 1) := by
          have : i = 0 ∨ i = 1 ∨ i = 2 ∨ i = 3 := by omega
          rcases this with rfl | rfl | rfl | rfl <;> simp
        generalize (i + 1) * (i + 1) = q at hc hsq
        refine ⟨?_, fun j hj => ?_⟩
        · show (stepLN (i + 1) t (Bn h a b)).getD _ 0 = 1
          rw [stepLN_getD, if_pos hcl, hI.1]
          by_cases hi0 : i = 0
          · have hq1 := hsq.2.2 hi0
            subst hi0
            have : clS h left st - 1 = clS h a b := by omega
            rw [if_pos rfl, this, ih1]
          · rw [if_neg hi0, ih2 _ (by omega)]
        · show (stepLN (i + 1) t (Bn h a b)).getD _ 0 = 0
          rw [stepLN_getD, if_pos (by omega), hI.2 j hj, ih2 _ (by omega)]

end Go.Proofs.Ytnmeehiahlfgaaa

namespace Go.Proofs.Ytnmeehiahlfgaaa
open Go Go.RowKit
set_option maxRecDepth 10000
set_option maxHeartbeats 1000000
set_option linter.unusedSimpArgs false

/-- How many ways lead on to a line down, the next one, with j columns left behind it. -/
def Hf (h j : Nat) : Nat → Nat → Nat → Nat
  | 0, _, _ => 0
  | n + 1, left, st => if st = 0 then (if left = j then 1 else 0) else if left = 0 then 0 else match freeS h st with
    | none => Hf h j n (left - 1) (st - onesS 0 h)
    | some r => (List.range h).foldl (fun acc i => match nx h left st r (i + 1) with
      | some (l, s) => acc + Hf h j n l s
      | none => acc) 0

theorem dg_pos {h st : Nat} (hh : h < 5) (hst : st < 4 ^ h) (h0 : st ≠ 0) : ∃ i, i < h ∧ 1 ≤ dg st i := by
  apply Classical.byContradiction
  intro hc
  refine h0 (dg_ext hh hst (Nat.pow_pos (by omega)) fun i hi => ?_)
  have : dg 0 i = 0 := by simp [dg]
  rw [this]
  have : ¬ 1 ≤ dg st i := fun g => hc ⟨i, hi, g⟩
  omega

theorem fold_zero {f : Nat → Nat → Nat} {n : Nat} (hf : ∀ i, i < n → ∀ a, f a i = a) : (List.range n).foldl f 0 = 0 :=
  fold_one (I := fun _ a => a = 0) rfl n fun i a hi hI => by rw [hf i hi a]; exact hI

/-- None where there is too little room. -/
theorem Hf_zero {h j : Nat} (hh : 1 ≤ h ∧ h < 5) : ∀ (n left st i : Nat), st < 4 ^ h → i < h → left < dg st i + j → Hf h j n left st = 0
  | 0, _, _, _, _, _, _ => rfl
  | n + 1, left, st, i, hst, hi, hlt => by
    rw [Hf]
    by_cases h0 : st = 0
    · subst h0
      have : dg 0 i = 0 := by simp [dg]
      rw [if_pos rfl, if_neg (by omega)]
    · rw [if_neg h0]
      by_cases hl0 : left = 0
      · rw [if_pos hl0]
      · rw [if_neg hl0]
        cases hf : freeS h st with
        | none =>
          have h256 := Nat.lt_of_lt_of_le hst (pow_le256 hh.2)
          obtain ⟨s1, s2⟩ := shift_lt h hh.2 st h256 hst hf
          have := shift_dg hh.2 hst hf i hi
          exact Hf_zero hh n _ _ i s2 hi (by omega)
        | some r =>
          refine fold_zero fun k hk a => ?_
          cases hn : nx h left st r (k + 1) with
          | none => rfl
          | some p =>
            obtain ⟨a', b'⟩ := p
            have hm := nx_mu hh.2 hst (by omega) hk hn
            unfold nx at hn
            by_cases h4 : k + 1 = 4
            · rw [if_pos h4, if_neg (fun g => h0 g.1)] at hn
              cases hn
            · rw [if_neg h4] at hn
              simp only [Option.map_eq_some_iff, Prod.mk.injEq] at hn
              obtain ⟨t, ht, rfl, rfl⟩ := hn
              unfold putS at ht
              split at ht
              · rename_i hc
                obtain ⟨c1, c2, c3⟩ := hc
                obtain rfl := Option.some.inj ht
                have hd := put_dg hh.2 hst (by omega) (by omega) c1 c3 i (by omega)
                show a + _ = a
                rw [Hf_zero hh n _ _ i hm.2.1 hi (by omega)]
                rfl
              · cases ht

/-- Columns more at the end change nothing. -/
theorem Hf_more {h j d : Nat} (hh : 1 ≤ h ∧ h < 5) : ∀ (n left st : Nat), st < 4 ^ h → Hf h (j + d) n (left + d) st = Hf h j n left st
  | 0, _, _, _ => rfl
  | n + 1, left, st, hst => by
    by_cases h0 : st = 0
    · rw [Hf, Hf, if_pos h0, if_pos h0]
      by_cases c : left = j
      · rw [if_pos c, if_pos (by omega)]
      · rw [if_neg c, if_neg (by omega)]
    · by_cases hl0 : left = 0
      · obtain ⟨i, hi, hd⟩ := dg_pos hh.2 hst h0
        rw [Hf_zero hh (n + 1) (left + d) st i hst hi (by omega), Hf_zero hh (n + 1) left st i hst hi (by omega)]
      · rw [Hf, Hf, if_neg h0, if_neg h0, if_neg hl0, if_neg (by omega)]
        cases hf : freeS h st with
        | none =>
          have h256 := Nat.lt_of_lt_of_le hst (pow_le256 hh.2)
          obtain ⟨s1, s2⟩ := shift_lt h hh.2 st h256 hst hf
          have := Hf_more (j := j) (d := d) hh n (left - 1) (st - onesS 0 h) s2
          rw [show left - 1 + d = left + d - 1 by omega] at this
          exact this
        | some r =>
          have hrh := (freeS_spec hf).1
          refine fold_two (I := fun _ x y => x = y) rfl h fun i x y hi hI => ?_
          subst hI
          by_cases h4 : i + 1 = 4
          · have e1 : nx h left st r (i + 1) = none := by unfold nx; rw [if_pos h4, if_neg (fun g => h0 g.1)]
            have e2 : nx h (left + d) st r (i + 1) = none := by unfold nx; rw [if_pos h4, if_neg (fun g => h0 g.1)]
            rw [e1, e2]
          · by_cases hp : r + (i + 1) ≤ h ∧ clearB st r (i + 1) = true
            · have hd := put_dg hh.2 hst (show i + 1 < 4 by omega) (by omega) hp.1 hp.2
              have hlt : st + (i + 1) * onesS r (i + 1) < 4 ^ h := (put_zer h hh.2 st (Nat.lt_of_lt_of_le hst (pow_le256 hh.2)) r (by omega) (i + 1) (by omega) (by omega) hp.1 hp.2).2 hst
              by_cases hc : i + 1 ≤ left
              · have e1 : nx h left st r (i + 1) = some (left, st + (i + 1) * onesS r (i + 1)) := by unfold nx putS; rw [if_neg h4, if_pos ⟨hp.1, hc, hp.2⟩]; rfl
                have e2 : nx h (left + d) st r (i + 1) = some (left + d, st + (i + 1) * onesS r (i + 1)) := by unfold nx putS; rw [if_neg h4, if_pos ⟨hp.1, by omega, hp.2⟩]; rfl
                rw [e1, e2]
                dsimp only
                rw [Hf_more hh n left _ hlt]
              · have e1 : nx h left st r (i + 1) = none := by unfold nx putS; rw [if_neg h4, if_neg (fun g => hc g.2.1)]; rfl
                rw [e1]
                by_cases hc2 : i + 1 ≤ left + d
                · have e2 : nx h (left + d) st r (i + 1) = some (left + d, st + (i + 1) * onesS r (i + 1)) := by unfold nx putS; rw [if_neg h4, if_pos ⟨hp.1, hc2, hp.2⟩]; rfl
                  rw [e2]
                  dsimp only
                  have hdr := hd r (by omega)
                  rw [if_pos ⟨by omega, by omega⟩] at hdr
                  rw [Hf_zero hh n (left + d) _ r hlt hrh (by omega)]
                  rfl
                · have e2 : nx h (left + d) st r (i + 1) = none := by unfold nx putS; rw [if_neg h4, if_neg (fun g => hc2 g.2.1)]; rfl
                  rw [e2]
            · have e1 : nx h left st r (i + 1) = none := by unfold nx putS; rw [if_neg h4, if_neg (fun g => hp ⟨g.1, g.2.2⟩)]; rfl
              have e2 : nx h (left + d) st r (i + 1) = none := by unfold nx putS; rw [if_neg h4, if_neg (fun g => hp ⟨g.1, g.2.2⟩)]; rfl
              rw [e1, e2]

/-- All ways, by the next line down. -/
def sumJ (f : Nat → Nat) : Nat := ((List.range 31).map f).sum

theorem sumJ_add (f g : Nat → Nat) : sumJ (fun j => f j + g j) = sumJ f + sumJ g := by
  unfold sumJ
  generalize List.range 31 = l
  induction l with
  | nil => rfl
  | cons x r ih => simp only [List.map_cons, List.sum_cons, ih]; omega

theorem sumJ_one {k : Nat} (hk : k < 31) (f : Nat → Nat) : sumJ (fun j => (if k = j then 1 else 0) * f j) = f k := by
  have := sum_one (n := 31) (i := k) (v := f k) (fun j => (if k = j then 1 else 0) * f j) (fun _ => 0) hk (fun j hj => by rw [if_neg (fun e => hj e.symm), Nat.zero_mul]) (by simp)
  unfold sumJ
  rw [this]
  have : ((List.range 31).map fun _ => 0).sum = 0 := by decide
  omega

theorem sumJ_zero : sumJ (fun _ => 0) = 0 := by decide

/-- The sum over sides of sums over lines. -/
theorem fold_sumJ {h left st r : Nat} {C : Nat → Nat → Nat} {H : Nat → Nat → Nat → Nat} {c : Nat → Nat} (hv : ∀ i a b, i < h → nx h left st r (i + 1) = some (a, b) → C a b = sumJ fun j => H j a b * c j) :
    ∀ n, n ≤ h → (List.range n).foldl (fun acc i => match nx h left st r (i + 1) with
      | some (l, s) => acc + C l s
      | none => acc) 0 = sumJ fun j => ((List.range n).foldl (fun acc i => match nx h left st r (i + 1) with
      | some (l, s) => acc + H j l s
      | none => acc) 0) * c j
  | 0, _ => by simp [sumJ_zero]
  | n + 1, hn => by
    have ih := fold_sumJ hv n (by omega)
    simp only [List.range_succ, List.foldl_append, List.foldl_cons, List.foldl_nil]
    cases hx : nx h left st r (n + 1) with
    | none => exact ih
    | some p =>
      obtain ⟨a, b⟩ := p
      dsimp only
      rw [ih, hv n a b (by omega) hx, ← sumJ_add]
      congr 1
      funext j
      rw [Nat.add_mul]

theorem Cn_lines {h : Nat} (hh : 1 ≤ h ∧ h < 5) : ∀ (n left st : Nat), mu h left st < n → left ≤ 30 → st < 4 ^ h → Rch h left st → Cn h left st = sumJ fun j => Hf h j n left st * Cn h j 0
  | 0, _, _, hm, _, _, _ => by omega
  | n + 1, left, st, hm, hl, hst, hr => by
    by_cases h0 : st = 0
    · subst h0
      have : (fun j => Hf h j (n + 1) left 0 * Cn h j 0) = fun j => (if left = j then 1 else 0) * Cn h j 0 := by
        funext j
        rw [Hf, if_pos rfl]
      rw [this, sumJ_one (by omega)]
    · have hl0 : left ≠ 0 := fun e => h0 (by subst e; exact rch_end hh.2 hst hr)
      cases hf : freeS h st with
      | none =>
        have h256 := Nat.lt_of_lt_of_le hst (pow_le256 hh.2)
        obtain ⟨s1, s2⟩ := shift_lt h hh.2 st h256 hst hf
        have ih := Cn_lines hh n (left - 1) (st - onesS 0 h) (by
          have hz := zer_le h (st - onesS 0 h)
          have e : (h + 1) * left = (h + 1) * (left - 1) + (h + 1) := by rw [← Nat.mul_succ]; congr 1; omega
          unfold mu at hm ⊢
          omega) (by omega) s2 (rch_shift hh.2 hst hf hr)
        rw [Cn_eq, Es_shift _ _ _ hh.2 hl hst hl0 hf, ← Cn_eq, ih]
        congr 1
        funext j
        conv => rhs; rw [Hf, if_neg h0, if_neg hl0, hf]
      | some r =>
        rw [Cn_eq, Es_put _ _ _ hh.2 hl hst hl0 hf]
        have := fold_sumJ (h := h) (left := left) (st := st) (r := r) (C := fun a b => Es 1 0 stepN h a b) (H := fun j a b => Hf h j n a b) (c := fun j => Cn h j 0) (fun i a b hi hn => by
          obtain ⟨n1, n2, n3⟩ := nx_mu hh.2 hst (by omega) hi hn
          rw [← Cn_eq]
          exact Cn_lines hh n a b (by omega) (by omega) n2 (rch_nx hh.2 hst (by omega) hr hn)) h (Nat.le_refl _)
        refine this.trans ?_
        congr 1
        funext j
        conv => rhs; rw [Hf, if_neg h0, if_neg hl0, hf]

/-- How many ways lead from the start to the first line down with j columns left behind it. -/
def Fst (h l j : Nat) : Nat := (List.range h).foldl (fun acc i => match nx h l 0 0 (i + 1) with
  | some (a, b) => acc + Hf h j 200 a b
  | none => acc) 0

theorem Fst_more {h l j d : Nat} (hh : 1 ≤ h ∧ h < 5) : Fst h (l + d) (j + d) = Fst h l j := by
  unfold Fst
  have hst : 0 < 4 ^ h := Nat.pow_pos (by omega)
  refine fold_two (I := fun _ x y => x = y) rfl h fun i x y hi hI => ?_
  subst hI
  by_cases h4 : i + 1 = 4
  · by_cases c : 4 ≤ l
    · have e1 : nx h l 0 0 (i + 1) = some (l - 4, 0) := by unfold nx; rw [if_pos h4, if_pos ⟨rfl, c⟩]
      have e2 : nx h (l + d) 0 0 (i + 1) = some (l - 4 + d, 0) := by unfold nx; rw [if_pos h4, if_pos ⟨rfl, by omega⟩, show l + d - 4 = l - 4 + d by omega]
      rw [e1, e2]
      dsimp only
      rw [Hf_more hh _ _ _ hst]
    · have e1 : nx h l 0 0 (i + 1) = none := by unfold nx; rw [if_pos h4, if_neg (fun g => c g.2)]
      rw [e1]
      by_cases c2 : 4 ≤ l + d
      · have e2 : nx h (l + d) 0 0 (i + 1) = some (l + d - 4, 0) := by unfold nx; rw [if_pos h4, if_pos ⟨rfl, c2⟩]
        rw [e2]
        dsimp only
        have : dg 0 0 = 0 := by simp [dg]
        rw [Hf_zero hh 200 (l + d - 4) 0 0 hst hh.1 (by omega)]
        rfl
      · have e2 : nx h (l + d) 0 0 (i + 1) = none := by unfold nx; rw [if_pos h4, if_neg (fun g => c2 g.2)]
        rw [e2]
  · by_cases hp : 0 + (i + 1) ≤ h ∧ clearB 0 0 (i + 1) = true
    · have hd := put_dg hh.2 hst (show i + 1 < 4 by omega) (by omega) hp.1 hp.2
      have hlt : 0 + (i + 1) * onesS 0 (i + 1) < 4 ^ h := (put_zer h hh.2 0 (by omega) 0 (by omega) (i + 1) (by omega) (by omega) hp.1 hp.2).2 hst
      by_cases hc : i + 1 ≤ l
      · have e1 : nx h l 0 0 (i + 1) = some (l, 0 + (i + 1) * onesS 0 (i + 1)) := by unfold nx putS; rw [if_neg h4, if_pos ⟨hp.1, hc, hp.2⟩]; rfl
        have e2 : nx h (l + d) 0 0 (i + 1) = some (l + d, 0 + (i + 1) * onesS 0 (i + 1)) := by unfold nx putS; rw [if_neg h4, if_pos ⟨hp.1, by omega, hp.2⟩]; rfl
        rw [e1, e2]
        dsimp only
        rw [Hf_more hh _ _ _ hlt]
      · have e1 : nx h l 0 0 (i + 1) = none := by unfold nx putS; rw [if_neg h4, if_neg (fun g => hc g.2.1)]; rfl
        rw [e1]
        by_cases hc2 : i + 1 ≤ l + d
        · have e2 : nx h (l + d) 0 0 (i + 1) = some (l + d, 0 + (i + 1) * onesS 0 (i + 1)) := by unfold nx putS; rw [if_neg h4, if_pos ⟨hp.1, hc2, hp.2⟩]; rfl
          rw [e2]
          dsimp only
          have hdr := hd 0 (by omega)
          rw [if_pos ⟨by omega, by omega⟩] at hdr
          rw [Hf_zero hh 200 (l + d) _ 0 hlt hh.1 (by omega)]
          rfl
        · have e2 : nx h (l + d) 0 0 (i + 1) = none := by unfold nx putS; rw [if_neg h4, if_neg (fun g => hc2 g.2.1)]; rfl
          rw [e2]
    · have e1 : nx h l 0 0 (i + 1) = none := by unfold nx putS; rw [if_neg h4, if_neg (fun g => hp ⟨g.1, g.2.2⟩)]; rfl
      have e2 : nx h (l + d) 0 0 (i + 1) = none := by unfold nx putS; rw [if_neg h4, if_neg (fun g => hp ⟨g.1, g.2.2⟩)]; rfl
      rw [e1, e2]

/-- How many whole strips there are. -/
def Fw (h k : Nat) : Nat := Fst h k 0

theorem Fst_far {h l j : Nat} (hh : 1 ≤ h ∧ h < 5) (hj : l < j) : Fst h l j = 0 := by
  unfold Fst
  have hst : 0 < 4 ^ h := Nat.pow_pos (by omega)
  refine fold_zero fun i hi a => ?_
  cases hn : nx h l 0 0 (i + 1) with
  | none => rfl
  | some p =>
    obtain ⟨a', b'⟩ := p
    obtain ⟨n1, n2, n3⟩ := nx_mu hh.2 hst (by omega) hi hn
    show a + _ = a
    rw [Hf_zero hh 200 a' b' 0 n2 hh.1 (by omega)]
    rfl

theorem Fw_zero {h : Nat} (hh : 1 ≤ h ∧ h < 5) : Fw h 0 = 0 := by
  unfold Fw Fst
  refine fold_zero fun i hi a => ?_
  have : nx h 0 0 0 (i + 1) = none := by
    unfold nx putS
    by_cases h4 : i + 1 = 4
    · rw [if_pos h4, if_neg (fun g => by omega)]
    · rw [if_neg h4, if_neg (fun g => by omega)]; rfl
  rw [this]

/-- A strip begins with a whole one. -/
theorem Cn_whole {h l : Nat} (hh : 1 ≤ h ∧ h < 5) (hl : 1 ≤ l ∧ l ≤ 30) : Cn h l 0 = ((List.range l).map fun k => Fw h (k + 1) * Cn h (l - (k + 1)) 0).sum := by
  have hst : 0 < 4 ^ h := Nat.pow_pos (by omega)
  have hf : freeS h 0 = some 0 := by
    have : h = 1 ∨ h = 2 ∨ h = 3 ∨ h = 4 := by omega
    rcases this with rfl | rfl | rfl | rfl <;> decide
  have e1 : Cn h l 0 = sumJ fun j => Fst h l j * Cn h j 0 := by
    rw [Cn_eq, Es_put _ _ _ hh.2 hl.2 hst (by omega) hf]
    exact fold_sumJ (h := h) (left := l) (st := 0) (r := 0) (C := fun a b => Es 1 0 stepN h a b) (H := fun j a b => Hf h j 200 a b) (c := fun j => Cn h j 0) (fun i a b hi hn => by
      obtain ⟨n1, n2, n3⟩ := nx_mu hh.2 hst (by omega) hi hn
      rw [← Cn_eq]
      exact Cn_lines hh 200 a b (Nat.lt_of_lt_of_le (mu_small hh.2 (by omega)) (by omega)) (by omega) n2 (rch_nx hh.2 hst (by omega) rch_zero hn)) h (Nat.le_refl _)
  have e2 : ∀ n, n ≤ 31 → ((List.range n).map fun j => Fst h l j * Cn h j 0).sum = ((List.range (min n l)).map fun j => Fw h (l - j) * Cn h j 0).sum := by
    intro n
    induction n with
    | zero => intro _; simp
    | succ n ih =>
      intro hn
      rw [List.range_succ, List.map_append, List.sum_append, ih (by omega)]
      simp only [List.map_cons, List.map_nil, List.sum_cons, List.sum_nil, Nat.add_zero]
      rcases Nat.lt_trichotomy n l with g | g | g
      · rw [Nat.min_eq_left (by omega), Nat.min_eq_left (by omega), List.range_succ, List.map_append, List.sum_append]
        simp only [List.map_cons, List.map_nil, List.sum_cons, List.sum_nil, Nat.add_zero]
        have := Fst_more (h := h) (l := l - n) (j := 0) (d := n) hh
        rw [show l - n + n = l by omega, Nat.zero_add] at this
        rw [this]
        rfl
      · subst g
        have := Fst_more (h := h) (l := 0) (j := 0) (d := n) hh
        rw [Nat.zero_add] at this
        rw [this, Nat.min_eq_left (by omega), Nat.min_eq_right (by omega)]
        have := Fw_zero hh
        unfold Fw at this
        rw [this, Nat.zero_mul, Nat.add_zero]
      · rw [Fst_far hh g, Nat.min_eq_right (by omega), Nat.min_eq_right (by omega), Nat.zero_mul, Nat.add_zero]
  have e3 := e2 31 (Nat.le_refl _)
  unfold sumJ at e1
  rw [e1, e3, Nat.min_eq_right (by omega)]
  have rev : ∀ (f : Nat → Nat) (n : Nat), ((List.range n).map f).sum = ((List.range n).map fun k => f (n - (k + 1))).sum := by
    intro f n
    induction n with
    | zero => rfl
    | succ n ih =>
      have e1 : ((List.range (n + 1)).map f).sum = ((List.range n).map f).sum + f n := by
        rw [List.range_succ, List.map_append, List.sum_append]
        simp only [List.map_cons, List.map_nil, List.sum_cons, List.sum_nil, Nat.add_zero]
      have e2 : ((List.range (n + 1)).map fun k => f (n + 1 - (k + 1))).sum = f n + ((List.range n).map fun k => f (n - (k + 1))).sum := by
        rw [List.range_succ_eq_map, List.map_cons, List.sum_cons, List.map_map]
        refine (show ∀ a b c d : Nat, a = b → c = d → a + c = b + d from fun a b c d h1 h2 => by rw [h1, h2]) _ _ _ _ (congrArg f (by omega)) (congrArg List.sum (List.map_congr_left fun k _ => ?_))
        show f (n + 1 - (k + 1 + 1)) = f (n - (k + 1))
        exact congrArg f (by omega)
      rw [e1, e2, ih, Nat.add_comm]
  rw [rev]
  refine congrArg List.sum (List.map_congr_left fun k hk => ?_)
  have := List.mem_range.1 hk
  show Fw h (l - (l - (k + 1))) * Cn h (l - (k + 1)) 0 = _
  rw [show l - (l - (k + 1)) = k + 1 by omega]

theorem Fw_le {h l : Nat} (hh : 1 ≤ h ∧ h < 5) (hl : 1 ≤ l ∧ l ≤ 30) : Fw h l ≤ Cn h l 0 := by
  rw [Cn_whole hh hl]
  obtain ⟨m, rfl⟩ : ∃ m, l = m + 1 := ⟨l - 1, by omega⟩
  rw [List.range_succ, List.map_append, List.sum_append]
  simp only [List.map_cons, List.map_nil, List.sum_cons, List.sum_nil, Nat.add_zero, Nat.sub_self]
  have : Cn h 0 0 = 1 := by rw [Cn_eq, Es_zero]
  rw [this, Nat.mul_one]
  exact Nat.le_add_left _ _

/-- What both tell is the number of whole strips. -/
theorem whL_get {h : Nat} (hh : 1 ≤ h ∧ h < 5) : ∀ (n : Nat), n ≤ 30 → ∀ i, i < n → (whL h n).getD i 0 = ((Fw h (i + 1) : Nat) : Int)
  | 0, _, i, hi => by omega
  | n + 1, hn, i, hi => by
    have ih := whL_get hh n (by omega)
    rw [whL, List.getD_eq_getElem?_getD, List.getElem?_append]
    by_cases c : i < n
    · rw [if_pos (by rw [whL_len]; exact c), ← List.getD_eq_getElem?_getD]
      exact ih i c
    · obtain rfl : i = n := by omega
      rw [if_neg (by rw [whL_len]; omega), whL_len, Nat.sub_self]
      show subK _ _ _ _ _ = _
      have hC := Cn_any (h := h) (left := i + 1) (st := 0) hh hn (Nat.pow_pos (by omega))
      have hsum := Cn_whole (h := h) (l := i + 1) hh ⟨by omega, hn⟩
      rw [List.range_succ, List.map_append, List.sum_append] at hsum
      simp only [List.map_cons, List.map_nil, List.sum_cons, List.sum_nil, Nat.add_zero, Nat.sub_self] at hsum
      have h1 : Cn h 0 0 = 1 := by rw [Cn_eq, Es_zero]
      rw [h1, Nat.mul_one] at hsum
      have hp : ∀ k, k ≤ i → ((List.range k).map fun k => Fw h (k + 1) * Cn h (i + 1 - (k + 1)) 0).sum ≤ ((List.range i).map fun k => Fw h (k + 1) * Cn h (i + 1 - (k + 1)) 0).sum := by
        intro k hk
        obtain ⟨d, rfl⟩ : ∃ d, i = k + d := ⟨i - k, by omega⟩
        rw [List.range_add, List.map_append, List.sum_append]
        exact Nat.le_add_right _ _
      have key : ∀ k, k ≤ i → subK (whL h i) (alL h (i + 1)) (i + 1) (IntKind.i64.wrap (Vw 0 h (i + 1) 0)) k = (Cn h (i + 1) 0 : Int) - (((List.range k).map fun k => Fw h (k + 1) * Cn h (i + 1 - (k + 1)) 0).sum : Nat) := by
        intro k
        induction k with
        | zero =>
          intro _
          rw [subK, Vw_Cn, wrap_i64 _ (by omega) (by omega)]
          simp
        | succ k ihk =>
          intro hk
          have h2 := hp (k + 1) hk
          have h3 := hp k (by omega)
          rw [subK, ihk (by omega), ih k (by omega), alL_get (by omega), show i + 1 - k - 2 + 1 = i + 1 - (k + 1) by omega, Vw_Cn]
          have hC2 := Cn_any (h := h) (left := i + 1 - (k + 1)) (st := 0) hh (by omega) (Nat.pow_pos (by omega))
          rw [wrap_i64 (Cn h (i + 1 - (k + 1)) 0) (by omega) (by omega)]
          rw [List.range_succ, List.map_append, List.sum_append] at h2 ⊢
          simp only [List.map_cons, List.map_nil, List.sum_cons, List.sum_nil, Nat.add_zero] at h2 ⊢
          rw [← Int.natCast_mul]
          generalize Fw h (k + 1) * Cn h (i + 1 - (k + 1)) 0 = q at *
          rw [wrap_i64 (q : Int) (by omega) (by omega), wrap_i64 _ (by omega) (by omega)]
          omega
      rw [key i (Nat.le_refl _)]
      omega

end Go.Proofs.Ytnmeehiahlfgaaa

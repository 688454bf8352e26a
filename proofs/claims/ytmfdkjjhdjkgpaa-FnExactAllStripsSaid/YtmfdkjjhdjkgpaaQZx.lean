/- Strips: how many they are at most; plain. -/
import Derived.Test.YtmfdkjjhdjkgpaaQZz
import Derived.Test.YtmfdkjjhdjkgpaaQNst
namespace Go.Proofs.Ytmfdkjjhdjkgpaa
open Go Go.RowKit
set_option maxRecDepth 10000
set_option linter.unusedSimpArgs false

def stepN (_ a b : Nat) : Nat := a + b

theorem Cn_ex : ∃ f : Nat → Nat → Nat → Nat, ∀ h left st, f h left st = Es 1 0 stepN h left st := ⟨_, fun _ _ _ => rfl⟩

/-- How many ways there are, as a plain number. -/
noncomputable def Cn : Nat → Nat → Nat → Nat := Classical.choose Cn_ex

theorem Cn_eq (h left st : Nat) : Cn h left st = Es 1 0 stepN h left st := Classical.choose_spec Cn_ex h left st

theorem Vw_Cn (h left st : Nat) : Vw 0 h left st = (Cn h left st : Int) := by
  rw [Vw_eq, Cn_eq]
  have : Es (1 : Int) 0 (stepV 0) h left st = Es 1 0 (fun _ a b => a + b) h left st := Ev_step_congr (fun i a b => by simp [stepV]) _ _ _
  rw [this]
  exact (Es_hom (fun n : Nat => (n : Int)) 1 0 stepN 1 0 (fun _ a b => a + b) rfl rfl (fun i a b => by simp [stepN])).symm

/-- What bounds the ways at a state: 2000 times as many, over 3 to the columns left. -/
def potT : Nat → List Nat
  | 1 => [2000, 1334, 1112, 1038]
  | 2 => [2000, 1180, 906, 815, 1180, 924, 650, 559, 906, 650, 565, 473, 815, 559, 473, 445]
  | 3 => [2000, 1278, 1010, 840, 917, 834, 593, 504, 556, 473, 445, 365, 436, 352, 325, 315, 1278, 834, 593, 504, 834, 751, 510, 420, 473, 389, 362, 281, 352, 269, 241, 232, 1010, 593, 445, 365, 593, 510, 362, 281, 445, 362, 334, 254, 325, 241, 213, 204, 840, 504, 365, 315, 504, 420, 281, 232, 365, 281, 254, 204, 315, 232, 204, 195]
  | 4 => [2000, 1323, 982, 718, 1016, 1014, 674, 485, 574, 572, 570, 382, 317, 315, 313, 313, 1018, 674, 448, 334, 674, 672, 446, 332, 346, 344, 343, 229, 198, 196, 195, 195, 577, 346, 232, 156, 346, 344, 229, 154, 232, 229, 229, 153, 122, 120, 119, 119, 321, 199, 123, 84, 199, 197, 120, 82, 123, 120, 120, 81, 84, 82, 81, 81, 1323, 901, 674, 485, 674, 672, 446, 332, 346, 344, 343, 229, 198, 196, 195, 195, 1014, 672, 446, 332, 672, 669, 444, 330, 344, 341, 341, 227, 196, 194, 193, 193, 572, 344, 229, 154, 344, 342, 227, 152, 229, 227, 226, 151, 120, 118, 117, 117, 316, 197, 120, 82, 197, 195, 118, 80, 120, 118, 117, 79, 82, 80, 79, 79, 982, 674, 532, 382, 448, 446, 305, 229, 232, 229, 229, 153, 122, 120, 119, 119, 674, 446, 305, 229, 446, 444, 303, 227, 229, 227, 226, 151, 120, 118, 117, 117, 570, 343, 229, 153, 343, 341, 226, 151, 229, 226, 226, 150, 119, 117, 116, 116, 314, 196, 120, 81, 196, 193, 117, 79, 120, 117, 117, 78, 81, 79, 78, 78, 718, 485, 382, 287, 334, 332, 229, 182, 156, 154, 153, 106, 84, 82, 81, 81, 485, 332, 229, 182, 332, 330, 227, 180, 154, 152, 151, 104, 82, 80, 79, 79, 382, 229, 153, 106, 229, 227, 151, 104, 153, 151, 150, 103, 81, 79, 78, 78, 313, 195, 119, 81, 195, 193, 117, 79, 119, 117, 116, 78, 81, 79, 78, 78]
  | _ => []

def pot (h st : Nat) : Nat := (potT h).getD st 0

def chi (h st r i : Nat) : Nat := if i + 1 = 4 then (if st = 0 then pot h 0 else 0) else if r + (i + 1) ≤ h ∧ clearB st r (i + 1) = true then 81 * pot h (st + (i + 1) * onesS r (i + 1)) else 0

def potChk (h st : Nat) : Bool := match freeS h st with
  | none => decide (pot h (st - onesS 0 h) ≤ 3 * pot h st)
  | some r => decide (((List.range h).map (chi h st r)).sum ≤ 81 * pot h st)

theorem pot_all : ((List.range 5).all fun h => (List.range 256).all fun st => !(decide (1 ≤ h) && decide (st < 4 ^ h)) || potChk h st) = true := by decide +kernel

theorem pot_ok {h st : Nat} (hh : 1 ≤ h ∧ h < 5) (hst : st < 4 ^ h) : potChk h st = true := by
  have := pot_all
  simp only [List.all_eq_true, List.mem_range] at this
  have := this h hh.2 st (Nat.lt_of_lt_of_le hst (pow_le256 hh.2))
  simpa [hh.1, hst] using this

theorem pot_zero {h : Nat} (hh : 1 ≤ h ∧ h < 5) : pot h 0 = 2000 := by
  have : h = 1 ∨ h = 2 ∨ h = 3 ∨ h = 4 := by omega
  rcases this with rfl | rfl | rfl | rfl <;> decide

theorem fold_le {h left st r : Nat} {C : Nat → Nat → Nat} {B M : Nat} {f : Nat → Nat} (hb : ∀ i a b, i < h → nx h left st r (i + 1) = some (a, b) → M * C a b ≤ B * f i) : ∀ (l : List Nat) (acc : Nat), (∀ i ∈ l, i < h) →
    M * (l.foldl (fun acc i => match nx h left st r (i + 1) with
      | some (l, s) => stepN (i + 1) acc (C l s)
      | none => acc) acc) ≤ M * acc + B * (l.map f).sum
  | [], acc, _ => by simp
  | i :: l, acc, hl => by
    rw [List.foldl_cons, List.map_cons, List.sum_cons, Nat.mul_add]
    have hi := hl i (by simp)
    refine Nat.le_trans (fold_le hb l _ (fun j hj => hl j (by simp [hj]))) ?_
    cases hn : nx h left st r (i + 1) with
    | some p =>
      obtain ⟨a, b⟩ := p
      have := hb i a b hi hn
      show M * (acc + C a b) + _ ≤ _
      rw [Nat.mul_add]; omega
    | none =>
      show M * acc + _ ≤ _
      omega

theorem Cn_le {h : Nat} (hh : 1 ≤ h ∧ h < 5) : ∀ (n left st : Nat), mu h left st < n → left ≤ 30 → st < 4 ^ h → 2000 * Cn h left st ≤ pot h st * 3 ^ left
  | 0, _, _, hm, _, _ => by omega
  | n + 1, left, st, hm, hl, hst => by
    by_cases h0 : left = 0
    · subst h0
      rw [Cn_eq]
      unfold Es
      rw [Ev, if_pos rfl]
      split
      · rename_i hz; subst hz; rw [pot_zero hh]; simp
      · simp
    have hok := pot_ok hh hst
    unfold potChk at hok
    cases hf : freeS h st with
    | none =>
      have h256 := Nat.lt_of_lt_of_le hst (pow_le256 hh.2)
      obtain ⟨s1, s2⟩ := shift_lt h hh.2 st h256 hst hf
      rw [hf] at hok
      have hok' : pot h (st - onesS 0 h) ≤ 3 * pot h st := of_decide_eq_true hok
      rw [Cn_eq, Es_shift _ _ _ hh.2 hl hst h0 hf, ← Cn_eq]
      have ih := Cn_le hh n (left - 1) (st - onesS 0 h) (by
        have hz := zer_le h (st - onesS 0 h)
        have e : (h + 1) * left = (h + 1) * (left - 1) + (h + 1) := by rw [← Nat.mul_succ]; congr 1; omega
        unfold mu at hm ⊢
        omega) (by omega) s2
      refine Nat.le_trans ih ?_
      have e : 3 ^ left = 3 * 3 ^ (left - 1) := by rw [← Nat.pow_succ']; congr 1; omega
      rw [e, ← Nat.mul_assoc]
      refine Nat.mul_le_mul_right _ ?_
      omega
    | some r =>
      rw [hf] at hok
      have hok' : ((List.range h).map (chi h st r)).sum ≤ 81 * pot h st := of_decide_eq_true hok
      rw [Cn_eq, Es_put _ _ _ hh.2 hl hst h0 hf]
      have hfold := fold_le (h := h) (left := left) (st := st) (r := r) (C := fun a b => Es 1 0 stepN h a b) (B := 3 ^ left) (M := 81 * 2000) (f := chi h st r) (fun i a b hi hn => by
        obtain ⟨n1, n2, n3⟩ := nx_mu hh.2 hst (by omega) (by omega) hn
        have ih := Cn_le hh n a b (by omega) (by omega) n2
        rw [Cn_eq] at ih
        rw [Nat.mul_assoc]
        refine Nat.le_trans (Nat.mul_le_mul_left 81 ih) ?_
        unfold nx at hn
        unfold chi
        by_cases h4 : i + 1 = 4
        · rw [if_pos h4] at hn ⊢
          split at hn
          · rename_i hc
            simp only [Option.some.injEq, Prod.mk.injEq] at hn
            obtain ⟨rfl, rfl⟩ := hn
            obtain ⟨rfl, hc⟩ := hc
            rw [if_pos rfl, Nat.mul_comm (3 ^ left)]
            have e : 3 ^ left = 81 * 3 ^ (left - 4) := by
              rw [show (81 : Nat) = 3 ^ 4 by decide, ← Nat.pow_add]; congr 1; omega
            rw [e, ← Nat.mul_assoc, ← Nat.mul_assoc, Nat.mul_comm 81]
            exact Nat.le_refl _
          · cases hn
        · rw [if_neg h4] at hn ⊢
          simp only [Option.map_eq_some_iff, Prod.mk.injEq] at hn
          obtain ⟨s, hs, rfl, rfl⟩ := hn
          unfold putS at hs
          split at hs
          · rename_i hc
            obtain ⟨c1, c2, c3⟩ := hc
            obtain rfl := Option.some.inj hs
            rw [if_pos ⟨c1, c3⟩, Nat.mul_comm (3 ^ left), Nat.mul_assoc]
            exact Nat.le_refl _
          · cases hs) (List.range h) 0 (fun i hi => List.mem_range.1 hi)
      have h1 : 81 * 2000 * ((List.range h).foldl (fun acc i => match nx h left st r (i + 1) with
          | some (l, s) => stepN (i + 1) acc (Es 1 0 stepN h l s)
          | none => acc) 0) ≤ 3 ^ left * (81 * pot h st) := by
        refine Nat.le_trans hfold ?_
        simp only [Nat.mul_zero, Nat.zero_add]
        exact Nat.mul_le_mul_left _ hok'
      rw [show 3 ^ left * (81 * pot h st) = 81 * (pot h st * 3 ^ left) by rw [Nat.mul_left_comm, Nat.mul_comm (3 ^ left)], Nat.mul_assoc] at h1
      exact Nat.le_of_mul_le_mul_left h1 (by omega)

theorem pot_le_all : ((List.range 5).all fun h => (List.range 256).all fun st => decide (pot h st ≤ 2000)) = true := by decide +kernel

theorem pot_le {h st : Nat} (hh : h < 5) (hst : st < 256) : pot h st ≤ 2000 := by
  have := pot_le_all
  simp only [List.all_eq_true, List.mem_range, decide_eq_true_eq] at this
  exact this h hh st hst

theorem Cn_any {h left st : Nat} (hh : 1 ≤ h ∧ h < 5) (hl : left ≤ 30) (hst : st < 4 ^ h) : Cn h left st ≤ 205891132094649 := by
  have := Cn_le hh 1000 left st (Nat.lt_of_lt_of_le (mu_small hh.2 hl) (by omega)) hl hst
  have h1 := pot_le (st := st) hh.2 (Nat.lt_of_lt_of_le hst (pow_le256 hh.2))
  have h2 : (3 : Nat) ^ left ≤ 3 ^ 30 := Nat.pow_le_pow_right (by omega) hl
  have h3 : 2000 * Cn h left st ≤ 2000 * 3 ^ left := Nat.le_trans this (Nat.mul_le_mul_right _ h1)
  have h4 := Nat.le_of_mul_le_mul_left h3 (by omega)
  exact Nat.le_trans h4 (Nat.le_trans h2 (by decide))

end Go.Proofs.Ytmfdkjjhdjkgpaa

namespace Go.Proofs.Ytmfdkjjhdjkgpaa
open Go Go.RowKit
set_option maxRecDepth 10000
set_option linter.unusedSimpArgs false

theorem Cn_pos {h : Nat} (hh : 1 ≤ h ∧ h < 5) : ∀ (n left st : Nat), mu h left st < n → left ≤ 30 → st < 4 ^ h → Rch h left st → 0 < Cn h left st
  | 0, _, _, hm, _, _, _ => by omega
  | n + 1, left, st, hm, hl, hst, hr => by
    by_cases h0 : left = 0
    · subst h0
      obtain rfl := rch_end hh.2 hst hr
      rw [Cn_eq, Es_zero]; exact Nat.one_pos
    · cases hf : freeS h st with
      | none =>
        have h256 := Nat.lt_of_lt_of_le hst (pow_le256 hh.2)
        obtain ⟨s1, s2⟩ := shift_lt h hh.2 st h256 hst hf
        rw [Cn_eq, Es_shift _ _ _ hh.2 hl hst h0 hf, ← Cn_eq]
        refine Cn_pos hh n _ _ ?_ (by omega) s2 (rch_shift hh.2 hst hf hr)
        have hz := zer_le h (st - onesS 0 h)
        have e : (h + 1) * left = (h + 1) * (left - 1) + (h + 1) := by rw [← Nat.mul_succ]; congr 1; omega
        unfold mu at hm ⊢
        omega
      | some y =>
        obtain ⟨s, hs⟩ := nx_one h0 hf
        obtain ⟨n1, n2, n3⟩ := nx_mu hh.2 hst (by omega) hh.1 hs
        have ih := Cn_pos hh n left s (by omega) hl n2 (rch_nx hh.2 hst (by omega) hr hs)
        rw [Cn_eq, Es_put _ _ _ hh.2 hl hst h0 hf]
        have mono : ∀ (l : List Nat) (acc : Nat), acc ≤ l.foldl (fun acc i => match nx h left st y (i + 1) with
            | some (l, s) => stepN (i + 1) acc (Es 1 0 stepN h l s)
            | none => acc) acc := by
          intro l
          induction l with
          | nil => exact fun _ => Nat.le_refl _
          | cons i l ih2 =>
            intro acc
            rw [List.foldl_cons]
            refine Nat.le_trans ?_ (ih2 _)
            split
            · exact Nat.le_add_right _ _
            · exact Nat.le_refl _
        obtain ⟨k, hk⟩ : ∃ k, h = k + 1 := ⟨h - 1, by omega⟩
        have e : List.range h = 0 :: (List.range k).map Nat.succ := by rw [hk, List.range_succ_eq_map]
        rw [e, List.foldl_cons, hs]
        refine Nat.lt_of_lt_of_le ?_ (mono _ _)
        rw [Cn_eq] at ih
        show 0 < 0 + Es 1 0 stepN h left s
        omega

end Go.Proofs.Ytmfdkjjhdjkgpaa

/- Strips: how many they are at most; plain. -/
import Derived.Test.YtnmeehiahlfgaaaQZz
import Derived.Test.YtnmeehiahlfgaaaQNst
namespace Go.Proofs.Ytnmeehiahlfgaaa
open Go Go.RowKit
set_option maxRecDepth 10000
set_option linter.unusedSimpArgs false

def stepN (_ a b : Nat) : Nat := a + b

theorem Cn_ex : ∃ f : Nat → Nat → Nat → Nat, ∀ h left st, f h left st = Es 1 0 stepN h left st := ⟨_, fun _ _ _ => rfl⟩

/-- How many ways there are, as a plain number. -/
noncomputable def Cn : Nat → Nat → Nat → Nat := Classical.choose Cn_ex

theorem Cn_eq (h left st : Nat) : Cn h left st = Es 1 0 stepN h left st := Classical.choose_spec Cn_ex h left st

theorem Vw_Cn (h left st : Nat) : Vw 0 h left st = (Cn h left st : Int) := by
  rw [Vw_eq, Cn_eq]
  have : Es (1 : Int) 0 (stepV 0) h left st = Es 1 0 (fun _ a b => a + b) h left st := Ev_step_congr (fun i a b => by simp [stepV]) _ _ _
  rw [this]
  exact (Es_hom (fun n : Nat => (n : Int)) 1 0 stepN 1 0 (fun _ a b => a + b) rfl rfl (fun i a b => by simp [stepN])).symm

def stepQ (_ : Nat) (a b : Nat × Nat) : Nat × Nat := (a.1 + b.1, a.2 + (b.1 + b.2))

/-- How many ways there are, and squares in all of them. -/
noncomputable def Qn (h left st : Nat) : Nat × Nat := Es (1, 0) (0, 0) stepQ h left st

theorem Qn_fst (h left st : Nat) : (Qn h left st).1 = Cn h left st := by
  rw [Cn_eq]
  exact Es_hom Prod.fst (1, 0) (0, 0) stepQ 1 0 stepN rfl rfl (fun i a b => rfl)

/-- What bounds the ways at a state: 2000 times as many, over 3 to the columns left. -/
def potT : Nat → List Nat
  | 1 => [2000, 1334, 1112, 1038]
  | 2 => [2000, 1180, 906, 815, 1180, 924, 650, 559, 906, 650, 565, 473, 815, 559, 473, 445]
  | 3 => [2000, 1278, 1010, 840, 917, 834, 593, 504, 556, 473, 445, 365, 436, 352, 325, 315, 1278, 834, 593, 504, 834, 751, 510, 420, 473, 389, 362, 281, 352, 269, 241, 232, 1010, 593, 445, 365, 593, 510, 362, 281, 445, 362, 334, 254, 325, 241, 213, 204, 840, 504, 365, 315, 504, 420, 281, 232, 365, 281, 254, 204, 315, 232, 204, 195]
  | 4 => [2000, 1323, 982, 718, 1016, 1014, 674, 485, 574, 572, 570, 382, 317, 315, 313, 313, 1018, 674, 448, 334, 674, 672, 446, 332, 346, 344, 343, 229, 198, 196, 195, 195, 577, 346, 232, 156, 346, 344, 229, 154, 232, 229, 229, 153, 122, 120, 119, 119, 321, 199, 123, 84, 199, 197, 120, 82, 123, 120, 120, 81, 84, 82, 81, 81, 1323, 901, 674, 485, 674, 672, 446, 332, 346, 344, 343, 229, 198, 196, 195, 195, 1014, 672, 446, 332, 672, 669, 444, 330, 344, 341, 341, 227, 196, 194, 193, 193, 572, 344, 229, 154, 344, 342, 227, 152, 229, 227, 226, 151, 120, 118, 117, 117, 316, 197, 120, 82, 197, 195, 118, 80, 120, 118, 117, 79, 82, 80, 79, 79, 982, 674, 532, 382, 448, 446, 305, 229, 232, 229, 229, 153, 122, 120, 119, 119, 674, 446, 305, 229, 446, 444, 303, 227, 229, 227, 226, 151, 120, 118, 117, 117, 570, 343, 229, 153, 343, 341, 226, 151, 229, 226, 226, 150, 119, 117, 116, 116, 314, 196, 120, 81, 196, 193, 117, 79, 120, 117, 117, 78, 81, 79, 78, 78, 718, 485, 382, 287, 334, 332, 229, 182, 156, 154, 153, 106, 84, 82, 81, 81, 485, 332, 229, 182, 332, 330, 227, 180, 154, 152, 151, 104, 82, 80, 79, 79, 382, 229, 153, 106, 229, 227, 151, 104, 153, 151, 150, 103, 81, 79, 78, 78, 313, 195, 119, 81, 195, 193, 117, 79, 119, 117, 116, 78, 81, 79, 78, 78]
  | _ => []

def pot (h st : Nat) : Nat := (potT h).getD st 0

def chi (h st r i : Nat) : Nat := if i + 1 = 4 then (if st = 0 then pot h 0 else 0) else if r + (i + 1) ≤ h ∧ clearB st r (i + 1) = true then 81 * pot h (st + (i + 1) * onesS r (i + 1)) else 0

def potChk (h st : Nat) : Bool := match freeS h st with
  | none => decide (pot h (st - onesS 0 h) ≤ 3 * pot h st)
  | some r => decide (((List.range h).map (chi h st r)).sum ≤ 81 * pot h st)

theorem pot_all : ((List.range 5).all fun h => (List.range 256).all fun st => !(decide (1 ≤ h) && decide (st < 4 ^ h)) || potChk h st) = true := by decide +kernel

theorem pot_ok {h st : Nat} (hh : 1 ≤ h ∧ h < 5) (hst : st < 4 ^ h) : potChk h st = true := by
  have := pot_all
  simp only [List.all_eq_true, List.mem_range] at this
  have := this h hh.2 st (Nat.lt_of_lt_of_le hst (pow_le256 hh.2))
  simpa [hh.1, hst] using this

theorem pot_zero {h : Nat} (hh : 1 ≤ h ∧ h < 5) : pot h 0 = 2000 := by
  have : h = 1 ∨ h = 2 ∨ h = 3 ∨ h = 4 := by omega
  rcases this with rfl | rfl | rfl | rfl <;> decide

theorem fold_le {h left st r : Nat} {C : Nat → Nat → Nat} {B M : Nat} {f : Nat → Nat} (hb : ∀ i a b, i < h → nx h left st r (i + 1) = some (a, b) → M * C a b ≤ B * f i) : ∀ (l : List Nat) (acc : Nat), (∀ i ∈ l, i < h) →
    M * (l.foldl (fun acc i => match nx h left st r (i + 1) with
      | some (l, s) => stepN (i + 1) acc (C l s)
      | none => acc) acc) ≤ M * acc + B * (l.map f).sum
  | [], acc, _ => by simp
  | i :: l, acc, hl => by
    rw [List.foldl_cons, List.map_cons, List.sum_cons, Nat.mul_add]
    have hi := hl i (by simp)
    refine Nat.le_trans (fold_le hb l _ (fun j hj => hl j (by simp [hj]))) ?_
    cases hn : nx h left st r (i + 1) with
    | some p =>
      obtain ⟨a, b⟩ := p
      have := hb i a b hi hn
      show M * (acc + C a b) + _ ≤ _
      rw [Nat.mul_add]; omega
    | none =>
      show M * acc + _ ≤ _
      omega

theorem Cn_le {h : Nat} (hh : 1 ≤ h ∧ h < 5) : ∀ (n left st : Nat), mu h left st < n → left ≤ 30 → st < 4 ^ h → 2000 * Cn h left st ≤ pot h st * 3 ^ left
  | 0, _, _, hm, _, _ => by omega
  | n + 1, left, st, hm, hl, hst => by
    by_cases h0 : left = 0
    · subst h0
      rw [Cn_eq]
      unfold Es
      rw [Ev, if_pos rfl]
      split
      · rename_i hz; subst hz; rw [pot_zero hh]; simp
      · simp
    have hok := pot_ok hh hst
    unfold potChk at hok
    cases hf : freeS h st with
    | none =>
      have h256 := Nat.lt_of_lt_of_le hst (pow_le256 hh.2)
      obtain ⟨s1, s2⟩ := shift_lt h hh.2 st h256 hst hf
      rw [hf] at hok
      have hok' : pot h (st - onesS 0 h) ≤ 3 * pot h st := of_decide_eq_true hok
      rw [Cn_eq, Es_shift _ _ _ hh.2 hl hst h0 hf, ← Cn_eq]
      have ih := Cn_le hh n (left - 1) (st - onesS 0 h) (by
        have hz := zer_le h (st - onesS 0 h)
        have e : (h + 1) * left = (h + 1) * (left - 1) + (h + 1) := by rw [← Nat.mul_succ]; congr 1; omega
        unfold mu at hm ⊢
        omega) (by omega) s2
      refine Nat.le_trans ih ?_
      have e : 3 ^ left = 3 * 3 ^ (left - 1) := by rw [← Nat.pow_succ']; congr 1; omega
      rw [e, ← Nat.mul_assoc]
      refine Nat.mul_le_mul_right _ ?_
      omega
    | some r =>
      rw [hf] at hok
      have hok' : ((List.range h).map (chi h st r)).sum ≤ 81 * pot h st := of_decide_eq_true hok
      rw [Cn_eq, Es_put _ _ _ hh.2 hl hst h0 hf]
      have hfold := fold_le (h := h) (left := left) (st := st) (r := r) (C := fun a b => Es 1 0 stepN h a b) (B := 3 ^ left) (M := 81 * 2000) (f := chi h st r) (fun i a b hi hn => by
        obtain ⟨n1, n2, n3⟩ := nx_mu hh.2 hst (by omega) (by omega) hn
        have ih := Cn_le hh n a b (by omega) (by omega) n2
        rw [Cn_eq] at ih
        rw [Nat.mul_assoc]
        refine Nat.le_trans (Nat.mul_le_mul_left 81 ih) ?_
        unfold nx at hn
        unfold chi
        by_cases h4 : i + 1 = 4
        · rw [if_pos h4] at hn ⊢
          split at hn
          · rename_i hc
            simp only [Option.some.injEq, Prod.mk.injEq] at hn
            obtain ⟨rfl, rfl⟩ := hn
            obtain ⟨rfl, hc⟩ := hc
            rw [if_pos rfl, Nat.mul_comm (3 ^ left)]
            have e : 3 ^ left = 81 * 3 ^ (left - 4) := by
              rw [show (81 : Nat) = 3 ^ 4 by decide, ← Nat.pow_add]; congr 1; omega
            rw [e, ← Nat.mul_assoc, ← Nat.mul_assoc, Nat.mul_comm 81]
            exact Nat.le_refl _
          · cases hn
        · rw [if_neg h4] at hn ⊢
          simp only [Option.map_eq_some_iff, Prod.mk.injEq] at hn
          obtain ⟨s, hs, rfl, rfl⟩ := hn
          unfold putS at hs
          split at hs
          · rename_i hc
            obtain ⟨c1, c2, c3⟩ := hc
            obtain rfl := Option.some.inj hs
            rw [if_pos ⟨c1, c3⟩, Nat.mul_comm (3 ^ left), Nat.mul_assoc]
            exact Nat.le_refl _
          · cases hs) (List.range h) 0 (fun i hi => List.mem_range.1 hi)
      have h1 : 81 * 2000 * ((List.range h).foldl (fun acc i => match nx h left st r (i + 1) with
          | some (l, s) => stepN (i + 1) acc (Es 1 0 stepN h l s)
          | none => acc) 0) ≤ 3 ^ left * (81 * pot h st) := by
        refine Nat.le_trans hfold ?_
        simp only [Nat.mul_zero, Nat.zero_add]
        exact Nat.mul_le_mul_left _ hok'
      rw [show 3 ^ left * (81 * pot h st) = 81 * (pot h st * 3 ^ left) by rw [Nat.mul_left_comm, Nat.mul_comm (3 ^ left)], Nat.mul_assoc] at h1
      exact Nat.le_of_mul_le_mul_left h1 (by omega)

/-- No more than 3 to the 30. -/
theorem Cn_small {h l : Nat} (hh : 1 ≤ h ∧ h < 5) (hl : l ≤ 30) : Cn h l 0 ≤ 205891132094649 := by
  have := Cn_le hh 1000 l 0 (Nat.lt_of_lt_of_le (mu_small hh.2 hl) (by omega)) hl (Nat.pow_pos (by omega))
  rw [pot_zero hh] at this
  have h1 := Nat.le_of_mul_le_mul_left this (by omega)
  have h2 : (3 : Nat) ^ l ≤ 3 ^ 30 := Nat.pow_le_pow_right (by omega) hl
  exact Nat.le_trans h1 (Nat.le_trans h2 (by decide))

theorem Qn_le {h : Nat} (hh : 1 ≤ h ∧ h < 5) : ∀ (n left st : Nat), mu h left st < n → left ≤ 30 → st < 4 ^ h → Rch h left st → (Qn h left st).2 ≤ clS h left st * (Qn h left st).1
  | 0, _, _, hm, _, _, _ => by omega
  | n + 1, left, st, hm, hl, hst, hr => by
    by_cases h0 : left = 0
    · subst h0
      obtain rfl := rch_end hh.2 hst hr
      unfold Qn
      rw [Es_zero]; exact Nat.zero_le _
    cases hf : freeS h st with
    | none =>
      have h256 := Nat.lt_of_lt_of_le hst (pow_le256 hh.2)
      obtain ⟨s1, s2⟩ := shift_lt h hh.2 st h256 hst hf
      have e1 : Qn h left st = Qn h (left - 1) (st - onesS 0 h) := by unfold Qn; exact Es_shift _ _ _ hh.2 hl hst h0 hf
      rw [e1]
      have ih := Qn_le hh n (left - 1) (st - onesS 0 h) (by
        have hz := zer_le h (st - onesS 0 h)
        have e : (h + 1) * left = (h + 1) * (left - 1) + (h + 1) := by rw [← Nat.mul_succ]; congr 1; omega
        unfold mu at hm ⊢
        omega) (by omega) s2 (rch_shift hh.2 hst hf hr)
      exact Nat.le_trans ih (Nat.mul_le_mul_right _ (clS_shift hh.2 hst hf hr))
    | some r =>
      have e1 : Qn h left st = (List.range h).foldl (fun acc i => match nx h left st r (i + 1) with
          | some (l, s) => stepQ (i + 1) acc (Es (1, 0) (0, 0) stepQ h l s)
          | none => acc) (0, 0) := by unfold Qn; exact Es_put _ _ _ hh.2 hl hst h0 hf
      have key : ∀ (l : List Nat) (acc : Nat × Nat), (∀ i ∈ l, i < h) → acc.2 ≤ clS h left st * acc.1 → (l.foldl (fun acc i => match nx h left st r (i + 1) with
          | some (l, s) => stepQ (i + 1) acc (Es (1, 0) (0, 0) stepQ h l s)
          | none => acc) acc).2 ≤ clS h left st * (l.foldl (fun acc i => match nx h left st r (i + 1) with
          | some (l, s) => stepQ (i + 1) acc (Es (1, 0) (0, 0) stepQ h l s)
          | none => acc) acc).1 := by
        intro l
        induction l with
        | nil => exact fun _ _ h => h
        | cons i l ih =>
          intro acc hi hacc
          rw [List.foldl_cons]
          refine ih _ (fun j hj => hi j (by simp [hj])) ?_
          cases hn : nx h left st r (i + 1) with
          | some p =>
            obtain ⟨a, b⟩ := p
            have hih := hi i (by simp)
            obtain ⟨n1, n2, n3⟩ := nx_mu hh.2 hst (by omega) (by omega) hn
            have q := Qn_le hh n a b (by omega) (by omega) n2 (rch_nx hh.2 hst (by omega) hr hn)
            have c := clS_nx hh.2 hst (by omega) (by omega) hr hf h0 hn
            show acc.2 + ((Qn h a b).1 + (Qn h a b).2) ≤ clS h left st * (acc.1 + (Qn h a b).1)
            rw [Nat.mul_add]
            have : (clS h a b + 1) * (Qn h a b).1 ≤ clS h left st * (Qn h a b).1 := Nat.mul_le_mul_right _ c
            rw [Nat.add_mul] at this
            omega
          | none => exact hacc
      rw [e1]
      exact key _ _ (fun i hi => List.mem_range.1 hi) (Nat.zero_le _)

theorem Qn_small {h l : Nat} (hh : 1 ≤ h ∧ h < 5) (hl : l ≤ 30) : (Qn h l 0).2 ≤ 24706935851357880 := by
  have h1 := Qn_le hh 1000 l 0 (Nat.lt_of_lt_of_le (mu_small hh.2 hl) (by omega)) hl (Nat.pow_pos (by omega)) rch_zero
  rw [clS_zero, Qn_fst] at h1
  have h2 := Cn_small hh hl
  have h3 : h * l ≤ 4 * 30 := Nat.mul_le_mul (by omega) hl
  refine Nat.le_trans h1 (Nat.le_trans (Nat.mul_le_mul h3 h2) (by decide))

theorem pot_le_all : ((List.range 5).all fun h => (List.range 256).all fun st => decide (pot h st ≤ 2000)) = true := by decide +kernel

theorem pot_le {h st : Nat} (hh : h < 5) (hst : st < 256) : pot h st ≤ 2000 := by
  have := pot_le_all
  simp only [List.all_eq_true, List.mem_range, decide_eq_true_eq] at this
  exact this h hh st hst

theorem Cn_any {h left st : Nat} (hh : 1 ≤ h ∧ h < 5) (hl : left ≤ 30) (hst : st < 4 ^ h) : Cn h left st ≤ 205891132094649 := by
  have := Cn_le hh 1000 left st (Nat.lt_of_lt_of_le (mu_small hh.2 hl) (by omega)) hl hst
  have h1 := pot_le (st := st) hh.2 (Nat.lt_of_lt_of_le hst (pow_le256 hh.2))
  have h2 : (3 : Nat) ^ left ≤ 3 ^ 30 := Nat.pow_le_pow_right (by omega) hl
  have h3 : 2000 * Cn h left st ≤ 2000 * 3 ^ left := Nat.le_trans this (Nat.mul_le_mul_right _ h1)
  have h4 := Nat.le_of_mul_le_mul_left h3 (by omega)
  exact Nat.le_trans h4 (Nat.le_trans h2 (by decide))

end Go.Proofs.Ytnmeehiahlfgaaa

namespace Go.Proofs.Ytnmeehiahlfgaaa
open Go Go.RowKit
set_option maxRecDepth 10000
set_option linter.unusedSimpArgs false

def padN (a : List Nat) (n : Nat) : List Nat := a ++ List.replicate (n - a.length) 0

def addN (p o : List Nat) : Nat → List Nat
  | 0 => p
  | k + 1 => (addN p o k).set (k + 1) ((addN p o k).getD (k + 1) 0 + o.getD k 0)

def stepLN (_ : Nat) (a v : List Nat) : List Nat := addN (padN a (v.length + 1)) v v.length

theorem Bn_ex : ∃ f : Nat → Nat → Nat → List Nat, ∀ h left st, f h left st = Es [1] [] stepLN h left st := ⟨_, fun _ _ _ => rfl⟩

/-- How many ways with each number of squares, plain. -/
noncomputable def Bn : Nat → Nat → Nat → List Nat := Classical.choose Bn_ex

theorem Bn_eq (h left st : Nat) : Bn h left st = Es [1] [] stepLN h left st := Classical.choose_spec Bn_ex h left st

def wl (l : List Nat) : List Int := l.map fun n : Nat => IntKind.i64.wrap (n : Int)

theorem wl_len (l : List Nat) : (wl l).length = l.length := by simp [wl]

theorem wrap_zero : IntKind.i64.wrap 0 = 0 := by decide

theorem wl_getD (l : List Nat) (i : Nat) : (wl l).getD i 0 = IntKind.i64.wrap ((l.getD i 0 : Nat) : Int) := by
  unfold wl List.getD
  rw [List.getElem?_map]
  cases l[i]? with
  | none => exact wrap_zero.symm
  | some x => rfl

theorem addN_len (p o : List Nat) : ∀ k, (addN p o k).length = p.length
  | 0 => rfl
  | k + 1 => by unfold addN; rw [List.length_set, addN_len p o k]

theorem wl_add (p o : List Nat) : ∀ k, addK (wl p) (wl o) k = wl (addN p o k)
  | 0 => rfl
  | k + 1 => by
    unfold addK addN
    rw [wl_add p o k, wl_getD, wl_getD, wrap_add]
    unfold wl
    rw [List.map_set]
    congr 1

theorem wl_pad (a : List Nat) (n : Nat) : padTo (wl a) n = wl (padN a n) := by
  unfold padTo padN
  rw [wl_len]
  unfold wl
  rw [List.map_append, List.map_replicate]
  simp [wrap_zero]

theorem Bw_Bn (h left st : Nat) : Bw h left st = wl (Bn h left st) := by
  rw [Bw_eq, Bn_eq]
  refine (Es_hom wl [1] [] stepLN [1] [] stepL ?_ rfl (fun i a b => ?_)).symm
  · simp [wl]; decide
  · unfold stepL stepLN
    rw [wl_len, wl_pad, wl_add]

theorem padN_len (A : List Nat) (n : Nat) : (padN A n).length = max A.length n := by
  unfold padN; rw [List.length_append, List.length_replicate]; omega

theorem take_sumN (l : List Nat) (k : Nat) : (l.take (k + 1)).sum = (l.take k).sum + l.getD k 0 := by
  rw [List.take_add_one, List.sum_append]
  congr 1
  unfold List.getD
  cases l[k]? <;> simp

theorem sum_setN : ∀ (l : List Nat) (i : Nat) (v : Nat), i < l.length → (l.set i v).sum + l.getD i 0 = l.sum + v
  | [], i, v, h => by simp at h
  | x :: r, 0, v, _ => by simp; omega
  | x :: r, i + 1, v, h => by
    rw [List.set_cons_succ, List.sum_cons, List.sum_cons, List.getD_cons_succ]
    have := sum_setN r i v (by simpa using h)
    omega

theorem addN_sum (p o : List Nat) : ∀ k, k < p.length → (addN p o k).sum = p.sum + (o.take k).sum
  | 0, _ => by simp [addN]
  | k + 1, h => by
    unfold addN
    have := sum_setN (addN p o k) (k + 1) ((addN p o k).getD (k + 1) 0 + o.getD k 0) (by rw [addN_len]; omega)
    rw [addN_sum p o k (by omega)] at this
    rw [take_sumN]
    omega

theorem padN_sum (a : List Nat) (n : Nat) : (padN a n).sum = a.sum := by
  unfold padN
  rw [List.sum_append]
  have : ∀ k, (List.replicate k 0).sum = 0 := by
    intro k
    induction k with
    | zero => rfl
    | succ k ih => rw [List.replicate_succ, List.sum_cons, ih]
  rw [this]; rfl

/-- Each number times its place, together. -/
def wsum (l : List Nat) : Nat := ((List.range l.length).map fun k => k * l.getD k 0).sum

theorem wsum_eq (l : List Nat) {n : Nat} (h : l.length ≤ n) : wsum l = ((List.range n).map fun k => k * l.getD k 0).sum := by
  unfold wsum
  obtain ⟨m, rfl⟩ : ∃ m, n = l.length + m := ⟨n - l.length, by omega⟩
  induction m with
  | zero => rfl
  | succ m ih =>
    rw [← Nat.add_assoc, List.range_succ, List.map_append, List.sum_append, ← ih (by omega)]
    have : l.getD (l.length + m) 0 = 0 := by simp [List.getD]
    simp [this]

theorem getD_set (l : List Nat) (i j v : Nat) (h : i < l.length) : (l.set i v).getD j 0 = if i = j then v else l.getD j 0 := by
  unfold List.getD
  rw [List.getElem?_set]
  by_cases e : i = j
  · subst e; simp [h]
  · simp [e]

theorem sum_one {n i v : Nat} (f g : Nat → Nat) (hi : i < n) (hf : ∀ k, k ≠ i → f k = g k) (h : f i = g i + v) : ((List.range n).map f).sum = ((List.range n).map g).sum + v := by
  induction n with
  | zero => omega
  | succ n ih =>
    rw [List.range_succ, List.map_append, List.map_append, List.sum_append, List.sum_append]
    by_cases e : i = n
    · subst e
      have : (List.range i).map f = (List.range i).map g := List.map_congr_left fun k hk => hf k (by have := List.mem_range.1 hk; omega)
      rw [this]; simp [h]; omega
    · rw [ih (by omega)]
      have := hf n (by omega)
      simp [this]; omega

theorem addN_wsum (p o : List Nat) : ∀ k, k < p.length → wsum (addN p o k) = wsum p + ((List.range k).map fun i => (i + 1) * o.getD i 0).sum
  | 0, _ => by simp [addN]
  | k + 1, h => by
    have ih := addN_wsum p o k (by omega)
    have hkl : k + 1 < (addN p o k).length := by rw [addN_len]; omega
    have e : wsum (addN p o (k + 1)) = wsum (addN p o k) + (k + 1) * o.getD k 0 := by
      unfold wsum
      rw [addN]
      rw [List.length_set]
      refine sum_one _ _ (i := k + 1) hkl (fun j hj => ?_) ?_
      · rw [getD_set _ _ _ _ hkl, if_neg (fun h => hj h.symm)]
      · rw [getD_set _ _ _ _ hkl, if_pos rfl, Nat.mul_add]
    rw [e, ih, List.range_succ, List.map_append, List.sum_append]
    simp; omega

theorem padN_getD (a : List Nat) (n k : Nat) : (padN a n).getD k 0 = a.getD k 0 := by
  unfold padN List.getD
  by_cases h : k < a.length
  · rw [List.getElem?_append_left h]
  · rw [List.getElem?_append_right (by omega), List.getElem?_eq_none (l := a) (by omega)]
    rw [List.getElem?_replicate]
    split <;> rfl

theorem padN_wsum (a : List Nat) (n : Nat) : wsum (padN a n) = wsum a := by
  rw [wsum_eq a (n := (padN a n).length) (by rw [padN_len]; omega)]
  unfold wsum
  congr 1
  exact List.map_congr_left fun k _ => by rw [padN_getD]

theorem sum_succ_mul (o : List Nat) : ((List.range o.length).map fun i => (i + 1) * o.getD i 0).sum = o.sum + wsum o := by
  have key : ∀ n, ((List.range n).map fun i => (i + 1) * o.getD i 0).sum = (o.take n).sum + ((List.range n).map fun i => i * o.getD i 0).sum := by
    intro n
    induction n with
    | zero => simp
    | succ n ih =>
      rw [List.range_succ, List.map_append, List.map_append, List.sum_append, List.sum_append, ih, take_sumN]
      simp [Nat.add_mul]; omega
  rw [key, List.take_length]; rfl

theorem Bn_Qn (h left st : Nat) : ((Bn h left st).sum, wsum (Bn h left st)) = Qn h left st := by
  rw [Bn_eq]
  unfold Qn
  refine Es_hom (fun l : List Nat => (l.sum, wsum l)) [1] [] stepLN (1, 0) (0, 0) stepQ (by decide) (by decide) (fun i a b => ?_)
  unfold stepLN stepQ
  have hl : b.length < (padN a (b.length + 1)).length := by rw [padN_len]; omega
  simp only [addN_sum _ _ _ hl, addN_wsum _ _ _ hl, padN_sum, padN_wsum, List.take_length, sum_succ_mul]

theorem Bn_sum (h left st : Nat) : (Bn h left st).sum = Cn h left st := by
  rw [← Qn_fst, ← Bn_Qn]

theorem Bn_wsum (h left st : Nat) : wsum (Bn h left st) = (Qn h left st).2 := by
  rw [← Bn_Qn]

theorem le_sum {l : List Nat} {i : Nat} : l.getD i 0 ≤ l.sum := by
  induction l generalizing i with
  | nil => simp [List.getD]
  | cons x r ih =>
    cases i with
    | zero => simp
    | succ i => rw [List.getD_cons_succ, List.sum_cons]; have := ih (i := i); omega

/-- All that is told fits. -/
theorem Bw_get {h l : Nat} (hh : 1 ≤ h ∧ h < 5) (hl : l ≤ 30) (i : Nat) : (Bw h l 0).getD i 0 = ((Bn h l 0).getD i 0 : Nat) := by
  rw [Bw_Bn, wl_getD]
  have h1 : (Bn h l 0).getD i 0 ≤ (Bn h l 0).sum := le_sum
  rw [Bn_sum] at h1
  have := Cn_small hh hl
  exact wrap_i64 _ (by omega) (by omega)

theorem Cn_pos {h : Nat} (hh : 1 ≤ h ∧ h < 5) : ∀ (n left st : Nat), mu h left st < n → left ≤ 30 → st < 4 ^ h → Rch h left st → 0 < Cn h left st
  | 0, _, _, hm, _, _, _ => by omega
  | n + 1, left, st, hm, hl, hst, hr => by
    by_cases h0 : left = 0
    · subst h0
      obtain rfl := rch_end hh.2 hst hr
      rw [Cn_eq, Es_zero]; exact Nat.one_pos
    · cases hf : freeS h st with
      | none =>
        have h256 := Nat.lt_of_lt_of_le hst (pow_le256 hh.2)
        obtain ⟨s1, s2⟩ := shift_lt h hh.2 st h256 hst hf
        rw [Cn_eq, Es_shift _ _ _ hh.2 hl hst h0 hf, ← Cn_eq]
        refine Cn_pos hh n _ _ ?_ (by omega) s2 (rch_shift hh.2 hst hf hr)
        have hz := zer_le h (st - onesS 0 h)
        have e : (h + 1) * left = (h + 1) * (left - 1) + (h + 1) := by rw [← Nat.mul_succ]; congr 1; omega
        unfold mu at hm ⊢
        omega
      | some y =>
        obtain ⟨s, hs⟩ := nx_one h0 hf
        obtain ⟨n1, n2, n3⟩ := nx_mu hh.2 hst (by omega) hh.1 hs
        have ih := Cn_pos hh n left s (by omega) hl n2 (rch_nx hh.2 hst (by omega) hr hs)
        rw [Cn_eq, Es_put _ _ _ hh.2 hl hst h0 hf]
        have mono : ∀ (l : List Nat) (acc : Nat), acc ≤ l.foldl (fun acc i => match nx h left st y (i + 1) with
            | some (l, s) => stepN (i + 1) acc (Es 1 0 stepN h l s)
            | none => acc) acc := by
          intro l
          induction l with
          | nil => exact fun _ => Nat.le_refl _
          | cons i l ih2 =>
            intro acc
            rw [List.foldl_cons]
            refine Nat.le_trans ?_ (ih2 _)
            split
            · exact Nat.le_add_right _ _
            · exact Nat.le_refl _
        obtain ⟨k, hk⟩ : ∃ k, h = k + 1 := ⟨h - 1, by omega⟩
        have e : List.range h = 0 :: (List.range k).map Nat.succ := by rw [hk, List.range_succ_eq_map]
        rw [e, List.foldl_cons, hs]
        refine Nat.lt_of_lt_of_le ?_ (mono _ _)
        rw [Cn_eq] at ih
        show 0 < 0 + Es 1 0 stepN h left s
        omega

end Go.Proofs.Ytnmeehiahlfgaaa

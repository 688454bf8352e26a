/- Strips: the counts are those of plain numbers. -/
import Derived.Test.YtbmaofepmheeeaaApt
namespace Go.Proofs.Ytbmaofepmheeeaa
open Go Go.RowKit
set_option maxRecDepth 10000
set_option linter.unusedSimpArgs false

def padN (a : List Nat) (n : Nat) : List Nat := a ++ List.replicate (n - a.length) 0

def addN (p o : List Nat) : Nat → List Nat
  | 0 => p
  | k + 1 => (addN p o k).set (k + 1) ((addN p o k).getD (k + 1) 0 + o.getD k 0)

def stepLN (_ : Nat) (a v : List Nat) : List Nat := addN (padN a (v.length + 1)) v v.length

theorem Bn_ex : ∃ f : Nat → Nat → Nat → List Nat, ∀ h left st, f h left st = Es [1] [] stepLN h left st := ⟨_, fun _ _ _ => rfl⟩

/-- How many ways with each number of squares, plain. -/
noncomputable def Bn : Nat → Nat → Nat → List Nat := Classical.choose Bn_ex

theorem Bn_eq (h left st : Nat) : Bn h left st = Es [1] [] stepLN h left st := Classical.choose_spec Bn_ex h left st

def wl (l : List Nat) : List Int := l.map fun n : Nat => IntKind.i64.wrap (n : Int)

theorem wl_len (l : List Nat) : (wl l).length = l.length := by simp [wl]

theorem wrap_zero : IntKind.i64.wrap 0 = 0 := by decide

theorem wl_getD (l : List Nat) (i : Nat) : (wl l).getD i 0 = IntKind.i64.wrap ((l.getD i 0 : Nat) : Int) := by
  unfold wl List.getD
  rw [List.getElem?_map]
  cases l[i]? with
  | none => exact wrap_zero.symm
  | some x => rfl

theorem addN_len (p o : List Nat) : ∀ k, (addN p o k).length = p.length
  | 0 => rfl
  | k + 1 => by unfold addN; rw [List.length_set, addN_len p o k]

theorem wl_add (p o : List Nat) : ∀ k, addK (wl p) (wl o) k = wl (addN p o k)
  | 0 => rfl
  | k + 1 => by
    unfold addK addN
    rw [wl_add p o k, wl_getD, wl_getD, wrap_add]
    unfold wl
    rw [List.map_set]
    congr 1

theorem wl_pad (a : List Nat) (n : Nat) : padTo (wl a) n = wl (padN a n) := by
  unfold padTo padN
  rw [wl_len]
  unfold wl
  rw [List.map_append, List.map_replicate]
  simp [wrap_zero]

theorem Bw_Bn (h left st : Nat) : Bw h left st = wl (Bn h left st) := by
  rw [Bw_eq, Bn_eq]
  refine (Es_hom wl [1] [] stepLN [1] [] stepL ?_ rfl (fun i a b => ?_)).symm
  · simp [wl]; decide
  · unfold stepL stepLN
    rw [wl_len, wl_pad, wl_add]

theorem padN_len (A : List Nat) (n : Nat) : (padN A n).length = max A.length n := by
  unfold padN; rw [List.length_append, List.length_replicate]; omega

theorem take_sumN (l : List Nat) (k : Nat) : (l.take (k + 1)).sum = (l.take k).sum + l.getD k 0 := by
  rw [List.take_add_one, List.sum_append]
  congr 1
  unfold List.getD
  cases l[k]? <;> simp

theorem sum_setN : ∀ (l : List Nat) (i : Nat) (v : Nat), i < l.length → (l.set i v).sum + l.getD i 0 = l.sum + v
  | [], i, v, h => by simp at h
  | x :: r, 0, v, _ => by simp; omega
  | x :: r, i + 1, v, h => by
    rw [List.set_cons_succ, List.sum_cons, List.sum_cons, List.getD_cons_succ]
    have := sum_setN r i v (by simpa using h)
    omega

theorem addN_sum (p o : List Nat) : ∀ k, k < p.length → (addN p o k).sum = p.sum + (o.take k).sum
  | 0, _ => by simp [addN]
  | k + 1, h => by
    unfold addN
    have := sum_setN (addN p o k) (k + 1) ((addN p o k).getD (k + 1) 0 + o.getD k 0) (by rw [addN_len]; omega)
    rw [addN_sum p o k (by omega)] at this
    rw [take_sumN]
    omega

theorem padN_sum (a : List Nat) (n : Nat) : (padN a n).sum = a.sum := by
  unfold padN
  rw [List.sum_append]
  have : ∀ k, (List.replicate k 0).sum = 0 := by
    intro k
    induction k with
    | zero => rfl
    | succ k ih => rw [List.replicate_succ, List.sum_cons, ih]
  rw [this]; rfl

/-- Each number times its place, together. -/
def wsum (l : List Nat) : Nat := ((List.range l.length).map fun k => k * l.getD k 0).sum

theorem wsum_eq (l : List Nat) {n : Nat} (h : l.length ≤ n) : wsum l = ((List.range n).map fun k => k * l.getD k 0).sum := by
  unfold wsum
  obtain ⟨m, rfl⟩ : ∃ m, n = l.length + m := ⟨n - l.length, by omega⟩
  induction m with
  | zero => rfl
  | succ m ih =>
    rw [← Nat.add_assoc, List.range_succ, List.map_append, List.sum_append, ← ih (by omega)]
    have : l.getD (l.length + m) 0 = 0 := by simp [List.getD]
    simp [this]

theorem getD_set (l : List Nat) (i j v : Nat) (h : i < l.length) : (l.set i v).getD j 0 = if i = j then v else l.getD j 0 := by
  unfold List.getD
  rw [List.getElem?_set]
  by_cases e : i = j
  · subst e; simp [h]
  · simp [e]

theorem sum_one {n i v : Nat} (f g : Nat → Nat) (hi : i < n) (hf : ∀ k, k ≠ i → f k = g k) (h : f i = g i + v) : ((List.range n).map f).sum = ((List.range n).map g).sum + v := by
  induction n with
  | zero => omega
  | succ n ih =>
    rw [List.range_succ, List.map_append, List.map_append, List.sum_append, List.sum_append]
    by_cases e : i = n
    · subst e
      have : (List.range i).map f = (List.range i).map g := List.map_congr_left fun k hk => hf k (by have := List.mem_range.1 hk; omega)
      rw [this]; simp [h]; omega
    · rw [ih (by omega)]
      have := hf n (by omega)
      simp [this]; omega

theorem addN_wsum (p o : List Nat) : ∀ k, k < p.length → wsum (addN p o k) = wsum p + ((List.range k).map fun i => (i + 1) * o.getD i 0).sum
  | 0, _ => by simp [addN]
  | k + 1, h => by
    have ih := addN_wsum p o k (by omega)
    have hkl : k + 1 < (addN p o k).length := by rw [addN_len]; omega
    have e : wsum (addN p o (k + 1)) = wsum (addN p o k) + (k + 1) * o.getD k 0 := by
      unfold wsum
      rw [addN]
      rw [List.length_set]
      refine sum_one _ _ (i := k + 1) hkl (fun j hj => ?_) ?_
      · rw [getD_set _ _ _ _ hkl, if_neg (fun h => hj h.symm)]
      · rw [getD_set _ _ _ _ hkl, if_pos rfl, Nat.mul_add]
    rw [e, ih, List.range_succ, List.map_append, List.sum_append]
    simp; omega

theorem padN_getD (a : List Nat) (n k : Nat) : (padN a n).getD k 0 = a.getD k 0 := by
  unfold padN List.getD
  by_cases h : k < a.length
  · rw [List.getElem?_append_left h]
  · rw [List.getElem?_append_right (by omega), List.getElem?_eq_none (l := a) (by omega)]
    rw [List.getElem?_replicate]
    split <;> rfl

theorem padN_wsum (a : List Nat) (n : Nat) : wsum (padN a n) = wsum a := by
  rw [wsum_eq a (n := (padN a n).length) (by rw [padN_len]; omega)]
  unfold wsum
  congr 1
  exact List.map_congr_left fun k _ => by rw [padN_getD]

theorem sum_succ_mul (o : List Nat) : ((List.range o.length).map fun i => (i + 1) * o.getD i 0).sum = o.sum + wsum o := by
  have key : ∀ n, ((List.range n).map fun i => (i + 1) * o.getD i 0).sum = (o.take n).sum + ((List.range n).map fun i => i * o.getD i 0).sum := by
    intro n
    induction n with
    | zero => simp
    | succ n ih =>
      rw [List.range_succ, List.map_append, List.map_append, List.sum_append, List.sum_append, ih, take_sumN]
      simp [Nat.add_mul]; omega
  rw [key, List.take_length]; rfl

theorem Bn_Qn (h left st : Nat) : ((Bn h left st).sum, wsum (Bn h left st)) = Qn h left st := by
  rw [Bn_eq]
  unfold Qn
  refine Es_hom (fun l : List Nat => (l.sum, wsum l)) [1] [] stepLN (1, 0) (0, 0) stepQ (by decide) (by decide) (fun i a b => ?_)
  unfold stepLN stepQ
  have hl : b.length < (padN a (b.length + 1)).length := by rw [padN_len]; omega
  simp only [addN_sum _ _ _ hl, addN_wsum _ _ _ hl, padN_sum, padN_wsum, List.take_length, sum_succ_mul]

theorem Bn_sum (h left st : Nat) : (Bn h left st).sum = Cn h left st := by
  rw [← Qn_fst, ← Bn_Qn]

theorem Bn_wsum (h left st : Nat) : wsum (Bn h left st) = (Qn h left st).2 := by
  rw [← Bn_Qn]

theorem le_sum {l : List Nat} {i : Nat} : l.getD i 0 ≤ l.sum := by
  induction l generalizing i with
  | nil => simp [List.getD]
  | cons x r ih =>
    cases i with
    | zero => simp
    | succ i => rw [List.getD_cons_succ, List.sum_cons]; have := ih (i := i); omega

/-- All that is told fits. -/
theorem Bw_get {h l : Nat} (hh : 1 ≤ h ∧ h < 5) (hl : l ≤ 30) (i : Nat) : (Bw h l 0).getD i 0 = ((Bn h l 0).getD i 0 : Nat) := by
  rw [Bw_Bn, wl_getD]
  have h1 : (Bn h l 0).getD i 0 ≤ (Bn h l 0).sum := le_sum
  rw [Bn_sum] at h1
  have := Cn_small hh hl
  exact wrap_i64 _ (by omega) (by omega)

theorem Cn_pos {h : Nat} (hh : 1 ≤ h ∧ h < 5) : ∀ (n left st : Nat), mu h left st < n → left ≤ 30 → st < 4 ^ h → Rch h left st → 0 < Cn h left st
  | 0, _, _, hm, _, _, _ => by omega
  | n + 1, left, st, hm, hl, hst, hr => by
    by_cases h0 : left = 0
    · subst h0
      obtain rfl := rch_end hh.2 hst hr
      rw [Cn_eq, Es_zero]; exact Nat.one_pos
    · cases hf : freeS h st with
      | none =>
        have h256 := Nat.lt_of_lt_of_le hst (pow_le256 hh.2)
        obtain ⟨s1, s2⟩ := shift_lt h hh.2 st h256 hst hf
        rw [Cn_eq, Es_shift _ _ _ hh.2 hl hst h0 hf, ← Cn_eq]
        refine Cn_pos hh n _ _ ?_ (by omega) s2 (rch_shift hh.2 hst hf hr)
        have hz := zer_le h (st - onesS 0 h)
        have e : (h + 1) * left = (h + 1) * (left - 1) + (h + 1) := by rw [← Nat.mul_succ]; congr 1; omega
        unfold mu at hm ⊢
        omega
      | some y =>
        obtain ⟨s, hs⟩ := nx_one h0 hf
        obtain ⟨n1, n2, n3⟩ := nx_mu hh.2 hst (by omega) hh.1 hs
        have ih := Cn_pos hh n left s (by omega) hl n2 (rch_nx hh.2 hst (by omega) hr hs)
        rw [Cn_eq, Es_put _ _ _ hh.2 hl hst h0 hf]
        have mono : ∀ (l : List Nat) (acc : Nat), acc ≤ l.foldl (fun acc i => match nx h left st y (i + 1) with
            | some (l, s) => stepN (i + 1) acc (Es 1 0 stepN h l s)
            | none => acc) acc := by
          intro l
          induction l with
          | nil => exact fun _ => Nat.le_refl _
          | cons i l ih2 =>
            intro acc
            rw [List.foldl_cons]
            refine Nat.le_trans ?_ (ih2 _)
            split
            · exact Nat.le_add_right _ _
            · exact Nat.le_refl _
        obtain ⟨k, hk⟩ : ∃ k, h = k + 1 := ⟨h - 1, by omega⟩
        have e : List.range h = 0 :: (List.range k).map Nat.succ := by rw [hk, List.range_succ_eq_map]
        rw [e, List.foldl_cons, hs]
        refine Nat.lt_of_lt_of_le ?_ (mono _ _)
        rw [Cn_eq] at ih
        show 0 < 0 + Es 1 0 stepN h left s
        omega

end Go.Proofs.Ytbmaofepmheeeaa

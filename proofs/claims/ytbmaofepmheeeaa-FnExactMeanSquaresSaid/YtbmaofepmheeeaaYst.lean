/- Strips: the least number of squares, and the mean. -/
import Derived.Test.YtbmaofepmheeeaaAqt
namespace Go.Proofs.Ytbmaofepmheeeaa
open Go Go.RowKit
set_option maxRecDepth 10000
set_option linter.unusedSimpArgs false

/-- The first place with a number over 0, from i on. -/
def fewI (R : List Int) : Int := match R.findIdx? (fun n => decide (n > 0)) with
  | some i => i
  | none => -1

theorem fewI_none {R : List Int} (h : ∀ i, i < R.length → ¬ R.getD i 0 > 0) : fewI R = -1 := by
  unfold fewI
  have : R.findIdx? (fun n => decide (n > 0)) = none := by
    rw [List.findIdx?_eq_none_iff]
    intro x hx
    obtain ⟨i, hi, rfl⟩ := List.mem_iff_getElem.1 hx
    have := h i hi
    simp only [List.getD, List.getElem?_eq_getElem hi, Option.getD_some] at this
    simpa using this
  rw [this]

theorem fewI_some {R : List Int} {k : Nat} (hk : k < R.length) (h0 : R.getD k 0 > 0) (h : ∀ i, i < k → ¬ R.getD i 0 > 0) : fewI R = k := by
  unfold fewI
  have : R.findIdx? (fun n => decide (n > 0)) = some k := by
    rw [List.findIdx?_eq_some_iff_getElem]
    refine ⟨hk, ?_, fun j hj => ?_⟩
    · simp only [List.getD, List.getElem?_eq_getElem hk, Option.getD_some] at h0
      simpa using h0
    · have := h j hj
      simp only [List.getD, List.getElem?_eq_getElem (Nat.lt_trans hj hk), Option.getD_some] at this
      simpa using this
  rw [this]

theorem implFew (h l : Int) : Fn G.P 15 [aI h, aI l] (.tup [aI (if fewI (sqR h l).1 > 0 then fewI (sqR h l).1 else 0), aB (sqR h l).2]) := by
  have hl := sqR_len h l
  have hi := implSq h l
  generalize hr : sqR h l = r at hl hi
  obtain ⟨R, b⟩ := r
  dsimp only at hl hi ⊢
  refine fn_of_body (G := G) Try.func15 rfl (by decide) (Nat.le_of_ble_eq_true rfl) ?_
  conv => whnf
  repeat' first
    | (refine draw_mk (by kernel_rfl) ?_; conv => whnf)
    | (refine Br.mk (fun hb => ?_) (fun hb => ?_) <;> conv => whnf)
    | (refine call_sn (by repeat' first | exact snapRow | exact snap_row (by simp; done) | exact rfl | exact trivial | apply And.intro | omega | (simp; done)) (hi) ?_; conv => whnf)
    | (refine callP_sn (by repeat' first | exact snapRow | exact snap_row (by simp; done) | exact rfl | exact trivial | apply And.intro | omega | (simp; done)) (hi) ?_; conv => whnf)
    | (refine call_body (G := G) Try.func50 rfl (by decide) (Nat.le_of_ble_eq_true rfl) ?_; conv => whnf)
    | (refine And.intro (by first | decide | omega | (simp at *; omega) | (simp_all; done)) ?_; conv => whnf)
  refine .inl ⟨Nat, fun i => R.length - i, fun i => i ≤ R.length ∧ ∀ j, j < i → ¬ R.getD j 0 > 0, fun i => ⟨[(0, .one (.c (.sl 0 0 1 0 R.length none))), (1, .one (.c (.fn 51 []))), (6, .one (.c (.sl 0 0 1 0 R.length none))), (7, .one (.c (vI R.length))), (8, .one (.c (vI i)))],
    [(0, .arr 1 (R.map r1))], _⟩, 0, ⟨Nat.zero_le _, fun j hj => absurd hj (Nat.not_lt_zero _)⟩, weak_of rfl ?_ rfl (Nat.le_of_ble_eq_true rfl), ?_⟩
  · rw [List.length_map]
    (repeat' first | exact rfl | exact trivial | apply And.intro | (simp [getE]; done))
  rintro i ⟨hi1, hi2⟩
  conv => whnf
  refine Br.mk (fun hb1 => ?_) (fun hb1 => ?_) <;> conv => whnf
  · have hlt : i < R.length := by simp at hb1; omega
    have hw : IntKind.i64.wrap ((i : Int) + 1) = ((i + 1 : Nat) : Int) := by rw [wrap_i64 _ (by omega) (by omega)]; omega
    have hg : R[i]? = some (R.getD i 0) := by simp [List.getD, List.getElem?_eq_getElem hlt]
    have hx : (R.map r1)[0 + ((i : Int)).toNat]? = some [dI (R.getD i 0)] := by rw [Nat.zero_add, Int.toNat_natCast, List.getElem?_map, hg]; rfl
    repeat' first
      | (refine draw_mk (by kernel_rfl) ?_; conv => whnf)
      | (refine El.get hx ?_; conv => whnf)
      | (refine call_body (G := G) Try.func51 rfl (by decide) (Nat.le_of_ble_eq_true rfl) ?_; conv => whnf)
      | (refine And.intro (by simp; try omega) ?_; conv => whnf)
    refine Br.mk (fun hb2 => ?_) (fun hb2 => ?_) <;> conv => whnf
    · have h0 : R.getD i 0 > 0 := by simpa using hb2
      have hf := fewI_some hlt h0 hi2
      rw [hf]
      exact ⟨⟨rfl, rfl, trivial⟩, by simp [refVs, refCV]⟩
    · refine ⟨i + 1, ⟨hlt, fun j hj => ?_⟩, (by omega : R.length - (i + 1) < R.length - i), weak_of rfl ?_ rfl (Nat.le_of_ble_eq_true rfl)⟩
      · by_cases e : j = i
        · subst e; simpa using hb2
        · exact hi2 j (by omega)
      · rw [hw]
        (repeat' first | exact rfl | exact trivial | apply And.intro | (simp [getE]; done))
  · have hie : i = R.length := by simp at hb1; omega
    have hf := fewI_none (R := R) (fun j hj => hi2 j (by omega))
    rw [hf]
    exact ⟨⟨rfl, rfl, trivial⟩, by simp [refVs, refCV]⟩

theorem sum_pos : ∀ {l : List Nat}, 0 < l.sum → ∃ j, j < l.length ∧ 0 < l.getD j 0
  | [], h => by simp at h
  | x :: r, h => by
    by_cases hx : 0 < x
    · exact ⟨0, by simp, by simpa using hx⟩
    · obtain ⟨j, h1, h2⟩ := sum_pos (l := r) (by rw [List.sum_cons] at h; omega)
      exact ⟨j + 1, by simpa using h1, by simpa using h2⟩

theorem padTo_getD (a : List Int) (n k : Nat) : (padTo a n).getD k 0 = a.getD k 0 := by
  unfold padTo List.getD
  by_cases h : k < a.length
  · rw [List.getElem?_append_left h]
  · rw [List.getElem?_append_right (by omega), List.getElem?_eq_none (l := a) (by omega), List.getElem?_replicate]
    split <;> rfl

theorem sqL_get {h l : Nat} (hh : 1 ≤ h ∧ h < 5) (hl : l ≤ 30) (i : Nat) : (sqL h l).getD i 0 = ((Bn h l 0).getD i 0 : Nat) := by
  unfold sqL
  rw [padTo_getD, Bw_get hh hl]

theorem sqL_some {h l : Nat} (hh : 1 ≤ h ∧ h < 5) (hl : 1 ≤ l ∧ l ≤ 30) : ∃ j, j < (sqL h l).length ∧ (sqL h l).getD j 0 > 0 := by
  have hc := Cn_pos hh 1000 l 0 (Nat.lt_of_lt_of_le (mu_small hh.2 hl.2) (by omega)) hl.2 (Nat.pow_pos (by omega)) rch_zero
  rw [← Bn_sum] at hc
  obtain ⟨j, h1, h2⟩ := sum_pos hc
  have h3 := sqL_get hh hl.2 j
  refine ⟨j, ?_, by rw [h3]; omega⟩
  have h4 : (Bw h l 0).length = (Bn h l 0).length := by rw [Bw_Bn, wl_len]
  unfold sqL
  rw [padTo_len]
  omega

theorem fewI_ex {R : List Int} (h : ∃ j, j < R.length ∧ R.getD j 0 > 0) : ∃ k, k < R.length ∧ R.getD k 0 > 0 ∧ (∀ i, i < k → ¬ R.getD i 0 > 0) ∧ fewI R = k := by
  obtain ⟨j, h1, h2⟩ := h
  have : ∀ n, ∀ j, j < n → j < R.length → R.getD j 0 > 0 → ∃ k, k < R.length ∧ R.getD k 0 > 0 ∧ (∀ i, i < k → ¬ R.getD i 0 > 0) := by
    intro n
    induction n with
    | zero => intro j hj; omega
    | succ n ih =>
      intro j hj h1 h2
      by_cases hc : ∃ i, i < j ∧ R.getD i 0 > 0
      · obtain ⟨i, hi, hi2⟩ := hc
        exact ih i (by omega) (by omega) hi2
      · exact ⟨j, h1, h2, fun i hi h3 => hc ⟨i, hi, h3⟩⟩
  obtain ⟨k, k1, k2, k3⟩ := this (j + 1) j (by omega) h1 h2
  exact ⟨k, k1, k2, k3, fewI_some k1 k2 k3⟩

theorem specFew_yes (a b : Nat) (hh : 1 ≤ a ∧ a < 5) (hl : 1 ≤ b ∧ b ≤ 30) : Fn G.P 14 [aI a, aI b] (.tup [aI (if fewI (sqL a b) > 0 then fewI (sqL a b) else 0), aB true]) := by
  have hsb : stripB a b = true := by simp [stripB, inB]; omega
  have hs := stSquares_yes a b hh hl
  have hlen := sqL_len hh hl
  have hab : a * b ≤ 4 * 30 := Nat.mul_le_mul (by omega) hl.2
  have hsome := sqL_some hh hl
  obtain ⟨R, hR⟩ : ∃ R, R = sqL a b := ⟨_, rfl⟩
  rw [← hR] at hs hlen hsome ⊢
  obtain ⟨k, hk1, hk2, hk3, hk4⟩ := fewI_ex hsome
  have hres : (if fewI R > 0 then fewI R else 0) = (k : Int) := by rw [hk4]; split <;> omega
  rw [hres]
  refine fn_of_body (G := G) Try.func14 rfl (by decide) (Nat.le_of_ble_eq_true rfl) ?_
  conv => whnf
  repeat' first
    | (refine draw_mk (by kernel_rfl) ?_; conv => whnf)
    | (refine Br.mk (fun hb => ?_) (fun hb => ?_) <;> conv => whnf)
    | (refine call_sn (by repeat' first | exact snapRow | exact snap_row (by simp; done) | exact rfl | exact trivial | apply And.intro | omega | (simp; done)) (stSize_ok _ _) ?_; conv => whnf)
    | (refine callP_sn (by repeat' first | exact snapRow | exact snap_row (by simp; done) | exact rfl | exact trivial | apply And.intro | omega | (simp; done)) (stSize_ok _ _) ?_; conv => whnf)
    | (refine call_sn (by repeat' first | exact snapRow | exact snap_row (by simp; done) | exact rfl | exact trivial | apply And.intro | omega | (simp; done)) (hs) ?_; conv => whnf)
    | (refine callP_sn (by repeat' first | exact snapRow | exact snap_row (by simp; done) | exact rfl | exact trivial | apply And.intro | omega | (simp; done)) (hs) ?_; conv => whnf)
    | (refine And.intro (by first | decide | omega | (simp at *; omega) | (simp_all; done)) ?_; conv => whnf)
  · rw [hsb] at hb; cases hb
  refine .inl ⟨Nat, fun i => R.length - i, fun i => i ≤ k, fun i => ⟨[(14, .one (.c (.sl 0 0 1 0 R.length none))), (15, .one (.c (vI R.length))), (16, .one (.c (vI i)))],
    [(0, .arr 1 (R.map r1))], _⟩, 0, Nat.zero_le _, weak_of rfl ?_ rfl (Nat.zero_le _), fun i hi => ?_⟩
  · rw [List.length_map]
    (repeat' first | exact rfl | exact trivial | apply And.intro | (simp [getE]; done))
  replace hi : i ≤ k := hi
  conv => whnf
  have hlt : i < R.length := by omega
  have hw : IntKind.i64.wrap ((i : Int) + 1) = ((i + 1 : Nat) : Int) := by rw [wrap_i64 _ (by omega) (by omega)]; omega
  have hg : R[i]? = some (R.getD i 0) := by simp [List.getD, List.getElem?_eq_getElem hlt]
  have hx : (R.map r1)[0 + ((i : Int)).toNat]? = some [dI (R.getD i 0)] := by rw [Nat.zero_add, Int.toNat_natCast, List.getElem?_map, hg]; rfl
  refine Br.mk (fun hb1 => ?_) (fun hb1 => ?_) <;> conv => whnf
  · repeat' first
      | (refine draw_mk (by kernel_rfl) ?_; conv => whnf)
      | (refine El.get hx ?_; conv => whnf)
      | (refine And.intro (by simp; try omega) ?_; conv => whnf)
    refine Br.mk (fun hb2 => ?_) (fun hb2 => ?_) <;> conv => whnf
    · have h0 : R.getD i 0 > 0 := by simpa using hb2
      have hik : i = k := by
        by_cases hc : i < k
        · exact absurd h0 (hk3 i hc)
        · omega
      rw [hik]
      exact ⟨⟨rfl, rfl, trivial⟩, by simp [refVs, refCV]⟩
    · have hik : i < k := by
        by_cases hc : i = k
        · subst hc
          exact absurd hk2 (of_decide_eq_false hb2)
        · omega
      refine ⟨i + 1, (by omega : i + 1 ≤ k), (by omega : R.length - (i + 1) < R.length - i), weak_of rfl ?_ rfl (Nat.zero_le _)⟩
      rw [hw]
      (repeat' first | exact rfl | exact trivial | apply And.intro | (simp [getE]; done))
  · simp at hb1; omega

noncomputable def fewR (h l : Int) : Int × Bool := (if fewI (sqR h l).1 > 0 then fewI (sqR h l).1 else 0, (sqR h l).2)

theorem specFew (h l : Int) : Fn G.P 14 [aI h, aI l] (.tup [aI (fewR h l).1, aB (fewR h l).2]) := by
  unfold fewR sqR
  by_cases hsb : stripB h l = true
  · rw [if_pos hsb]
    obtain ⟨a, b, rfl, rfl, h1, h2, h3, h4⟩ := strip_nat hsb
    exact specFew_yes a b ⟨h1, h2⟩ ⟨h3, h4⟩
  · rw [if_neg hsb]
    have hb0 : stripB h l = false := by simpa using hsb
    have e0 : fewI [] = -1 := rfl
    show Fn G.P _ _ (.tup [aI (if fewI [] > 0 then fewI [] else 0), aB false])
    rw [e0]
    refine fn_of_body (G := G) Try.func14 rfl (by decide) (Nat.le_of_ble_eq_true rfl) ?_
    conv => whnf
    repeat' first
      | (refine draw_mk (by kernel_rfl) ?_; conv => whnf)
      | (refine Br.mk (fun hb => ?_) (fun hb => ?_) <;> conv => whnf)
      | (refine call_sn (by repeat' first | exact snapRow | exact snap_row (by simp; done) | exact rfl | exact trivial | apply And.intro | omega | (simp; done)) (stSize_ok _ _) ?_; conv => whnf)
      | (refine callP_sn (by repeat' first | exact snapRow | exact snap_row (by simp; done) | exact rfl | exact trivial | apply And.intro | omega | (simp; done)) (stSize_ok _ _) ?_; conv => whnf)
    · exact ⟨⟨rfl, rfl, trivial⟩, by simp [refVs, refCV]⟩
    · simp_all

theorem fewLaw (h : Int) (_ : (Lit.int .i64 h).wf = true) (l : Int) (_ : (Lit.int .i64 l).wf = true) : Fn G.P 4 [aI h, aI l] (.one (aB true)) := by
  have hs := specFew h l
  have hi := implFew h l
  unfold fewR at hs
  generalize (if fewI (sqR h l).1 > 0 then fewI (sqR h l).1 else 0) = x at hs hi
  generalize (sqR h l).2 = y at hs hi
  refine fn_of_body (G := G) Try.func4 rfl (by decide) (Nat.le_of_ble_eq_true rfl) ?_
  conv => whnf
  repeat' first
    | (refine draw_mk (by kernel_rfl) ?_; conv => whnf)
    | (refine Br.mk (fun hb => ?_) (fun hb => ?_) <;> conv => whnf)
    | (refine call_sn (by repeat' first | exact snapRow | exact snap_row (by simp; done) | exact rfl | exact trivial | apply And.intro | omega | (simp; done)) (hs) ?_; conv => whnf)
    | (refine callP_sn (by repeat' first | exact snapRow | exact snap_row (by simp; done) | exact rfl | exact trivial | apply And.intro | omega | (simp; done)) (hs) ?_; conv => whnf)
    | (refine call_sn (by repeat' first | exact snapRow | exact snap_row (by simp; done) | exact rfl | exact trivial | apply And.intro | omega | (simp; done)) (hi) ?_; conv => whnf)
    | (refine callP_sn (by repeat' first | exact snapRow | exact snap_row (by simp; done) | exact rfl | exact trivial | apply And.intro | omega | (simp; done)) (hi) ?_; conv => whnf)
    | (refine And.intro (by first | decide | omega | (simp at *; omega) | (simp_all; done)) ?_; conv => whnf)
  all_goals first | (simp_all [resOK_iff, resVs, resCell, resCells, refVs, refCV, refCs]; done) | (simp_all [resOK_iff, resVs, resCell, resCells, refVs, refCV, refCs]; omega)

end Go.Proofs.Ytbmaofepmheeeaa

/- Strips: the least number of squares, and the mean. -/
import Derived.Test.YtnmeehiahlfgaaaQWst
import Derived.Test.YtnmeehiahlfgaaaQZx
import Derived.Test.YtnmeehiahlfgaaaQArt
namespace Go.Proofs.Ytnmeehiahlfgaaa
open Go Go.RowKit
set_option maxRecDepth 10000
set_option linter.unusedSimpArgs false

/-- The first place with a number over 0, from i on. -/
def fewI (R : List Int) : Int := match R.findIdx? (fun n => decide (n > 0)) with
  | some i => i
  | none => -1

theorem fewI_none {R : List Int} (h : ∀ i, i < R.length → ¬ R.getD i 0 > 0) : fewI R = -1 := by
  unfold fewI
  have : R.findIdx? (fun n => decide (n > 0)) = none := by
    rw [List.findIdx?_eq_none_iff]
    intro x hx
    obtain ⟨i, hi, rfl⟩ := List.mem_iff_getElem.1 hx
    have := h i hi
    simp only [List.getD, List.getElem?_eq_getElem hi, Option.getD_some] at this
    simpa using this
  rw [this]

theorem fewI_some {R : List Int} {k : Nat} (hk : k < R.length) (h0 : R.getD k 0 > 0) (h : ∀ i, i < k → ¬ R.getD i 0 > 0) : fewI R = k := by
  unfold fewI
  have : R.findIdx? (fun n => decide (n > 0)) = some k := by
    rw [List.findIdx?_eq_some_iff_getElem]
    refine ⟨hk, ?_, fun j hj => ?_⟩
    · simp only [List.getD, List.getElem?_eq_getElem hk, Option.getD_some] at h0
      simpa using h0
    · have := h j hj
      simp only [List.getD, List.getElem?_eq_getElem (Nat.lt_trans hj hk), Option.getD_some] at this
      simpa using this
  rw [this]

theorem implFew (h l : Int) : Fn G.P 12 [aI h, aI l] (.tup [aI (if fewI (sqR h l).1 > 0 then fewI (sqR h l).1 else 0), aB (sqR h l).2]) := by
  have hl := sqR_len h l
  have hi := implSq h l
  generalize hr : sqR h l = r at hl hi
  obtain ⟨R, b⟩ := r
  dsimp only at hl hi ⊢
  refine fn_of_body (G := G) Try.func12 rfl (by decide) (Nat.le_of_ble_eq_true rfl) ?_
  conv => whnf
  repeat' first
    | exact True.intro
    | (refine draw_mkF ?_ ?_ ?_; (focus (decide +kernel)); (focus (kernel_rfl)); conv => whnf)
    | (refine Both.mk ?_ ?_ <;> conv => whnf)
    | (refine NilQ.mk (fun hnil => ?_) ?_ <;> conv => whnf)
    | (refine draw_mk (by kernel_rfl) ?_; conv => whnf)
    | (refine Br.mk (fun hb => ?_) (fun hb => ?_) <;> conv => whnf)
    | (refine call_sn ?_ (hi) ?_; (focus ((repeat' first | exact snapRow | exact snap_row (by simp; done) | exact rfl | exact trivial | apply And.intro | omega | (simp; done)); done)); conv => whnf)
    | (refine callP_sn ?_ (hi) ?_; (focus ((repeat' first | exact snapRow | exact snap_row (by simp; done) | exact rfl | exact trivial | apply And.intro | omega | (simp; done)); done)); conv => whnf)
    | (refine call_body (G := G) Try.func36 rfl (by decide) (Nat.le_of_ble_eq_true rfl) ?_; conv => whnf)
    | (refine callP_text (call_body (G := G) Try.func36 rfl (by decide) (Nat.le_of_ble_eq_true rfl) ?_); conv => whnf)
    | (refine And.intro ?_ ?_; (focus (first | decide | omega | (simp at *; omega) | (simp_all; done))); conv => whnf)
  refine .inl ⟨Nat, fun i => R.length - i, fun i => i ≤ R.length ∧ ∀ j, j < i → ¬ R.getD j 0 > 0, fun i => ⟨[(0, .one (.c (.sl 0 0 1 0 R.length none))), (1, .one (.c (.fn 37 []))), (6, .one (.c (.sl 0 0 1 0 R.length none))), (7, .one (.c (vI R.length))), (8, .one (.c (vI i)))],
    [(0, .arr 1 (R.map r1))], _⟩, 0, ⟨Nat.zero_le _, fun j hj => absurd hj (Nat.not_lt_zero _)⟩, weak_of rfl ?_ rfl (Nat.le_of_ble_eq_true rfl), ?_⟩
  · rw [List.length_map]
    (repeat' first | exact rfl | exact trivial | apply And.intro | (simp [getE]; done))
  rintro i ⟨hi1, hi2⟩
  conv => whnf
  refine Br.mk (fun hb1 => ?_) (fun hb1 => ?_) <;> conv => whnf
  · have hlt : i < R.length := by simp at hb1; omega
    have hw : IntKind.i64.wrap ((i : Int) + 1) = ((i + 1 : Nat) : Int) := by rw [wrap_i64 _ (by omega) (by omega)]; omega
    have hg : R[i]? = some (R.getD i 0) := by simp [List.getD, List.getElem?_eq_getElem hlt]
    have hx : (R.map r1)[0 + ((i : Int)).toNat]? = some [dI (R.getD i 0)] := by rw [Nat.zero_add, Int.toNat_natCast, List.getElem?_map, hg]; rfl
    repeat' first
      | (refine draw_mk (by kernel_rfl) ?_; conv => whnf)
      | (refine El.get hx ?_; conv => whnf)
      | (refine call_body (G := G) Try.func37 rfl (by decide) (Nat.le_of_ble_eq_true rfl) ?_; conv => whnf)
      | (refine And.intro (by simp; try omega) ?_; conv => whnf)
    refine Br.mk (fun hb2 => ?_) (fun hb2 => ?_) <;> conv => whnf
    · have h0 : R.getD i 0 > 0 := by simpa using hb2
      have hf := fewI_some hlt h0 hi2
      rw [hf]
      exact ⟨⟨rfl, rfl, trivial⟩, by simp [refVs, refCV]⟩
    · refine ⟨i + 1, ⟨hlt, fun j hj => ?_⟩, (by omega : R.length - (i + 1) < R.length - i), weak_of rfl ?_ rfl (Nat.le_of_ble_eq_true rfl)⟩
      · by_cases e : j = i
        · subst e; simpa using hb2
        · exact hi2 j (by omega)
      · rw [hw]
        (repeat' first | exact rfl | exact trivial | apply And.intro | (simp [getE]; done))
  · have hie : i = R.length := by simp at hb1; omega
    have hf := fewI_none (R := R) (fun j hj => hi2 j (by omega))
    rw [hf]
    exact ⟨⟨rfl, rfl, trivial⟩, by simp [refVs, refCV]⟩

theorem sum_pos : ∀ {l : List Nat}, 0 < l.sum → ∃ j, j < l.length ∧ 0 < l.getD j 0
  | [], h => by simp at h
  | x :: r, h => by
    by_cases hx : 0 < x
    · exact ⟨0, by simp, by simpa using hx⟩
    · obtain ⟨j, h1, h2⟩ := sum_pos (l := r) (by rw [List.sum_cons] at h; omega)
      exact ⟨j + 1, by simpa using h1, by simpa using h2⟩

theorem padTo_getD (a : List Int) (n k : Nat) : (padTo a n).getD k 0 = a.getD k 0 := by
  unfold padTo List.getD
  by_cases h : k < a.length
  · rw [List.getElem?_append_left h]
  · rw [List.getElem?_append_right (by omega), List.getElem?_eq_none (l := a) (by omega), List.getElem?_replicate]
    split <;> rfl

theorem sqL_get {h l : Nat} (hh : 1 ≤ h ∧ h < 5) (hl : l ≤ 30) (i : Nat) : (sqL h l).getD i 0 = ((Bn h l 0).getD i 0 : Nat) := by
  unfold sqL
  rw [padTo_getD, Bw_get hh hl]

theorem sqL_some {h l : Nat} (hh : 1 ≤ h ∧ h < 5) (hl : 1 ≤ l ∧ l ≤ 30) : ∃ j, j < (sqL h l).length ∧ (sqL h l).getD j 0 > 0 := by
  have hc := Cn_pos hh 1000 l 0 (Nat.lt_of_lt_of_le (mu_small hh.2 hl.2) (by omega)) hl.2 (Nat.pow_pos (by omega)) rch_zero
  rw [← Bn_sum] at hc
  obtain ⟨j, h1, h2⟩ := sum_pos hc
  have h3 := sqL_get hh hl.2 j
  refine ⟨j, ?_, by rw [h3]; omega⟩
  have h4 : (Bw h l 0).length = (Bn h l 0).length := by rw [Bw_Bn, wl_len]
  unfold sqL
  rw [padTo_len]
  omega

theorem fewI_ex {R : List Int} (h : ∃ j, j < R.length ∧ R.getD j 0 > 0) : ∃ k, k < R.length ∧ R.getD k 0 > 0 ∧ (∀ i, i < k → ¬ R.getD i 0 > 0) ∧ fewI R = k := by
  obtain ⟨j, h1, h2⟩ := h
  have : ∀ n, ∀ j, j < n → j < R.length → R.getD j 0 > 0 → ∃ k, k < R.length ∧ R.getD k 0 > 0 ∧ (∀ i, i < k → ¬ R.getD i 0 > 0) := by
    intro n
    induction n with
    | zero => intro j hj; omega
    | succ n ih =>
      intro j hj h1 h2
      by_cases hc : ∃ i, i < j ∧ R.getD i 0 > 0
      · obtain ⟨i, hi, hi2⟩ := hc
        exact ih i (by omega) (by omega) hi2
      · exact ⟨j, h1, h2, fun i hi h3 => hc ⟨i, hi, h3⟩⟩
  obtain ⟨k, k1, k2, k3⟩ := this (j + 1) j (by omega) h1 h2
  exact ⟨k, k1, k2, k3, fewI_some k1 k2 k3⟩

theorem specFew_yes (a b : Nat) (hh : 1 ≤ a ∧ a < 5) (hl : 1 ≤ b ∧ b ≤ 30) : Fn G.P 13 [aI a, aI b] (.tup [aI (if fewI (sqL a b) > 0 then fewI (sqL a b) else 0), aB true]) := by
  have hsb : stripB a b = true := by simp [stripB, inB]; omega
  have hs := stSquares_yes a b hh hl
  have hlen := sqL_len hh hl
  have hab : a * b ≤ 4 * 30 := Nat.mul_le_mul (by omega) hl.2
  have hsome := sqL_some hh hl
  obtain ⟨R, hR⟩ : ∃ R, R = sqL a b := ⟨_, rfl⟩
  rw [← hR] at hs hlen hsome ⊢
  obtain ⟨k, hk1, hk2, hk3, hk4⟩ := fewI_ex hsome
  have hres : (if fewI R > 0 then fewI R else 0) = (k : Int) := by rw [hk4]; split <;> omega
  rw [hres]
  refine fn_of_body (G := G) Try.func13 rfl (by decide) (Nat.le_of_ble_eq_true rfl) ?_
  conv => whnf
  repeat' first
    | exact True.intro
    | (refine draw_mkF ?_ ?_ ?_; (focus (decide +kernel)); (focus (kernel_rfl)); conv => whnf)
    | (refine Both.mk ?_ ?_ <;> conv => whnf)
    | (refine NilQ.mk (fun hnil => ?_) ?_ <;> conv => whnf)
    | (refine draw_mk (by kernel_rfl) ?_; conv => whnf)
    | (refine Br.mk (fun hb => ?_) (fun hb => ?_) <;> conv => whnf)
    | (refine call_sn ?_ (stSize_ok ?_ ?_) ?_; (focus ((repeat' first | exact snapRow | exact snap_row (by simp; done) | exact rfl | exact trivial | apply And.intro | omega | (simp; done)); done)); conv => whnf)
    | (refine callP_sn ?_ (stSize_ok ?_ ?_) ?_; (focus ((repeat' first | exact snapRow | exact snap_row (by simp; done) | exact rfl | exact trivial | apply And.intro | omega | (simp; done)); done)); conv => whnf)
    | (refine call_sn ?_ (hs) ?_; (focus ((repeat' first | exact snapRow | exact snap_row (by simp; done) | exact rfl | exact trivial | apply And.intro | omega | (simp; done)); done)); conv => whnf)
    | (refine callP_sn ?_ (hs) ?_; (focus ((repeat' first | exact snapRow | exact snap_row (by simp; done) | exact rfl | exact trivial | apply And.intro | omega | (simp; done)); done)); conv => whnf)
    | (refine And.intro ?_ ?_; (focus (first | decide | omega | (simp at *; omega) | (simp_all; done))); conv => whnf)
  · rw [hsb] at hb; cases hb
  refine .inl ⟨Nat, fun i => R.length - i, fun i => i ≤ k, fun i => ⟨[(14, .one (.c (.sl 0 0 1 0 R.length none))), (15, .one (.c (vI R.length))), (16, .one (.c (vI i)))],
    [(0, .arr 1 (R.map r1))], _⟩, 0, Nat.zero_le _, weak_of rfl ?_ rfl (Nat.zero_le _), fun i hi => ?_⟩
  · rw [List.length_map]
    (repeat' first | exact rfl | exact trivial | apply And.intro | (simp [getE]; done))
  replace hi : i ≤ k := hi
  conv => whnf
  have hlt : i < R.length := by omega
  have hw : IntKind.i64.wrap ((i : Int) + 1) = ((i + 1 : Nat) : Int) := by rw [wrap_i64 _ (by omega) (by omega)]; omega
  have hg : R[i]? = some (R.getD i 0) := by simp [List.getD, List.getElem?_eq_getElem hlt]
  have hx : (R.map r1)[0 + ((i : Int)).toNat]? = some [dI (R.getD i 0)] := by rw [Nat.zero_add, Int.toNat_natCast, List.getElem?_map, hg]; rfl
  refine Br.mk (fun hb1 => ?_) (fun hb1 => ?_) <;> conv => whnf
  · repeat' first
      | (refine draw_mk (by kernel_rfl) ?_; conv => whnf)
      | (refine El.get hx ?_; conv => whnf)
      | (refine And.intro (by simp; try omega) ?_; conv => whnf)
    refine Br.mk (fun hb2 => ?_) (fun hb2 => ?_) <;> conv => whnf
    · have h0 : R.getD i 0 > 0 := by simpa using hb2
      have hik : i = k := by
        by_cases hc : i < k
        · exact absurd h0 (hk3 i hc)
        · omega
      rw [hik]
      exact ⟨⟨rfl, rfl, trivial⟩, by simp [refVs, refCV]⟩
    · have hik : i < k := by
        by_cases hc : i = k
        · subst hc
          exact absurd hk2 (of_decide_eq_false hb2)
        · omega
      refine ⟨i + 1, (by omega : i + 1 ≤ k), (by omega : R.length - (i + 1) < R.length - i), weak_of rfl ?_ rfl (Nat.zero_le _)⟩
      rw [hw]
      (repeat' first | exact rfl | exact trivial | apply And.intro | (simp [getE]; done))
  · simp at hb1; omega

noncomputable def fewR (h l : Int) : Int × Bool := (if fewI (sqR h l).1 > 0 then fewI (sqR h l).1 else 0, (sqR h l).2)

theorem specFew (h l : Int) : Fn G.P 13 [aI h, aI l] (.tup [aI (fewR h l).1, aB (fewR h l).2]) := by
  unfold fewR sqR
  by_cases hsb : stripB h l = true
  · rw [if_pos hsb]
    obtain ⟨a, b, rfl, rfl, h1, h2, h3, h4⟩ := strip_nat hsb
    exact specFew_yes a b ⟨h1, h2⟩ ⟨h3, h4⟩
  · rw [if_neg hsb]
    have hb0 : stripB h l = false := by simpa using hsb
    have e0 : fewI [] = -1 := rfl
    show Fn G.P _ _ (.tup [aI (if fewI [] > 0 then fewI [] else 0), aB false])
    rw [e0]
    refine fn_of_body (G := G) Try.func13 rfl (by decide) (Nat.le_of_ble_eq_true rfl) ?_
    conv => whnf
    repeat' first
      | exact True.intro
      | (refine draw_mkF ?_ ?_ ?_; (focus (decide +kernel)); (focus (kernel_rfl)); conv => whnf)
      | (refine Both.mk ?_ ?_ <;> conv => whnf)
      | (refine NilQ.mk (fun hnil => ?_) ?_ <;> conv => whnf)
      | (refine draw_mk (by kernel_rfl) ?_; conv => whnf)
      | (refine Br.mk (fun hb => ?_) (fun hb => ?_) <;> conv => whnf)
      | (refine call_sn ?_ (stSize_ok ?_ ?_) ?_; (focus ((repeat' first | exact snapRow | exact snap_row (by simp; done) | exact rfl | exact trivial | apply And.intro | omega | (simp; done)); done)); conv => whnf)
      | (refine callP_sn ?_ (stSize_ok ?_ ?_) ?_; (focus ((repeat' first | exact snapRow | exact snap_row (by simp; done) | exact rfl | exact trivial | apply And.intro | omega | (simp; done)); done)); conv => whnf)
    · exact ⟨⟨rfl, rfl, trivial⟩, by simp [refVs, refCV]⟩
    · simp_all

end Go.Proofs.Ytnmeehiahlfgaaa

namespace Go.Proofs.Ytnmeehiahlfgaaa
open Go Go.RowKit
set_option maxRecDepth 10000
set_option linter.unusedSimpArgs false

theorem gcd_step (a b : Nat) : Nat.gcd a b = if b = 0 then a else Nat.gcd b (a % b) := by
  by_cases h : b = 0
  · subst h; simp
  · rw [if_neg h, Nat.gcd_comm, Nat.gcd_rec, Nat.gcd_comm]

theorem common_ok (a b : Nat) (ha : a < 2 ^ 62) (hb : b < 2 ^ 62) : Fn G.P 34 [aI a, aI b] (.one (aI (Nat.gcd a b))) := by
  refine fn_of_body (G := G) Try.func34 rfl (by decide) (Nat.le_of_ble_eq_true rfl) ?_
  conv => whnf
  refine .inl ⟨Nat × Nat, fun x => x.2, fun x => x.1 < 2 ^ 62 ∧ x.2 < 2 ^ 62 ∧ Nat.gcd x.1 x.2 = Nat.gcd a b, fun x => ⟨[(0, .one (.c (vI x.1))), (1, .one (.c (vI x.2)))], [], _⟩, (a, b), ⟨ha, hb, rfl⟩, weak_of rfl ?_ rfl (Nat.zero_le _), ?_⟩
  · (repeat' first | exact rfl | exact trivial | apply And.intro | (simp [getE]; done))
  rintro ⟨x, y⟩ ⟨hx, hy, hg⟩
  dsimp only at hx hy hg ⊢
  conv => whnf
  refine Br.mk (fun hb1 => ?_) (fun hb1 => ?_) <;> conv => whnf
  · have hy0 : 0 < y := by simp at hb1; omega
    refine draw_mk (by kernel_rfl) ?_
    conv => whnf
    refine ⟨by omega, ?_⟩
    conv => whnf
    have hm := Nat.mod_lt x hy0
    refine ⟨(y, x % y), ⟨hy, Nat.lt_trans hm hy, ?_⟩, hm, weak_of rfl ?_ rfl (Nat.zero_le _)⟩
    · rw [← hg, gcd_step x y, if_neg (by omega)]
    · have e : ((x : Int).tmod (y : Int)) = ((x % y : Nat) : Int) := by
        rw [Int.tmod_eq_emod_of_nonneg (by omega)]; rfl
      (repeat' first | exact rfl | exact trivial | apply And.intro | (simp [getE]; done))
  · have hy0 : y = 0 := by simp at hb1; omega
    subst hy0
    rw [← hg, Nat.gcd_zero_right]
    exact ⟨⟨rfl, trivial⟩, by simp [refVs, refCV]⟩

theorem cuCommon_ok (a b : Nat) (ha : a < 2 ^ 62) (hb : b < 2 ^ 62) : Fn G.P 35 [aI a, aI b] (.one (aI (Nat.gcd a b))) := by
  refine fn_of_body (G := G) Try.func35 rfl (by decide) (Nat.le_of_ble_eq_true rfl) ?_
  conv => whnf
  refine .inl ⟨Nat × Nat, fun x => x.2, fun x => x.1 < 2 ^ 62 ∧ x.2 < 2 ^ 62 ∧ Nat.gcd x.1 x.2 = Nat.gcd a b, fun x => ⟨[(0, .one (.c (vI x.1))), (1, .one (.c (vI x.2)))], [], _⟩, (a, b), ⟨ha, hb, rfl⟩, weak_of rfl ?_ rfl (Nat.zero_le _), ?_⟩
  · (repeat' first | exact rfl | exact trivial | apply And.intro | (simp [getE]; done))
  rintro ⟨x, y⟩ ⟨hx, hy, hg⟩
  dsimp only at hx hy hg ⊢
  conv => whnf
  refine Br.mk (fun hb1 => ?_) (fun hb1 => ?_) <;> conv => whnf
  · have hy0 : 0 < y := by simp at hb1; omega
    refine draw_mk (by kernel_rfl) ?_
    conv => whnf
    refine ⟨by omega, ?_⟩
    conv => whnf
    have hm := Nat.mod_lt x hy0
    refine ⟨(y, x % y), ⟨hy, Nat.lt_trans hm hy, ?_⟩, hm, weak_of rfl ?_ rfl (Nat.zero_le _)⟩
    · rw [← hg, gcd_step x y, if_neg (by omega)]
    · have e : ((x : Int).tmod (y : Int)) = ((x % y : Nat) : Int) := by
        rw [Int.tmod_eq_emod_of_nonneg (by omega)]; rfl
      (repeat' first | exact rfl | exact trivial | apply And.intro | (simp [getE]; done))
  · have hy0 : y = 0 := by simp at hb1; omega
    subst hy0
    rw [← hg, Nat.gcd_zero_right]
    exact ⟨⟨rfl, trivial⟩, by simp [refVs, refCV]⟩

theorem Tw_none (h left st : Nat) : (Tw h left st).2.1 = 0 := by
  rw [Tw_eq]
  refine Ev_prop (fun t : TY => t.2.1 = 0) rfl rfl (fun i a b ha hb => ?_) _ _ _
  show wadd (sideK (i + 1) 0 a.2.1 b.1) b.2.1 = 0
  unfold wadd sideK
  rw [if_neg (by omega), ha, hb]
  decide

theorem implMean_yes (a b : Nat) (hh : 1 ≤ a ∧ a < 5) (hl : 1 ≤ b ∧ b ≤ 30) : Fn G.P 10 [aI a, aI b] (.tup [aI (((Qn a b 0).2 / Nat.gcd (Cn a b 0) (Qn a b 0).2 : Nat) : Int), aI ((Cn a b 0 / Nat.gcd (Cn a b 0) (Qn a b 0).2 : Nat) : Int), aB true]) := by
  have hsb : stripB a b = true := by simp [stripB, inB]; omega
  have hs := sum_list (Tw a b 0).1 (Nat.le_trans (Tw_len a b 0) (by decide))
  rw [tally_sum, Vw_Cn, wrap_i64 _ (by have := Cn_small hh hl.2; omega) (by have := Cn_small hh hl.2; omega)] at hs
  have e1 := tally_side 1 a b 0 (by omega)
  have e2 := tally_side 2 a b 0 (by omega)
  have e3 := tally_side 3 a b 0 (by omega)
  have e4 := tally_side 4 a b 0 (by omega)
  rw [Pw_get hh hl.2 (by omega)] at e1 e2 e3 e4
  have e0 := Tw_none a b 0
  have hq := S5_sum hh.2 b 0
  have hq2 : of5 (S5 a b 0) 1 + of5 (S5 a b 0) 2 + of5 (S5 a b 0) 3 + of5 (S5 a b 0) 4 = (Qn a b 0).2 := by rw [← hq]
  have hqs := Qn_small hh hl.2
  have hcs := Cn_small hh hl.2
  have hcp := Cn_pos hh 1000 b 0 (Nat.lt_of_lt_of_le (mu_small hh.2 hl.2) (by omega)) hl.2 (Nat.pow_pos (by omega)) rch_zero
  have hg := common_ok (Cn a b 0) (Qn a b 0).2 (by omega) (by omega)
  have hT : tDV (Tw a b 0) = .agg [.list 1 ((Tw a b 0).1.map r1), dI (Tw a b 0).2.1, dI (Tw a b 0).2.2.1, dI (Tw a b 0).2.2.2.1, dI (Tw a b 0).2.2.2.2.1, dI (Tw a b 0).2.2.2.2.2] := rfl
  have e1' : (Tw a b 0).2.2.1 = ((of5 (S5 a b 0) 1 : Nat) : Int) := e1
  have e2' : (Tw a b 0).2.2.2.1 = ((of5 (S5 a b 0) 2 : Nat) : Int) := e2
  have e3' : (Tw a b 0).2.2.2.2.1 = ((of5 (S5 a b 0) 3 : Nat) : Int) := e3
  have e4' : (Tw a b 0).2.2.2.2.2 = ((of5 (S5 a b 0) 4 : Nat) : Int) := e4
  rw [e0, e1', e2', e3', e4'] at hT
  have hs2 := sum_list [0, ((of5 (S5 a b 0) 1 : Nat) : Int), ((of5 (S5 a b 0) 2 : Nat) : Int), ((of5 (S5 a b 0) 3 : Nat) : Int), ((of5 (S5 a b 0) 4 : Nat) : Int)] (by simp)
  have ev : sumK 0 [0, ((of5 (S5 a b 0) 1 : Nat) : Int), ((of5 (S5 a b 0) 2 : Nat) : Int), ((of5 (S5 a b 0) 3 : Nat) : Int), ((of5 (S5 a b 0) 4 : Nat) : Int)] ([0, ((of5 (S5 a b 0) 1 : Nat) : Int), ((of5 (S5 a b 0) 2 : Nat) : Int), ((of5 (S5 a b 0) 3 : Nat) : Int), ((of5 (S5 a b 0) 4 : Nat) : Int)] : List Int).length = (((Qn a b 0).2 : Nat) : Int) := by
    rw [sumK_eq, List.take_length]
    simp only [List.sum_cons, List.sum_nil]
    rw [wrap_i64 _ (by omega) (by omega)]
    omega
  rw [ev] at hs2
  generalize of5 (S5 a b 0) 1 = s1 at *
  generalize of5 (S5 a b 0) 2 = s2 at *
  generalize of5 (S5 a b 0) 3 = s3 at *
  generalize of5 (S5 a b 0) 4 = s4 at *
  have htc : ∀ {objs : Objs} {K : SV → Objs → Prop}, K (.one (dvX (.agg [.list 1 ((Tw a b 0).1.map r1), dI 0, dI s1, dI s2, dI s3, dI s4]))) objs → CallX G.P 28 [.c (vI a), .c (vI b)] objs K := by
    intro objs K hK
    rw [← hT] at hK
    exact tally_c hh hl hK
  clear hT e1 e2 e3 e4 e1' e2' e3' e4' hq hq2 ev
  generalize (Tw a b 0).1 = B at *
  generalize (Qn a b 0).2 = Q at *
  generalize Cn a b 0 = C at *
  have hgp : 0 < Nat.gcd C Q := Nat.gcd_pos_of_pos_left _ hcp
  generalize hG : Nat.gcd C Q = g at *
  refine fn_of_body (G := G) Try.func10 rfl (by decide) (Nat.le_of_ble_eq_true rfl) ?_
  conv => whnf
  repeat' first
    | exact True.intro
    | (refine draw_mkF ?_ ?_ ?_; (focus (decide +kernel)); (focus (kernel_rfl)); conv => whnf)
    | (refine Both.mk ?_ ?_ <;> conv => whnf)
    | (refine NilQ.mk (fun hnil => ?_) ?_ <;> conv => whnf)
    | (refine draw_mk (by kernel_rfl) ?_; conv => whnf)
    | (refine Br.mk (fun hb => ?_) (fun hb => ?_) <;> conv => whnf)
    | (refine call_sn ?_ (isStripSize_ok ?_ ?_) ?_; (focus ((repeat' first | exact snapRow | exact snap_row (by simp; done) | exact rfl | exact trivial | apply And.intro | omega | (simp; done)); done)); conv => whnf)
    | (refine callP_sn ?_ (isStripSize_ok ?_ ?_) ?_; (focus ((repeat' first | exact snapRow | exact snap_row (by simp; done) | exact rfl | exact trivial | apply And.intro | omega | (simp; done)); done)); conv => whnf)
  · rw [hsb] at hb; cases hb
  refine htc ?_
  conv => whnf
  repeat' first
    | exact True.intro
    | (refine draw_mkF ?_ ?_ ?_; (focus (decide +kernel)); (focus (kernel_rfl)); conv => whnf)
    | (refine Both.mk ?_ ?_ <;> conv => whnf)
    | (refine NilQ.mk (fun hnil => ?_) ?_ <;> conv => whnf)
    | (refine draw_mk (by kernel_rfl) ?_; conv => whnf)
    | (refine Br.mk (fun hb => ?_) (fun hb => ?_) <;> conv => whnf)
    | (refine call_sn ?_ (hs) ?_; (focus ((repeat' first | exact snapRow | exact snap_row (by simp; done) | exact rfl | exact trivial | apply And.intro | omega | (simp; done)); done)); conv => whnf)
    | (refine callP_sn ?_ (hs) ?_; (focus ((repeat' first | exact snapRow | exact snap_row (by simp; done) | exact rfl | exact trivial | apply And.intro | omega | (simp; done)); done)); conv => whnf)
    | (refine call_sn ?_ (hs2) ?_; (focus ((repeat' first | exact snapRow | exact snap_row (by simp; done) | exact rfl | exact trivial | apply And.intro | omega | (simp; done)); done)); conv => whnf)
    | (refine callP_sn ?_ (hs2) ?_; (focus ((repeat' first | exact snapRow | exact snap_row (by simp; done) | exact rfl | exact trivial | apply And.intro | omega | (simp; done)); done)); conv => whnf)
    | (refine call_sn ?_ (hg) ?_; (focus ((repeat' first | exact snapRow | exact snap_row (by simp; done) | exact rfl | exact trivial | apply And.intro | omega | (simp; done)); done)); conv => whnf)
    | (refine callP_sn ?_ (hg) ?_; (focus ((repeat' first | exact snapRow | exact snap_row (by simp; done) | exact rfl | exact trivial | apply And.intro | omega | (simp; done)); done)); conv => whnf)
    | (refine And.intro ?_ ?_; (focus (first | decide | omega | (simp at *; omega) | (simp_all; done))); conv => whnf)
  try conv => whnf
  have d1 : IntKind.i64.wrap ((Q : Int).tdiv (g : Int)) = ((Q / g : Nat) : Int) := by
    have h1 : Q / g ≤ Q := Nat.div_le_self _ _
    rw [← Int.ofNat_tdiv]
    generalize Q / g = x at *
    rw [wrap_i64 _ (by omega) (by omega)]
  have d2 : IntKind.i64.wrap ((C : Int).tdiv (g : Int)) = ((C / g : Nat) : Int) := by
    have h1 : C / g ≤ C := Nat.div_le_self _ _
    rw [← Int.ofNat_tdiv]
    generalize C / g = x at *
    rw [wrap_i64 _ (by omega) (by omega)]
  rw [d1, d2]
  exact ⟨⟨rfl, rfl, rfl, trivial⟩, by simp [refVs, refCV]⟩

def ints (l : List Nat) : List Int := l.map fun n : Nat => (n : Int)

theorem sqL_ints {h l : Nat} (hh : 1 ≤ h ∧ h < 5) (hl : l ≤ 30) : sqL h l = ints (padN (Bn h l 0) (h * l + 1)) := by
  have h4 : (Bw h l 0).length = (Bn h l 0).length := by rw [Bw_Bn, wl_len]
  apply List.ext_getElem
  · unfold sqL ints
    rw [List.length_map, padN_len, padTo_len, h4]
  · intro i h1 h2
    have e := sqL_get hh hl i
    rw [← padN_getD (Bn h l 0) (h * l + 1)] at e
    unfold ints at h2 ⊢
    rw [List.length_map] at h2
    simp only [List.getD, List.getElem?_eq_getElem h1, List.getElem?_eq_getElem h2, Option.getD_some] at e
    rw [e, List.getElem_map]

theorem take_sum_le (l : List Nat) (k : Nat) : (l.take k).sum ≤ l.sum := by
  have := List.take_append_drop k l
  conv => rhs; rw [← this]
  rw [List.sum_append]
  omega

/-- The first k numbers, each times its place, together. -/
def wk (l : List Nat) (k : Nat) : Nat := ((List.range k).map fun i => i * l.getD i 0).sum

theorem wk_succ (l : List Nat) (k : Nat) : wk l (k + 1) = wk l k + k * l.getD k 0 := by
  unfold wk
  rw [List.range_succ, List.map_append, List.sum_append]; simp

theorem wk_le (l : List Nat) {k n : Nat} (h : k ≤ n) : wk l k ≤ wk l n := by
  induction n with
  | zero => have : k = 0 := by omega
            subst this; exact Nat.le_refl _
  | succ n ih =>
    by_cases e : k = n + 1
    · subst e; exact Nat.le_refl _
    · rw [wk_succ]; have := ih (by omega); omega

theorem specMean_yes (a b : Nat) (hh : 1 ≤ a ∧ a < 5) (hl : 1 ≤ b ∧ b ≤ 30) : Fn G.P 11 [aI a, aI b] (.tup [aI (((Qn a b 0).2 / Nat.gcd (Cn a b 0) (Qn a b 0).2 : Nat) : Int), aI ((Cn a b 0 / Nat.gcd (Cn a b 0) (Qn a b 0).2 : Nat) : Int), aB true]) := by
  have hsb : stripB a b = true := by simp [stripB, inB]; omega
  have hs := stSquares_yes a b hh hl
  have hlen := sqL_len hh hl
  rw [sqL_ints hh hl.2] at hs hlen
  have hab : a * b ≤ 4 * 30 := Nat.mul_le_mul (by omega) hl.2
  have hqs := Qn_small hh hl.2
  have hcs := Cn_small hh hl.2
  have hcp := Cn_pos hh 1000 b 0 (Nat.lt_of_lt_of_le (mu_small hh.2 hl.2) (by omega)) hl.2 (Nat.pow_pos (by omega)) rch_zero
  have hg := cuCommon_ok (Qn a b 0).2 (Cn a b 0) (by omega) (by omega)
  rw [Nat.gcd_comm] at hg
  have hR1 : (padN (Bn a b 0) (a * b + 1)).sum = Cn a b 0 := by rw [padN_sum, Bn_sum]
  have hR2 : wk (padN (Bn a b 0) (a * b + 1)) (padN (Bn a b 0) (a * b + 1)).length = (Qn a b 0).2 := by
    have : wk (padN (Bn a b 0) (a * b + 1)) (padN (Bn a b 0) (a * b + 1)).length = wsum (padN (Bn a b 0) (a * b + 1)) := rfl
    rw [this, padN_wsum, Bn_wsum]
  generalize padN (Bn a b 0) (a * b + 1) = R at *
  have hRl : R.length ≤ 121 := by
    have : (ints R).length = R.length := by simp [ints]
    omega
  generalize (Qn a b 0).2 = Q at *
  generalize Cn a b 0 = C at *
  have hgp : 0 < Nat.gcd C Q := Nat.gcd_pos_of_pos_left _ hcp
  generalize hG : Nat.gcd C Q = g at *
  refine fn_of_body (G := G) Try.func11 rfl (by decide) (Nat.le_of_ble_eq_true rfl) ?_
  conv => whnf
  repeat' first
    | exact True.intro
    | (refine draw_mkF ?_ ?_ ?_; (focus (decide +kernel)); (focus (kernel_rfl)); conv => whnf)
    | (refine Both.mk ?_ ?_ <;> conv => whnf)
    | (refine NilQ.mk (fun hnil => ?_) ?_ <;> conv => whnf)
    | (refine draw_mk (by kernel_rfl) ?_; conv => whnf)
    | (refine Br.mk (fun hb => ?_) (fun hb => ?_) <;> conv => whnf)
    | (refine call_sn ?_ (stSize_ok ?_ ?_) ?_; (focus ((repeat' first | exact snapRow | exact snap_row (by simp; done) | exact rfl | exact trivial | apply And.intro | omega | (simp; done)); done)); conv => whnf)
    | (refine callP_sn ?_ (stSize_ok ?_ ?_) ?_; (focus ((repeat' first | exact snapRow | exact snap_row (by simp; done) | exact rfl | exact trivial | apply And.intro | omega | (simp; done)); done)); conv => whnf)
    | (refine call_sn ?_ (hs) ?_; (focus ((repeat' first | exact snapRow | exact snap_row (by simp; done) | exact rfl | exact trivial | apply And.intro | omega | (simp; done)); done)); conv => whnf)
    | (refine callP_sn ?_ (hs) ?_; (focus ((repeat' first | exact snapRow | exact snap_row (by simp; done) | exact rfl | exact trivial | apply And.intro | omega | (simp; done)); done)); conv => whnf)
    | (refine And.intro ?_ ?_; (focus (first | decide | omega | (simp at *; omega) | (simp_all; done))); conv => whnf)
  · rw [hsb] at hb; cases hb
  refine .inl ⟨Nat, fun i => R.length - i, fun i => i ≤ R.length, fun i => ⟨[(7, .one (.c (vI (wk R i : Nat)))), (8, .one (.c (vI ((R.take i).sum : Nat)))), (18, .one (.c (.sl 0 0 1 0 R.length none))), (19, .one (.c (vI R.length))), (20, .one (.c (vI i)))],
    [(0, .arr 1 ((ints R).map r1))], _⟩, 0, Nat.zero_le _, weak_of rfl ?_ rfl (Nat.zero_le _), fun i hi => ?_⟩
  · rw [List.length_map, show (ints R).length = R.length by simp [ints]]
    (repeat' first | exact rfl | exact trivial | apply And.intro | (simp [getE]; done))
  replace hi : i ≤ R.length := hi
  conv => whnf
  refine Br.mk (fun hb1 => ?_) (fun hb1 => ?_) <;> conv => whnf
  · have hlt : i < R.length := by simp at hb1; omega
    have hw : IntKind.i64.wrap ((i : Int) + 1) = ((i + 1 : Nat) : Int) := by rw [wrap_i64 _ (by omega) (by omega)]; omega
    have hx : ((ints R).map r1)[0 + ((i : Int)).toNat]? = some [dI ((R.getD i 0 : Nat) : Int)] := by
      rw [Nat.zero_add, Int.toNat_natCast]
      unfold ints
      simp [List.getElem?_map, List.getElem?_eq_getElem hlt, List.getD, r1]
    have h1 := wk_le R hlt
    rw [hR2, wk_succ] at h1
    have h2 := take_sum_le R (i + 1)
    rw [hR1, take_sumN] at h2
    have h3 : i * R.getD i 0 ≤ Q := by omega
    have w1 : IntKind.i64.wrap ((i : Int) * ((R.getD i 0 : Nat) : Int)) = ((i * R.getD i 0 : Nat) : Int) := by
      rw [← Int.natCast_mul]
      generalize i * R.getD i 0 = z at *
      exact wrap_i64 _ (by omega) (by omega)
    have w2 : IntKind.i64.wrap (((wk R i : Nat) : Int) + ((i * R.getD i 0 : Nat) : Int)) = ((wk R (i + 1) : Nat) : Int) := by
      rw [wk_succ]
      generalize i * R.getD i 0 = z at *
      rw [wrap_i64 _ (by omega) (by omega)]; omega
    have w3 : IntKind.i64.wrap ((((R.take i).sum : Nat) : Int) + ((R.getD i 0 : Nat) : Int)) = (((R.take (i + 1)).sum : Nat) : Int) := by
      rw [take_sumN, wrap_i64 _ (by omega) (by omega)]; omega
    repeat' first
      | (refine draw_mk (by kernel_rfl) ?_; conv => whnf)
      | (refine El.get hx ?_; conv => whnf)
      | (refine And.intro ?_ ?_; (focus (simp [ints]; try omega)); conv => whnf)
    rw [w1, w2, w3, hw]
    refine ⟨i + 1, hlt, (by omega : R.length - (i + 1) < R.length - i), weak_of rfl ?_ rfl (Nat.zero_le _)⟩
    (repeat' first | exact rfl | exact trivial | apply And.intro | (simp [getE]; done))
  · have hie : i = R.length := by simp at hb1; omega
    subst hie
    rw [hR2, List.take_length, hR1]
    repeat' first
      | exact True.intro
      | (refine draw_mkF ?_ ?_ ?_; (focus (decide +kernel)); (focus (kernel_rfl)); conv => whnf)
      | (refine Both.mk ?_ ?_ <;> conv => whnf)
      | (refine NilQ.mk (fun hnil => ?_) ?_ <;> conv => whnf)
      | (refine draw_mk (by kernel_rfl) ?_; conv => whnf)
      | (refine Br.mk (fun hb => ?_) (fun hb => ?_) <;> conv => whnf)
      | (refine call_sn ?_ (hg) ?_; (focus ((repeat' first | exact snapRow | exact snap_row (by simp; done) | exact rfl | exact trivial | apply And.intro | omega | (simp; done)); done)); conv => whnf)
      | (refine callP_sn ?_ (hg) ?_; (focus ((repeat' first | exact snapRow | exact snap_row (by simp; done) | exact rfl | exact trivial | apply And.intro | omega | (simp; done)); done)); conv => whnf)
      | (refine And.intro ?_ ?_; (focus (first | decide | omega | (simp at *; omega) | (simp_all; done))); conv => whnf)
    have d1 : IntKind.i64.wrap ((Q : Int).tdiv (g : Int)) = ((Q / g : Nat) : Int) := by
      have h1 : Q / g ≤ Q := Nat.div_le_self _ _
      rw [← Int.ofNat_tdiv]
      generalize Q / g = x at *
      rw [wrap_i64 _ (by omega) (by omega)]
    have d2 : IntKind.i64.wrap ((C : Int).tdiv (g : Int)) = ((C / g : Nat) : Int) := by
      have h1 : C / g ≤ C := Nat.div_le_self _ _
      rw [← Int.ofNat_tdiv]
      generalize C / g = x at *
      rw [wrap_i64 _ (by omega) (by omega)]
    rw [d1, d2]
    exact ⟨⟨rfl, rfl, rfl, trivial⟩, by simp [refVs, refCV]⟩

noncomputable def meanR (h l : Int) : Int × Int × Bool :=
  if stripB h l then ((((Qn h.toNat l.toNat 0).2 / Nat.gcd (Cn h.toNat l.toNat 0) (Qn h.toNat l.toNat 0).2 : Nat) : Int), ((Cn h.toNat l.toNat 0 / Nat.gcd (Cn h.toNat l.toNat 0) (Qn h.toNat l.toNat 0).2 : Nat) : Int), true) else (0, 0, false)

theorem specMean (h l : Int) : Fn G.P 11 [aI h, aI l] (.tup [aI (meanR h l).1, aI (meanR h l).2.1, aB (meanR h l).2.2]) := by
  unfold meanR
  by_cases hsb : stripB h l = true
  · rw [if_pos hsb]
    obtain ⟨a, b, rfl, rfl, h1, h2, h3, h4⟩ := strip_nat hsb
    exact specMean_yes a b ⟨h1, h2⟩ ⟨h3, h4⟩
  · rw [if_neg hsb]
    have hb0 : stripB h l = false := by simpa using hsb
    refine fn_of_body (G := G) Try.func11 rfl (by decide) (Nat.le_of_ble_eq_true rfl) ?_
    conv => whnf
    repeat' first
      | exact True.intro
      | (refine draw_mkF ?_ ?_ ?_; (focus (decide +kernel)); (focus (kernel_rfl)); conv => whnf)
      | (refine Both.mk ?_ ?_ <;> conv => whnf)
      | (refine NilQ.mk (fun hnil => ?_) ?_ <;> conv => whnf)
      | (refine draw_mk (by kernel_rfl) ?_; conv => whnf)
      | (refine Br.mk (fun hb => ?_) (fun hb => ?_) <;> conv => whnf)
      | (refine call_sn ?_ (stSize_ok ?_ ?_) ?_; (focus ((repeat' first | exact snapRow | exact snap_row (by simp; done) | exact rfl | exact trivial | apply And.intro | omega | (simp; done)); done)); conv => whnf)
      | (refine callP_sn ?_ (stSize_ok ?_ ?_) ?_; (focus ((repeat' first | exact snapRow | exact snap_row (by simp; done) | exact rfl | exact trivial | apply And.intro | omega | (simp; done)); done)); conv => whnf)
    · exact ⟨⟨rfl, rfl, rfl, trivial⟩, by simp [refVs, refCV]⟩
    · simp_all

theorem implMean (h l : Int) : Fn G.P 10 [aI h, aI l] (.tup [aI (meanR h l).1, aI (meanR h l).2.1, aB (meanR h l).2.2]) := by
  unfold meanR
  by_cases hsb : stripB h l = true
  · rw [if_pos hsb]
    obtain ⟨a, b, rfl, rfl, h1, h2, h3, h4⟩ := strip_nat hsb
    exact implMean_yes a b ⟨h1, h2⟩ ⟨h3, h4⟩
  · rw [if_neg hsb]
    have hb0 : stripB h l = false := by simpa using hsb
    refine fn_of_body (G := G) Try.func10 rfl (by decide) (Nat.le_of_ble_eq_true rfl) ?_
    conv => whnf
    repeat' first
      | exact True.intro
      | (refine draw_mkF ?_ ?_ ?_; (focus (decide +kernel)); (focus (kernel_rfl)); conv => whnf)
      | (refine Both.mk ?_ ?_ <;> conv => whnf)
      | (refine NilQ.mk (fun hnil => ?_) ?_ <;> conv => whnf)
      | (refine draw_mk (by kernel_rfl) ?_; conv => whnf)
      | (refine Br.mk (fun hb => ?_) (fun hb => ?_) <;> conv => whnf)
      | (refine call_sn ?_ (isStripSize_ok ?_ ?_) ?_; (focus ((repeat' first | exact snapRow | exact snap_row (by simp; done) | exact rfl | exact trivial | apply And.intro | omega | (simp; done)); done)); conv => whnf)
      | (refine callP_sn ?_ (isStripSize_ok ?_ ?_) ?_; (focus ((repeat' first | exact snapRow | exact snap_row (by simp; done) | exact rfl | exact trivial | apply And.intro | omega | (simp; done)); done)); conv => whnf)
    · exact ⟨⟨rfl, rfl, rfl, trivial⟩, by simp [refVs, refCV]⟩
    · simp_all

end Go.Proofs.Ytnmeehiahlfgaaa

/- Cuts that fit clues; the law. -/
import Derived.Test.YtmfdkjjhdjkgpaaQZai
namespace Go.Proofs.Ytmfdkjjhdjkgpaa
open Go Go.RowKit
set_option maxRecDepth 10000
set_option maxHeartbeats 1000000
set_option linter.unusedSimpArgs false

/-- A kind that has two numbers. -/
def twoB (k : Int) : Bool := inB k 1 3

/-- A cut fits a clue. -/
def fitsB (k a b : Int) (w h : Nat) (sq : List (Int × Int × Int)) : Bool := if twoB k then tellI k a w h sq == b else tellI k 0 w h sq == a

theorem hasTwo_ok (k : Int) : Fn G.P 65 [aI k] (.one (aB (twoB k))) := by
  refine fn_of_body (G := G) Try.func65 rfl (by decide) (Nat.le_of_ble_eq_true rfl) ?_
  conv => whnf
  repeat' first
    | exact True.intro
    | (refine draw_mkF ?_ ?_ ?_; (focus (decide +kernel)); (focus (kernel_rfl)); conv => whnf)
    | (refine Both.mk ?_ ?_ <;> conv => whnf)
    | (refine OwnQ.own ?_; conv => whnf)
    | (refine NilQ.mk (fun hnil => ?_) ?_ <;> conv => whnf)
    | (refine draw_mk (by kernel_rfl) ?_; conv => whnf)
    | (refine Br.mk (fun hb => ?_) (fun hb => ?_) <;> conv => whnf)
    | (refine call_sn ?_ (within_ok ?_ ?_ ?_) ?_; (focus ((repeat' first | exact snapRow | exact snap_row (by simp; done) | exact rfl | exact trivial | apply And.intro | omega | (simp; done)); done)); conv => whnf)
    | (refine callP_sn ?_ (within_ok ?_ ?_ ?_) ?_; (focus ((repeat' first | exact snapRow | exact snap_row (by simp; done) | exact rfl | exact trivial | apply And.intro | omega | (simp; done)); done)); conv => whnf)
    | (refine And.intro ?_ ?_; (focus (first | decide | omega | (simp at *; omega) | (simp_all; done))); conv => whnf)
  all_goals first | (simp_all [resOK_iff, resVs, resCell, resCells, refVs, refCV, refCs, twoB]; done) | (simp_all [resOK_iff, resVs, resCell, resCells, refVs, refCV, refCs, twoB]; omega)

theorem pzAlone_ok (k : Int) (hk : 0 ≤ k) : Fn G.P 61 [aI k] (.one (aB (!twoB k))) := by
  have e : (!twoB k) = (k == 0 || decide (k > 3)) := by
    rw [Bool.eq_iff_iff]
    simp only [twoB, inB, Bool.not_eq_true', decide_eq_false_iff_not, Bool.or_eq_true, beq_iff_eq, decide_eq_true_eq]
    omega
  rw [e]
  refine fn_of_body (G := G) Try.func61 rfl (by decide) (Nat.le_of_ble_eq_true rfl) ?_
  conv => whnf
  repeat' first
    | exact True.intro
    | (refine draw_mkF ?_ ?_ ?_; (focus (decide +kernel)); (focus (kernel_rfl)); conv => whnf)
    | (refine Both.mk ?_ ?_ <;> conv => whnf)
    | (refine OwnQ.own ?_; conv => whnf)
    | (refine NilQ.mk (fun hnil => ?_) ?_ <;> conv => whnf)
    | (refine draw_mk (by kernel_rfl) ?_; conv => whnf)
    | (refine Br.mk (fun hb => ?_) (fun hb => ?_) <;> conv => whnf)
    | (refine And.intro ?_ ?_; (focus (first | decide | omega | (simp at *; omega) | (simp_all; done))); conv => whnf)
  all_goals (simp_all [resOK_iff, resVs, resCell, refVs, refCV])

theorem tell_of_clue {w h : Nat} {k a b : Int} (hc : clueB w h k a b = true) : tellOK k (if twoB k then a else 0) w h ∧ 0 ≤ k := by
  have hwh : (w : Int) * (h : Int) = ((w * h : Nat) : Int) := (Int.natCast_mul w h).symm
  unfold clueB at hc
  unfold tellOK twoB
  rw [hwh] at hc
  generalize w * h = z at hc
  simp only [inB] at *
  repeat' split at hc
  all_goals
    subst_vars
    simp_all
  all_goals omega

theorem implFits_ok {w h : Nat} {sq : List (Int × Int × Int)} {k a b : Int} (hg : goodCutB w h sq = true) (hk : tellOK k (if twoB k then a else 0) w h) :
    Fn G.P 57 [.agg (dClue k a b), .agg (dCut w h sq)] (.one (aB (fitsB k a b w h sq))) := by
  obtain ⟨⟨g1, g2⟩, ⟨g3, g4⟩, ⟨g5, g6⟩, _⟩ := good_chk hg
  have ht := tiled_of_good hg
  have h2 := hasTwo_ok k
  have hto := told_ok ht (by omega) (by omega) ⟨g5, g6⟩ hk
  unfold fitsB
  cases hb2 : twoB k
  all_goals
    rw [hb2] at hto h2
    simp only [if_true, if_false, reduceIte, Bool.false_eq_true] at hto ⊢
    refine fn_of_body (G := G) Try.func57 rfl (by decide) (Nat.le_of_ble_eq_true rfl) ?_
    conv => whnf
    repeat' first
      | exact True.intro
      | (refine draw_mkF ?_ ?_ ?_; (focus (decide +kernel)); (focus (kernel_rfl)); conv => whnf)
      | (refine Both.mk ?_ ?_ <;> conv => whnf)
      | (refine OwnQ.own ?_; conv => whnf)
      | (refine NilQ.mk (fun hnil => ?_) ?_ <;> conv => whnf)
      | (refine draw_mk (by kernel_rfl) ?_; conv => whnf)
      | (refine Br.mk (fun hb => ?_) (fun hb => ?_) <;> conv => whnf)
      | (refine call_sn ?_ (h2) ?_; (focus ((repeat' first | exact snapRow | exact snap_row (by simp; done) | exact rfl | exact trivial | apply And.intro | omega | (simp; done)); done)); conv => whnf)
      | (refine callP_sn ?_ (h2) ?_; (focus ((repeat' first | exact snapRow | exact snap_row (by simp; done) | exact rfl | exact trivial | apply And.intro | omega | (simp; done)); done)); conv => whnf)
      | (refine call_sn ?_ (hto) ?_; (focus ((repeat' first | exact snapRow | exact snap_row (by simp; done) | exact rfl | exact trivial | apply And.intro | omega | (simp; done)); done)); conv => whnf)
      | (refine callP_sn ?_ (hto) ?_; (focus ((repeat' first | exact snapRow | exact snap_row (by simp; done) | exact rfl | exact trivial | apply And.intro | omega | (simp; done)); done)); conv => whnf)
      | (refine And.intro ?_ ?_; (focus (first | decide | omega | (simp at *; omega) | (simp_all; done))); conv => whnf)
    all_goals exact ⟨⟨rfl, trivial⟩, by simp [refVs, refCV]⟩

theorem specFits_ok {w h : Nat} {sq : List (Int × Int × Int)} {k a b : Int} (hg : goodCutB w h sq = true) (hk : tellOK k (if twoB k then a else 0) w h) (hk0 : 0 ≤ k) :
    Fn G.P 53 [.agg (dClue k a b), .agg (dCut w h sq)] (.one (aB (fitsB k a b w h sq))) := by
  have h2 := pzAlone_ok k hk0
  have hto := pzValue_ok hg hk
  unfold fitsB
  cases hb2 : twoB k
  all_goals
    rw [hb2] at hto h2
    simp only [if_true, if_false, reduceIte, Bool.false_eq_true, Bool.not_true, Bool.not_false] at hto h2 ⊢
    refine fn_of_body (G := G) Try.func53 rfl (by decide) (Nat.le_of_ble_eq_true rfl) ?_
    conv => whnf
    repeat' first
      | exact True.intro
      | (refine draw_mkF ?_ ?_ ?_; (focus (decide +kernel)); (focus (kernel_rfl)); conv => whnf)
      | (refine Both.mk ?_ ?_ <;> conv => whnf)
      | (refine OwnQ.own ?_; conv => whnf)
      | (refine NilQ.mk (fun hnil => ?_) ?_ <;> conv => whnf)
      | (refine draw_mk (by kernel_rfl) ?_; conv => whnf)
      | (refine Br.mk (fun hb => ?_) (fun hb => ?_) <;> conv => whnf)
      | (refine call_sn ?_ (h2) ?_; (focus ((repeat' first | exact snapRow | exact snap_row (by simp; done) | exact rfl | exact trivial | apply And.intro | omega | (simp; done)); done)); conv => whnf)
      | (refine callP_sn ?_ (h2) ?_; (focus ((repeat' first | exact snapRow | exact snap_row (by simp; done) | exact rfl | exact trivial | apply And.intro | omega | (simp; done)); done)); conv => whnf)
      | (refine call_sn ?_ (hto) ?_; (focus ((repeat' first | exact snapRow | exact snap_row (by simp; done) | exact rfl | exact trivial | apply And.intro | omega | (simp; done)); done)); conv => whnf)
      | (refine callP_sn ?_ (hto) ?_; (focus ((repeat' first | exact snapRow | exact snap_row (by simp; done) | exact rfl | exact trivial | apply And.intro | omega | (simp; done)); done)); conv => whnf)
      | (refine And.intro ?_ ?_; (focus (first | decide | omega | (simp at *; omega) | (simp_all; done))); conv => whnf)
    all_goals exact ⟨⟨rfl, trivial⟩, by simp [refVs, refCV]⟩

/-- A hidden cut and its clue. -/
def fitOK (w h : Int) (sq : List (Int × Int × Int)) (k a b : Int) : Bool := (goodCutB w h sq && hiddenB w h) && clueB w h k a b

/-- What DoesFit gives. -/
def fitR (w h : Int) (sq : List (Int × Int × Int)) (k a b : Int) : Bool × Bool := if fitOK w h sq k a b then (fitsB k a b w.toNat h.toNat sq, true) else (false, false)

theorem isHiddenCut_ok (w h : Int) (sq : List (Int × Int × Int)) (hn : sq.length ≤ 2 ^ 40) : Fn G.P 55 [.agg (dCut w h sq)] (.one (aB (goodCutB w h sq && hiddenB w h))) := by
  have hc := isCut_ok w h sq hn
  refine fn_of_body (G := G) Try.func55 rfl (by decide) (Nat.le_of_ble_eq_true rfl) ?_
  conv => whnf
  repeat' first
    | exact True.intro
    | (refine draw_mkF ?_ ?_ ?_; (focus (decide +kernel)); (focus (kernel_rfl)); conv => whnf)
    | (refine Both.mk ?_ ?_ <;> conv => whnf)
    | (refine OwnQ.own ?_; conv => whnf)
    | (refine NilQ.mk (fun hnil => ?_) ?_ <;> conv => whnf)
    | (refine draw_mk (by kernel_rfl) ?_; conv => whnf)
    | (refine Br.mk (fun hb => ?_) (fun hb => ?_) <;> conv => whnf)
    | (refine call_sn ?_ (hc) ?_; (focus ((repeat' first | exact snapRow | exact snap_row (by simp; done) | exact rfl | exact trivial | apply And.intro | omega | (simp; done)); done)); conv => whnf)
    | (refine callP_sn ?_ (hc) ?_; (focus ((repeat' first | exact snapRow | exact snap_row (by simp; done) | exact rfl | exact trivial | apply And.intro | omega | (simp; done)); done)); conv => whnf)
    | (refine call_sn ?_ (isHidden_ok ?_ ?_) ?_; (focus ((repeat' first | exact snapRow | exact snap_row (by simp; done) | exact rfl | exact trivial | apply And.intro | omega | (simp; done)); done)); conv => whnf)
    | (refine callP_sn ?_ (isHidden_ok ?_ ?_) ?_; (focus ((repeat' first | exact snapRow | exact snap_row (by simp; done) | exact rfl | exact trivial | apply And.intro | omega | (simp; done)); done)); conv => whnf)
    | (refine And.intro ?_ ?_; (focus (first | decide | omega | (simp at *; omega) | (simp_all; done))); conv => whnf)
  all_goals first | (simp_all [resOK_iff, resVs, resCell, resCells, refVs, refCV, refCs]; done) | (simp_all [resOK_iff, resVs, resCell, resCells, refVs, refCV, refCs]; omega)

theorem pzHidden_ok (w h : Int) (sq : List (Int × Int × Int)) (hn : sq.length ≤ 2 ^ 40) : Fn G.P 51 [.agg (dCut w h sq)] (.one (aB (goodCutB w h sq && hiddenB w h))) := by
  have hc := cuGood_ok w h sq hn
  refine fn_of_body (G := G) Try.func51 rfl (by decide) (Nat.le_of_ble_eq_true rfl) ?_
  conv => whnf
  repeat' first
    | exact True.intro
    | (refine draw_mkF ?_ ?_ ?_; (focus (decide +kernel)); (focus (kernel_rfl)); conv => whnf)
    | (refine Both.mk ?_ ?_ <;> conv => whnf)
    | (refine OwnQ.own ?_; conv => whnf)
    | (refine NilQ.mk (fun hnil => ?_) ?_ <;> conv => whnf)
    | (refine draw_mk (by kernel_rfl) ?_; conv => whnf)
    | (refine Br.mk (fun hb => ?_) (fun hb => ?_) <;> conv => whnf)
    | (refine call_sn ?_ (hc) ?_; (focus ((repeat' first | exact snapRow | exact snap_row (by simp; done) | exact rfl | exact trivial | apply And.intro | omega | (simp; done)); done)); conv => whnf)
    | (refine callP_sn ?_ (hc) ?_; (focus ((repeat' first | exact snapRow | exact snap_row (by simp; done) | exact rfl | exact trivial | apply And.intro | omega | (simp; done)); done)); conv => whnf)
    | (refine call_sn ?_ (pzSize_ok ?_ ?_) ?_; (focus ((repeat' first | exact snapRow | exact snap_row (by simp; done) | exact rfl | exact trivial | apply And.intro | omega | (simp; done)); done)); conv => whnf)
    | (refine callP_sn ?_ (pzSize_ok ?_ ?_) ?_; (focus ((repeat' first | exact snapRow | exact snap_row (by simp; done) | exact rfl | exact trivial | apply And.intro | omega | (simp; done)); done)); conv => whnf)
    | (refine And.intro ?_ ?_; (focus (first | decide | omega | (simp at *; omega) | (simp_all; done))); conv => whnf)
  all_goals first | (simp_all [resOK_iff, resVs, resCell, resCells, refVs, refCV, refCs]; done) | (simp_all [resOK_iff, resVs, resCell, resCells, refVs, refCV, refCs]; omega)

theorem nat_of_good {w h : Int} {sq : List (Int × Int × Int)} (hg : goodCutB w h sq = true) : ∃ W H : Nat, w = W ∧ h = H := by
  obtain ⟨⟨g1, g2⟩, ⟨g3, g4⟩, _⟩ := good_chk hg
  exact ⟨w.toNat, h.toNat, by omega, by omega⟩

theorem implDoesFit (w h : Int) (sq : List (Int × Int × Int)) (k a b : Int) (hn : sq.length ≤ 2 ^ 40) :
    Fn G.P 20 [.agg (dClue k a b), .agg (dCut w h sq)] (.tup [aB (fitR w h sq k a b).1, aB (fitR w h sq k a b).2]) := by
  have hh := isHiddenCut_ok w h sq hn
  unfold fitR
  by_cases hf : fitOK w h sq k a b = true
  · rw [if_pos hf]
    unfold fitOK at hf
    simp only [Bool.and_eq_true] at hf
    obtain ⟨⟨hg, hi⟩, hc⟩ := hf
    obtain ⟨W, H, rfl, rfl⟩ := nat_of_good hg
    have hcl := isClue_ok W H k a b
    rw [show isClueB W H k a b = true by simp [isClueB, hi, hc]] at hcl
    rw [hg, hi] at hh
    have hfi := implFits_ok (a := a) (b := b) hg (tell_of_clue hc).1
    dsimp only
    rw [Int.toNat_natCast, Int.toNat_natCast]
    refine fn_of_body (G := G) Try.func20 rfl (by decide) (Nat.le_of_ble_eq_true rfl) ?_
    conv => whnf
    repeat' first
      | exact True.intro
      | (refine draw_mkF ?_ ?_ ?_; (focus (decide +kernel)); (focus (kernel_rfl)); conv => whnf)
      | (refine Both.mk ?_ ?_ <;> conv => whnf)
      | (refine OwnQ.own ?_; conv => whnf)
      | (refine NilQ.mk (fun hnil => ?_) ?_ <;> conv => whnf)
      | (refine draw_mk (by kernel_rfl) ?_; conv => whnf)
      | (refine Br.mk (fun hb => (by exfalso; first | (simp [not_true_eq_false] at hb; done) | (simp [not_true_eq_false] at hb; omega))) (fun hb => ?_); clear hb; conv => whnf)
      | (refine Br.mk (fun hb => ?_) (fun hb => (by exfalso; first | (simp [not_true_eq_false] at hb; done) | (simp [not_true_eq_false] at hb; omega))); clear hb; conv => whnf)
      | (refine Br.mk (fun hb => ?_) (fun hb => ?_) <;> conv => whnf)
      | (refine call_sn ?_ (hh) ?_; (focus ((repeat' first | exact snapRow | exact snap_row (by simp; done) | exact rfl | exact trivial | apply And.intro | omega | (simp; done)); done)); conv => whnf)
      | (refine callP_sn ?_ (hh) ?_; (focus ((repeat' first | exact snapRow | exact snap_row (by simp; done) | exact rfl | exact trivial | apply And.intro | omega | (simp; done)); done)); conv => whnf)
      | (refine call_sn ?_ (hcl) ?_; (focus ((repeat' first | exact snapRow | exact snap_row (by simp; done) | exact rfl | exact trivial | apply And.intro | omega | (simp; done)); done)); conv => whnf)
      | (refine callP_sn ?_ (hcl) ?_; (focus ((repeat' first | exact snapRow | exact snap_row (by simp; done) | exact rfl | exact trivial | apply And.intro | omega | (simp; done)); done)); conv => whnf)
      | (refine call_sn ?_ (hfi) ?_; (focus ((repeat' first | exact snapRow | exact snap_row (by simp; done) | exact rfl | exact trivial | apply And.intro | omega | (simp; done)); done)); conv => whnf)
      | (refine callP_sn ?_ (hfi) ?_; (focus ((repeat' first | exact snapRow | exact snap_row (by simp; done) | exact rfl | exact trivial | apply And.intro | omega | (simp; done)); done)); conv => whnf)
      | (refine And.intro ?_ ?_; (focus (first | decide | omega | (simp at *; omega) | (simp_all; done))); conv => whnf)
    exact ⟨⟨rfl, rfl, trivial⟩, by simp [refVs, refCV]⟩
  · rw [if_neg hf]
    have hcl := isClue_ok w h k a b
    refine fn_of_body (G := G) Try.func20 rfl (by decide) (Nat.le_of_ble_eq_true rfl) ?_
    conv => whnf
    repeat' first
      | exact True.intro
      | (refine draw_mkF ?_ ?_ ?_; (focus (decide +kernel)); (focus (kernel_rfl)); conv => whnf)
      | (refine Both.mk ?_ ?_ <;> conv => whnf)
      | (refine OwnQ.own ?_; conv => whnf)
      | (refine NilQ.mk (fun hnil => ?_) ?_ <;> conv => whnf)
      | (refine draw_mk (by kernel_rfl) ?_; conv => whnf)
      | (refine Br.mk (fun hb => ?_) (fun hb => ?_) <;> conv => whnf)
      | (refine call_sn ?_ (hh) ?_; (focus ((repeat' first | exact snapRow | exact snap_row (by simp; done) | exact rfl | exact trivial | apply And.intro | omega | (simp; done)); done)); conv => whnf)
      | (refine callP_sn ?_ (hh) ?_; (focus ((repeat' first | exact snapRow | exact snap_row (by simp; done) | exact rfl | exact trivial | apply And.intro | omega | (simp; done)); done)); conv => whnf)
      | (refine call_sn ?_ (hcl) ?_; (focus ((repeat' first | exact snapRow | exact snap_row (by simp; done) | exact rfl | exact trivial | apply And.intro | omega | (simp; done)); done)); conv => whnf)
      | (refine callP_sn ?_ (hcl) ?_; (focus ((repeat' first | exact snapRow | exact snap_row (by simp; done) | exact rfl | exact trivial | apply And.intro | omega | (simp; done)); done)); conv => whnf)
      | (refine And.intro ?_ ?_; (focus (first | decide | omega | (simp at *; omega) | (simp_all; done))); conv => whnf)
    all_goals first
      | exact ⟨⟨rfl, rfl, trivial⟩, by simp [refVs, refCV]⟩
      | (exfalso; simp_all [fitOK, isClueB]; done)

theorem specDoesFit (w h : Int) (sq : List (Int × Int × Int)) (k a b : Int) (hn : sq.length ≤ 2 ^ 40) :
    Fn G.P 17 [.agg (dClue k a b), .agg (dCut w h sq)] (.tup [aB (fitR w h sq k a b).1, aB (fitR w h sq k a b).2]) := by
  have hh := pzHidden_ok w h sq hn
  unfold fitR
  by_cases hf : fitOK w h sq k a b = true
  · rw [if_pos hf]
    unfold fitOK at hf
    simp only [Bool.and_eq_true] at hf
    obtain ⟨⟨hg, hi⟩, hc⟩ := hf
    obtain ⟨W, H, rfl, rfl⟩ := nat_of_good hg
    have hcl := pzClue_ok W H k a b hi
    rw [hc] at hcl
    rw [hg, hi] at hh
    have hfi := specFits_ok (a := a) (b := b) hg (tell_of_clue hc).1 (tell_of_clue hc).2
    dsimp only
    rw [Int.toNat_natCast, Int.toNat_natCast]
    refine fn_of_body (G := G) Try.func17 rfl (by decide) (Nat.le_of_ble_eq_true rfl) ?_
    conv => whnf
    repeat' first
      | exact True.intro
      | (refine draw_mkF ?_ ?_ ?_; (focus (decide +kernel)); (focus (kernel_rfl)); conv => whnf)
      | (refine Both.mk ?_ ?_ <;> conv => whnf)
      | (refine OwnQ.own ?_; conv => whnf)
      | (refine NilQ.mk (fun hnil => ?_) ?_ <;> conv => whnf)
      | (refine draw_mk (by kernel_rfl) ?_; conv => whnf)
      | (refine Br.mk (fun hb => (by exfalso; first | (simp [not_true_eq_false] at hb; done) | (simp [not_true_eq_false] at hb; omega))) (fun hb => ?_); clear hb; conv => whnf)
      | (refine Br.mk (fun hb => ?_) (fun hb => (by exfalso; first | (simp [not_true_eq_false] at hb; done) | (simp [not_true_eq_false] at hb; omega))); clear hb; conv => whnf)
      | (refine Br.mk (fun hb => ?_) (fun hb => ?_) <;> conv => whnf)
      | (refine call_sn ?_ (hh) ?_; (focus ((repeat' first | exact snapRow | exact snap_row (by simp; done) | exact rfl | exact trivial | apply And.intro | omega | (simp; done)); done)); conv => whnf)
      | (refine callP_sn ?_ (hh) ?_; (focus ((repeat' first | exact snapRow | exact snap_row (by simp; done) | exact rfl | exact trivial | apply And.intro | omega | (simp; done)); done)); conv => whnf)
      | (refine call_sn ?_ (hcl) ?_; (focus ((repeat' first | exact snapRow | exact snap_row (by simp; done) | exact rfl | exact trivial | apply And.intro | omega | (simp; done)); done)); conv => whnf)
      | (refine callP_sn ?_ (hcl) ?_; (focus ((repeat' first | exact snapRow | exact snap_row (by simp; done) | exact rfl | exact trivial | apply And.intro | omega | (simp; done)); done)); conv => whnf)
      | (refine call_sn ?_ (hfi) ?_; (focus ((repeat' first | exact snapRow | exact snap_row (by simp; done) | exact rfl | exact trivial | apply And.intro | omega | (simp; done)); done)); conv => whnf)
      | (refine callP_sn ?_ (hfi) ?_; (focus ((repeat' first | exact snapRow | exact snap_row (by simp; done) | exact rfl | exact trivial | apply And.intro | omega | (simp; done)); done)); conv => whnf)
      | (refine And.intro ?_ ?_; (focus (first | decide | omega | (simp at *; omega) | (simp_all; done))); conv => whnf)
    exact ⟨⟨rfl, rfl, trivial⟩, by simp [refVs, refCV]⟩
  · rw [if_neg hf]
    by_cases hi : hiddenB w h = true
    · have hcl := pzClue_ok w h k a b hi
      refine fn_of_body (G := G) Try.func17 rfl (by decide) (Nat.le_of_ble_eq_true rfl) ?_
      conv => whnf
      repeat' first
        | exact True.intro
        | (refine draw_mkF ?_ ?_ ?_; (focus (decide +kernel)); (focus (kernel_rfl)); conv => whnf)
        | (refine Both.mk ?_ ?_ <;> conv => whnf)
        | (refine OwnQ.own ?_; conv => whnf)
        | (refine NilQ.mk (fun hnil => ?_) ?_ <;> conv => whnf)
        | (refine draw_mk (by kernel_rfl) ?_; conv => whnf)
        | (refine Br.mk (fun hb => ?_) (fun hb => ?_) <;> conv => whnf)
        | (refine call_sn ?_ (hh) ?_; (focus ((repeat' first | exact snapRow | exact snap_row (by simp; done) | exact rfl | exact trivial | apply And.intro | omega | (simp; done)); done)); conv => whnf)
        | (refine callP_sn ?_ (hh) ?_; (focus ((repeat' first | exact snapRow | exact snap_row (by simp; done) | exact rfl | exact trivial | apply And.intro | omega | (simp; done)); done)); conv => whnf)
        | (refine call_sn ?_ (hcl) ?_; (focus ((repeat' first | exact snapRow | exact snap_row (by simp; done) | exact rfl | exact trivial | apply And.intro | omega | (simp; done)); done)); conv => whnf)
        | (refine callP_sn ?_ (hcl) ?_; (focus ((repeat' first | exact snapRow | exact snap_row (by simp; done) | exact rfl | exact trivial | apply And.intro | omega | (simp; done)); done)); conv => whnf)
        | (refine And.intro ?_ ?_; (focus (first | decide | omega | (simp at *; omega) | (simp_all; done))); conv => whnf)
      all_goals first
        | exact ⟨⟨rfl, rfl, trivial⟩, by simp [refVs, refCV]⟩
        | (exfalso; simp_all [fitOK]; done)
    · have hi0 : hiddenB w h = false := by simpa using hi
      rw [hi0, Bool.and_false] at hh
      refine fn_of_body (G := G) Try.func17 rfl (by decide) (Nat.le_of_ble_eq_true rfl) ?_
      conv => whnf
      repeat' first
        | exact True.intro
        | (refine draw_mkF ?_ ?_ ?_; (focus (decide +kernel)); (focus (kernel_rfl)); conv => whnf)
        | (refine Both.mk ?_ ?_ <;> conv => whnf)
        | (refine OwnQ.own ?_; conv => whnf)
        | (refine NilQ.mk (fun hnil => ?_) ?_ <;> conv => whnf)
        | (refine draw_mk (by kernel_rfl) ?_; conv => whnf)
        | (refine Br.mk (fun hb => (by exfalso; first | (simp [Bool.not_false] at hb; done) | (simp [Bool.not_false] at hb; omega))) (fun hb => ?_); clear hb; conv => whnf)
        | (refine Br.mk (fun hb => ?_) (fun hb => (by exfalso; first | (simp [Bool.not_false] at hb; done) | (simp [Bool.not_false] at hb; omega))); clear hb; conv => whnf)
        | (refine Br.mk (fun hb => ?_) (fun hb => ?_) <;> conv => whnf)
        | (refine call_sn ?_ (hh) ?_; (focus ((repeat' first | exact snapRow | exact snap_row (by simp; done) | exact rfl | exact trivial | apply And.intro | omega | (simp; done)); done)); conv => whnf)
        | (refine callP_sn ?_ (hh) ?_; (focus ((repeat' first | exact snapRow | exact snap_row (by simp; done) | exact rfl | exact trivial | apply And.intro | omega | (simp; done)); done)); conv => whnf)
        | (refine And.intro ?_ ?_; (focus (first | decide | omega | (simp at *; omega) | (simp_all; done))); conv => whnf)
      all_goals exact ⟨⟨rfl, rfl, trivial⟩, by simp [refVs, refCV]⟩

theorem fitLaw_ok (k a b w h : Int) (sq : List (Int × Int × Int)) (hn : sq.length ≤ maxLen) : Fn G.P 4 [.agg (dClue k a b), .agg (dCut w h sq)] (.one (aB true)) := by
  have hs := fun hn => specDoesFit w h sq k a b hn
  have hi := fun hn => implDoesFit w h sq k a b hn
  generalize fitR w h sq k a b = r at hs hi
  obtain ⟨RR, t⟩ := r
  dsimp only at hs hi
  have hl0 : (0 : Int) ≤ 1048576 ∧ (1048576 : Int) ≤ 1048576 := by omega
  refine fn_of_body (G := G) Try.func4 rfl (by decide) (Nat.le_of_ble_eq_true rfl) ?_
  conv => whnf
  repeat' first
    | exact True.intro
    | (refine Both.mk ?_ ?_ <;> conv => whnf)
    | (refine OwnQ.own ?_; conv => whnf)
    | (refine NilQ.mk (fun hnil => ?_) ?_ <;> conv => whnf)
    | (refine Br.mk (fun hb => ?_) (fun hb => ?_) <;> conv => whnf)
    | (refine call_sn ?_ (szCut_ok ?_ ?_ ?_ ?_ ?_ ?_) ?_; (focus ((repeat' first | exact snapRow | exact snap_row (by simp; done) | exact rfl | exact trivial | apply And.intro | omega | (simp; done)); done)); assumption; assumption; conv => whnf)
    | (refine callP_sn ?_ (szCut_ok ?_ ?_ ?_ ?_ ?_ ?_) ?_; (focus ((repeat' first | exact snapRow | exact snap_row (by simp; done) | exact rfl | exact trivial | apply And.intro | omega | (simp; done)); done)); assumption; assumption; conv => whnf)
    | (refine And.intro ?_ ?_; (focus (first | decide | omega | (simp at *; omega) | (simp_all; done))); conv => whnf)
  · exact ⟨⟨rfl, trivial⟩, by simp [refVs, refCV]⟩
  have hn1 : sq.length ≤ 2 ^ 20 := by
    by_cases hc : sq.length ≤ (1048576 : Int)
    · omega
    · simp [hc] at hb
  clear hb hn
  have hn2 : sq.length ≤ 2 ^ 40 := by omega
  have hs := hs hn2
  have hi := hi hn2
  have heq0 := eqCut_ok w h sq w h sq hn2
  repeat' first
    | exact True.intro
    | (refine draw_mkF ?_ ?_ ?_; (focus (decide +kernel)); (focus (kernel_rfl)); conv => whnf)
    | (refine Both.mk ?_ ?_ <;> conv => whnf)
    | (refine OwnQ.own ?_; conv => whnf)
    | (refine NilQ.mk (fun hnil => ?_) ?_ <;> conv => whnf)
    | (refine draw_mk (by kernel_rfl) ?_; conv => whnf)
    | (refine Br.mk (fun hb => ?_) (fun hb => ?_) <;> conv => whnf)
    | (refine call_sn ?_ (toClue_ok ?_ ?_ ?_) ?_; (focus ((repeat' first | exact snapRow | exact snap_row (by simp; done) | exact rfl | exact trivial | apply And.intro | omega | (simp; done)); done)); conv => whnf)
    | (refine callP_sn ?_ (toClue_ok ?_ ?_ ?_) ?_; (focus ((repeat' first | exact snapRow | exact snap_row (by simp; done) | exact rfl | exact trivial | apply And.intro | omega | (simp; done)); done)); conv => whnf)
    | (refine call_sn ?_ (toCut_ok ?_ ?_ ?_ ?_) ?_; (focus ((repeat' first | exact snapRow | exact snap_row (by simp; done) | exact rfl | exact trivial | apply And.intro | omega | (simp; done)); done)); assumption; conv => whnf)
    | (refine callP_sn ?_ (toCut_ok ?_ ?_ ?_ ?_) ?_; (focus ((repeat' first | exact snapRow | exact snap_row (by simp; done) | exact rfl | exact trivial | apply And.intro | omega | (simp; done)); done)); assumption; conv => whnf)
    | (refine call_sn ?_ (hs) ?_; (focus ((repeat' first | exact snapRow | exact snap_row (by simp; done) | exact rfl | exact trivial | apply And.intro | omega | (simp; done)); done)); conv => whnf)
    | (refine callP_sn ?_ (hs) ?_; (focus ((repeat' first | exact snapRow | exact snap_row (by simp; done) | exact rfl | exact trivial | apply And.intro | omega | (simp; done)); done)); conv => whnf)
    | (refine call_sn ?_ (hi) ?_; (focus ((repeat' first | exact snapRow | exact snap_row (by simp; done) | exact rfl | exact trivial | apply And.intro | omega | (simp; done)); done)); conv => whnf)
    | (refine callP_sn ?_ (hi) ?_; (focus ((repeat' first | exact snapRow | exact snap_row (by simp; done) | exact rfl | exact trivial | apply And.intro | omega | (simp; done)); done)); conv => whnf)
    | (refine call_sn ?_ (heq0) ?_; (focus ((repeat' first | exact snapRow | exact snap_row (by simp; done) | exact rfl | exact trivial | apply And.intro | omega | (simp; done)); done)); conv => whnf)
    | (refine callP_sn ?_ (heq0) ?_; (focus ((repeat' first | exact snapRow | exact snap_row (by simp; done) | exact rfl | exact trivial | apply And.intro | omega | (simp; done)); done)); conv => whnf)
    | (refine And.intro ?_ ?_; (focus (first | decide | omega | (simp at *; omega) | (simp_all; done))); conv => whnf)
  all_goals first | (exfalso; simp at hb; done) | skip
  all_goals exact ⟨⟨rfl, trivial⟩, by simp [refVs, refCV]⟩

theorem fitLaw {W : World} {R : Nat → Prop} (ds : List DC) (hg : ∃ us, Good W R [.int .i64, .int .i64, .int .i64] ds us) (es : List DC) (he : ∃ us, Good W R [.int .i64, .int .i64, .slice [.int .i64, .int .i64, .int .i64]] es us) :
    Fn G.P 4 [.agg ds, .agg es] (.one (aB true)) := by
  obtain ⟨us, hg⟩ := hg
  obtain ⟨vs, he⟩ := he
  obtain ⟨k, a, b, rfl⟩ := clue_of_good hg
  obtain ⟨w, h, sq, rfl, hn⟩ := cut_of_good he
  exact fitLaw_ok k a b w h sq hn

end Go.Proofs.Ytmfdkjjhdjkgpaa

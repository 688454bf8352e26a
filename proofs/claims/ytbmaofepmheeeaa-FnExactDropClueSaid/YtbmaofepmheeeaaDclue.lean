/- Puzzles: a clue more; the law. -/
import Derived.Test.YtbmaofepmheeeaaMarkd
import Derived.Test.YtbmaofepmheeeaaBclue
import Derived.Test.YtbmaofepmheeeaaMarkx
namespace Go.Proofs.Ytbmaofepmheeeaa
open Go Go.RowKit
set_option maxRecDepth 10000
set_option linter.unusedSimpArgs false

/-- What comes of a clue more. -/
def addB (w h : Int) (cl : List (Int × Int × Int)) (k a b : Int) : Bool := goodB w h cl && (isClueB w h k a b && !(decide (cl.length = 6)))

def addW (w h : Int) (cl : List (Int × Int × Int)) (k a b : Int) : Int × Int × List (Int × Int × Int) := if addB w h cl k a b then (w, h, cl ++ [(k, a, b)]) else (0, 0, [])

theorem goodB_len {w h : Int} {cl : List (Int × Int × Int)} (hg : goodB w h cl = true) : cl.length ≤ 6 := by
  simp only [goodB, Bool.and_eq_true, decide_eq_true_eq] at hg
  exact hg.2.1

theorem goodB_hidden {w h : Int} {cl : List (Int × Int × Int)} (hg : goodB w h cl = true) : hiddenB w h = true := by
  simp only [goodB, Bool.and_eq_true, decide_eq_true_eq] at hg
  exact hg.1

theorem res_pz {o ver n : Nat} {cap : Option Nat} {objs : Objs} {W H : Int} {xs : List (List DC)} {cl : List (Int × Int × Int)} {t : Bool} (ho : objs[o]? = some (ver, .arr 3 xs)) (he : xs = cl.map r3) (hn : n = cl.length) :
    ResOK objs [.agg [.d (dI W), .d (dI H), .sl o ver 3 0 n cap], .c (vB t)] [.agg (dPuzzle W H cl), aB t] := by
  subst he
  exact ⟨⟨⟨rfl, rfl, res_cell (by simp [objAt, ho]) (by simpa using hn) r3_flat, trivial⟩, rfl, trivial⟩, by simp [refVs, refCs, refCV]⟩

theorem res_pz0 {objs : Objs} : ResOK objs [.agg [.d (dI 0), .d (dI 0), .nilsl], .c (vB false)] [.agg (dPuzzle 0 0 []), aB false] :=
  ⟨⟨⟨rfl, rfl, rfl, trivial⟩, rfl, trivial⟩, by simp [refVs, refCs, refCV]⟩

theorem implAdd (w h : Int) (cl : List (Int × Int × Int)) (k a b : Int) (hn : cl.length ≤ 2 ^ 40) : Fn G.P 36 [.agg (dPuzzle w h cl), .agg (dClue k a b)]
    (.tup [.agg (dPuzzle (addW w h cl k a b).1 (addW w h cl k a b).2.1 (addW w h cl k a b).2.2), aB (addB w h cl k a b)]) := by
  unfold addW
  by_cases hg : addB w h cl k a b = true
  · rw [if_pos hg, hg]
    have hg' := hg
    simp only [addB, Bool.and_eq_true] at hg'
    have hcl := goodB_len hg'.1
    have hclone := cloneClues_ok cl (Nat.le_trans hcl (by decide))
    refine fn_of_body (G := G) Try.func36 rfl (by decide) (Nat.le_of_ble_eq_true rfl) ?_
    conv => whnf
    repeat' first
      | exact True.intro
      | (refine draw_mkF ?_ ?_ ?_; (focus (decide +kernel)); (focus (kernel_rfl)); conv => whnf)
      | (refine Both.mk ?_ ?_ <;> conv => whnf)
      | (refine NilQ.mk (fun hnil => ?_) ?_ <;> conv => whnf)
      | (refine draw_mk (by kernel_rfl) ?_; conv => whnf)
      | (refine Br.mk (fun hb => ?_) (fun hb => ?_) <;> conv => whnf)
      | (refine call_sn ?_ (isPuzzle_ok ?_ ?_ ?_ ?_) ?_; (focus ((repeat' first | exact snapRow | exact snap_row (by simp; done) | exact rfl | exact trivial | apply And.intro | omega | (simp; done)); done)); assumption; conv => whnf)
      | (refine callP_sn ?_ (isPuzzle_ok ?_ ?_ ?_ ?_) ?_; (focus ((repeat' first | exact snapRow | exact snap_row (by simp; done) | exact rfl | exact trivial | apply And.intro | omega | (simp; done)); done)); assumption; conv => whnf)
      | (refine call_sn ?_ (isClue_ok ?_ ?_ ?_ ?_ ?_) ?_; (focus ((repeat' first | exact snapRow | exact snap_row (by simp; done) | exact rfl | exact trivial | apply And.intro | omega | (simp; done)); done)); conv => whnf)
      | (refine callP_sn ?_ (isClue_ok ?_ ?_ ?_ ?_ ?_) ?_; (focus ((repeat' first | exact snapRow | exact snap_row (by simp; done) | exact rfl | exact trivial | apply And.intro | omega | (simp; done)); done)); conv => whnf)
      | (refine call_sn ?_ (hclone) ?_; (focus ((repeat' first | exact snapRow | exact snap_row (by simp; done) | exact rfl | exact trivial | apply And.intro | omega | (simp; done)); done)); conv => whnf)
      | (refine callP_sn ?_ (hclone) ?_; (focus ((repeat' first | exact snapRow | exact snap_row (by simp; done) | exact rfl | exact trivial | apply And.intro | omega | (simp; done)); done)); conv => whnf)
      | (refine And.intro ?_ ?_; (focus (first | decide | omega | (simp [contentOK, objRd, objAt, peel, List.length_map]; done) | (simp [contentOK, objRd, objAt, peel, List.length_map]; omega) | (simp [contentOK, objRd, objAt, peel, List.length_map] at *; omega))); conv => whnf)
    all_goals first | exact res_pz rfl (by simp [r3, show List.take cl.length (cl.map r3) = cl.map r3 from List.take_of_length_le (by simp)]; done) (by simp; done) | (exfalso; simp_all; done) | (exfalso; simp_all; omega)
  · rw [if_neg hg]
    have hg0 : addB w h cl k a b = false := by simpa using hg
    rw [hg0]
    refine fn_of_body (G := G) Try.func36 rfl (by decide) (Nat.le_of_ble_eq_true rfl) ?_
    conv => whnf
    repeat' first
      | exact True.intro
      | (refine draw_mkF ?_ ?_ ?_; (focus (decide +kernel)); (focus (kernel_rfl)); conv => whnf)
      | (refine Both.mk ?_ ?_ <;> conv => whnf)
      | (refine NilQ.mk (fun hnil => ?_) ?_ <;> conv => whnf)
      | (refine draw_mk (by kernel_rfl) ?_; conv => whnf)
      | (refine Br.mk (fun hb => ?_) (fun hb => ?_) <;> conv => whnf)
      | (refine call_sn ?_ (isPuzzle_ok ?_ ?_ ?_ ?_) ?_; (focus ((repeat' first | exact snapRow | exact snap_row (by simp; done) | exact rfl | exact trivial | apply And.intro | omega | (simp; done)); done)); assumption; conv => whnf)
      | (refine callP_sn ?_ (isPuzzle_ok ?_ ?_ ?_ ?_) ?_; (focus ((repeat' first | exact snapRow | exact snap_row (by simp; done) | exact rfl | exact trivial | apply And.intro | omega | (simp; done)); done)); assumption; conv => whnf)
      | (refine call_sn ?_ (isClue_ok ?_ ?_ ?_ ?_ ?_) ?_; (focus ((repeat' first | exact snapRow | exact snap_row (by simp; done) | exact rfl | exact trivial | apply And.intro | omega | (simp; done)); done)); conv => whnf)
      | (refine callP_sn ?_ (isClue_ok ?_ ?_ ?_ ?_ ?_) ?_; (focus ((repeat' first | exact snapRow | exact snap_row (by simp; done) | exact rfl | exact trivial | apply And.intro | omega | (simp; done)); done)); conv => whnf)
    all_goals first | exact res_pz0 | (exfalso; simp_all [addB]; done) | (exfalso; simp_all [addB]; omega)

theorem specAdd (w h : Int) (cl : List (Int × Int × Int)) (k a b : Int) (hn : cl.length ≤ 2 ^ 40) : Fn G.P 33 [.agg (dPuzzle w h cl), .agg (dClue k a b)]
    (.tup [.agg (dPuzzle (addW w h cl k a b).1 (addW w h cl k a b).2.1 (addW w h cl k a b).2.2), aB (addB w h cl k a b)]) := by
  unfold addW
  by_cases hgd : goodB w h cl = true
  · have hhid := goodB_hidden hgd
    have hcl := goodB_len hgd
    have hic : isClueB w h k a b = clueB w h k a b := by simp [isClueB, hhid]
    by_cases hg : addB w h cl k a b = true
    · rw [if_pos hg, hg]
      simp only [addB, Bool.and_eq_true] at hg
      refine fn_of_body (G := G) Try.func33 rfl (by decide) (Nat.le_of_ble_eq_true rfl) ?_
      conv => whnf
      repeat' first
        | exact True.intro
        | (refine draw_mkF ?_ ?_ ?_; (focus (decide +kernel)); (focus (kernel_rfl)); conv => whnf)
        | (refine Both.mk ?_ ?_ <;> conv => whnf)
        | (refine NilQ.mk (fun hnil => ?_) ?_ <;> conv => whnf)
        | (refine draw_mk (by kernel_rfl) ?_; conv => whnf)
        | (refine Br.mk (fun hb => ?_) (fun hb => ?_) <;> conv => whnf)
        | (refine call_sn ?_ (pzGood_ok ?_ ?_ ?_ ?_) ?_; (focus ((repeat' first | exact snapRow | exact snap_row (by simp; done) | exact rfl | exact trivial | apply And.intro | omega | (simp; done)); done)); assumption; conv => whnf)
        | (refine callP_sn ?_ (pzGood_ok ?_ ?_ ?_ ?_) ?_; (focus ((repeat' first | exact snapRow | exact snap_row (by simp; done) | exact rfl | exact trivial | apply And.intro | omega | (simp; done)); done)); assumption; conv => whnf)
        | (refine call_sn ?_ (pzClue_ok ?_ ?_ ?_ ?_ ?_ ?_) ?_; (focus ((repeat' first | exact snapRow | exact snap_row (by simp; done) | exact rfl | exact trivial | apply And.intro | omega | (simp; done)); done)); assumption; conv => whnf)
        | (refine callP_sn ?_ (pzClue_ok ?_ ?_ ?_ ?_ ?_ ?_) ?_; (focus ((repeat' first | exact snapRow | exact snap_row (by simp; done) | exact rfl | exact trivial | apply And.intro | omega | (simp; done)); done)); assumption; conv => whnf)
        | (refine call_body (G := G) Try.func69 rfl (by decide) (Nat.le_of_ble_eq_true rfl) ?_; conv => whnf)
        | (refine callP_text (call_body (G := G) Try.func69 rfl (by decide) (Nat.le_of_ble_eq_true rfl) ?_); conv => whnf)
        | (refine And.intro ?_ ?_; (focus (first | decide | omega | (simp [contentOK, objRd, objAt, peel, List.length_map]; done) | (simp [contentOK, objRd, objAt, peel, List.length_map]; omega) | (simp [contentOK, objRd, objAt, peel, List.length_map] at *; omega))); conv => whnf)
      all_goals first | exact res_pz rfl (by simp [r3, show List.take cl.length (cl.map r3) = cl.map r3 from List.take_of_length_le (by simp)]; done) (by simp; done) | (exfalso; simp_all; done) | (exfalso; simp_all; omega)
    · rw [if_neg hg]
      have hg0 : addB w h cl k a b = false := by simpa using hg
      rw [hg0]
      refine fn_of_body (G := G) Try.func33 rfl (by decide) (Nat.le_of_ble_eq_true rfl) ?_
      conv => whnf
      repeat' first
        | exact True.intro
        | (refine draw_mkF ?_ ?_ ?_; (focus (decide +kernel)); (focus (kernel_rfl)); conv => whnf)
        | (refine Both.mk ?_ ?_ <;> conv => whnf)
        | (refine NilQ.mk (fun hnil => ?_) ?_ <;> conv => whnf)
        | (refine draw_mk (by kernel_rfl) ?_; conv => whnf)
        | (refine Br.mk (fun hb => ?_) (fun hb => ?_) <;> conv => whnf)
        | (refine call_sn ?_ (pzGood_ok ?_ ?_ ?_ ?_) ?_; (focus ((repeat' first | exact snapRow | exact snap_row (by simp; done) | exact rfl | exact trivial | apply And.intro | omega | (simp; done)); done)); assumption; conv => whnf)
        | (refine callP_sn ?_ (pzGood_ok ?_ ?_ ?_ ?_) ?_; (focus ((repeat' first | exact snapRow | exact snap_row (by simp; done) | exact rfl | exact trivial | apply And.intro | omega | (simp; done)); done)); assumption; conv => whnf)
        | (refine call_sn ?_ (pzClue_ok ?_ ?_ ?_ ?_ ?_ ?_) ?_; (focus ((repeat' first | exact snapRow | exact snap_row (by simp; done) | exact rfl | exact trivial | apply And.intro | omega | (simp; done)); done)); assumption; conv => whnf)
        | (refine callP_sn ?_ (pzClue_ok ?_ ?_ ?_ ?_ ?_ ?_) ?_; (focus ((repeat' first | exact snapRow | exact snap_row (by simp; done) | exact rfl | exact trivial | apply And.intro | omega | (simp; done)); done)); assumption; conv => whnf)
      all_goals first | exact res_pz0 | (exfalso; simp_all [addB]; done) | (exfalso; simp_all [addB]; omega)
  · have hgd0 : goodB w h cl = false := by simpa using hgd
    have hg0 : addB w h cl k a b = false := by simp [addB, hgd0]
    rw [if_neg (by rw [hg0]; decide), hg0]
    refine fn_of_body (G := G) Try.func33 rfl (by decide) (Nat.le_of_ble_eq_true rfl) ?_
    conv => whnf
    repeat' first
      | exact True.intro
      | (refine draw_mkF ?_ ?_ ?_; (focus (decide +kernel)); (focus (kernel_rfl)); conv => whnf)
      | (refine Both.mk ?_ ?_ <;> conv => whnf)
      | (refine NilQ.mk (fun hnil => ?_) ?_ <;> conv => whnf)
      | (refine draw_mk (by kernel_rfl) ?_; conv => whnf)
      | (refine Br.mk (fun hb => ?_) (fun hb => ?_) <;> conv => whnf)
      | (refine call_sn ?_ (pzGood_ok ?_ ?_ ?_ ?_) ?_; (focus ((repeat' first | exact snapRow | exact snap_row (by simp; done) | exact rfl | exact trivial | apply And.intro | omega | (simp; done)); done)); assumption; conv => whnf)
      | (refine callP_sn ?_ (pzGood_ok ?_ ?_ ?_ ?_) ?_; (focus ((repeat' first | exact snapRow | exact snap_row (by simp; done) | exact rfl | exact trivial | apply And.intro | omega | (simp; done)); done)); assumption; conv => whnf)
    all_goals first | exact res_pz0 | (exfalso; simp_all; done)

theorem addW_len {w h : Int} {cl : List (Int × Int × Int)} {k a b : Int} (hn : cl.length ≤ 2 ^ 20) : (addW w h cl k a b).2.2.length ≤ 2 ^ 21 := by
  unfold addW
  split
  · simp; omega
  · simp

theorem addLaw_ok (w h : Int) (cl : List (Int × Int × Int)) (k a b : Int) (hn : cl.length ≤ maxLen) : Fn G.P 10 [.agg (dPuzzle w h cl), .agg (dClue k a b)] (.one (aB true)) := by
  have hs := fun hn => specAdd w h cl k a b hn
  have hi := fun hn => implAdd w h cl k a b hn
  have hl := addW_len (w := w) (h := h) (cl := cl) (k := k) (a := a) (b := b)
  generalize addW w h cl k a b = r at hs hi hl
  obtain ⟨W, H, CL⟩ := r
  generalize addB w h cl k a b = t at hs hi
  dsimp only at hs hi hl
  refine fn_of_body (G := G) Try.func10 rfl (by decide) (Nat.le_of_ble_eq_true rfl) ?_
  conv => whnf
  repeat' first
    | exact True.intro
    | (refine Both.mk ?_ ?_ <;> conv => whnf)
    | (refine NilQ.mk (fun hnil => ?_) ?_ <;> conv => whnf)
    | (refine Br.mk (fun hb => ?_) (fun hb => ?_) <;> conv => whnf)
    | (refine call_sn ?_ (szPuzzle_ok ?_ ?_ ?_ ?_) ?_; (focus ((repeat' first | exact snapRow | exact snap_row (by simp; done) | exact rfl | exact trivial | apply And.intro | omega | (simp; done)); done)); assumption; conv => whnf)
    | (refine callP_sn ?_ (szPuzzle_ok ?_ ?_ ?_ ?_) ?_; (focus ((repeat' first | exact snapRow | exact snap_row (by simp; done) | exact rfl | exact trivial | apply And.intro | omega | (simp; done)); done)); assumption; conv => whnf)
    | (refine And.intro ?_ ?_; (focus (first | decide | omega | (simp at *; omega) | (simp_all; done))); conv => whnf)
  · exact ⟨⟨rfl, trivial⟩, by simp [refVs, refCV]⟩
  have hn1 : cl.length ≤ 2 ^ 20 := by
    by_cases hc : cl.length ≤ 1048576
    · omega
    · simp [hc] at hb
  clear hb hn
  have hn2 : cl.length ≤ 2 ^ 40 := by omega
  have hs := hs hn2
  have hi := hi hn2
  have hl := hl hn1
  have hl2 : CL.length ≤ 2 ^ 40 := by omega
  have heq := eqPuzzle_ok W H CL W H CL hl2
  have heq0 := eqPuzzle_ok w h cl w h cl hn2
  refine draw_joinF (S := ?S1) ?_ ?_ ?_ ?_
  rotate_left
  · decide +kernel
  · kernel_rfl
  · conv => whnf
    repeat' first
      | exact True.intro
      | (refine Both.mk ?_ ?_ <;> conv => whnf)
      | (refine NilQ.mk (fun hnil => ?_) ?_ <;> conv => whnf)
      | (refine Br.mk (fun hb => ?_) (fun hb => ?_) <;> conv => whnf)
      | (refine call_sn ?_ (toPuzzle_ok ?_ ?_ ?_ ?_) ?_; (focus ((repeat' first | exact snapRow | exact snap_row (by simp; done) | exact rfl | exact trivial | apply And.intro | omega | (simp; done)); done)); assumption; conv => whnf)
      | (refine callP_sn ?_ (toPuzzle_ok ?_ ?_ ?_ ?_) ?_; (focus ((repeat' first | exact snapRow | exact snap_row (by simp; done) | exact rfl | exact trivial | apply And.intro | omega | (simp; done)); done)); assumption; conv => whnf)
      | (refine call_sn ?_ (toClue_ok ?_ ?_ ?_) ?_; (focus ((repeat' first | exact snapRow | exact snap_row (by simp; done) | exact rfl | exact trivial | apply And.intro | omega | (simp; done)); done)); conv => whnf)
      | (refine callP_sn ?_ (toClue_ok ?_ ?_ ?_) ?_; (focus ((repeat' first | exact snapRow | exact snap_row (by simp; done) | exact rfl | exact trivial | apply And.intro | omega | (simp; done)); done)); conv => whnf)
      | (refine call_sn ?_ (hs) ?_; (focus ((repeat' first | exact snapRow | exact snap_row (by simp; done) | exact rfl | exact trivial | apply And.intro | omega | (simp; done)); done)); conv => whnf)
      | (refine callP_sn ?_ (hs) ?_; (focus ((repeat' first | exact snapRow | exact snap_row (by simp; done) | exact rfl | exact trivial | apply And.intro | omega | (simp; done)); done)); conv => whnf)
      | (refine And.intro ?_ ?_; (focus (first | decide | omega | (simp at *; omega) | (simp_all; done))); conv => whnf)
      | exact Joins.rfl'
      | (refine ⟨weak_picks [0, 1, 2, 4, 3] (by repeat' first | exact rfl | exact trivial | apply And.intro) ?_ rfl (by decide) rfl⟩; (focus ((repeat' first | exact rfl | exact trivial | apply And.intro | (simp [getE]; done)); done)))
      | (refine ⟨weak_picks [0, 1, 3, 2, 4] (by repeat' first | exact rfl | exact trivial | apply And.intro) ?_ rfl (by decide) rfl⟩; (focus ((repeat' first | exact rfl | exact trivial | apply And.intro | (simp [getE]; done)); done)))
      | (refine ⟨weak_picks [0, 1, 3, 4, 2] (by repeat' first | exact rfl | exact trivial | apply And.intro) ?_ rfl (by decide) rfl⟩; (focus ((repeat' first | exact rfl | exact trivial | apply And.intro | (simp [getE]; done)); done)))
      | (refine ⟨weak_picks [0, 1, 4, 2, 3] (by repeat' first | exact rfl | exact trivial | apply And.intro) ?_ rfl (by decide) rfl⟩; (focus ((repeat' first | exact rfl | exact trivial | apply And.intro | (simp [getE]; done)); done)))
      | (refine ⟨weak_picks [0, 1, 4, 3, 2] (by repeat' first | exact rfl | exact trivial | apply And.intro) ?_ rfl (by decide) rfl⟩; (focus ((repeat' first | exact rfl | exact trivial | apply And.intro | (simp [getE]; done)); done)))
  conv => whnf
  repeat' first
    | exact True.intro
    | (refine Both.mk ?_ ?_ <;> conv => whnf)
    | (refine NilQ.mk (fun hnil => ?_) ?_ <;> conv => whnf)
    | (refine Br.mk (fun hb => ?_) (fun hb => ?_) <;> conv => whnf)
    | (refine call_sn ?_ (toPuzzle_ok ?_ ?_ ?_ ?_) ?_; (focus ((repeat' first | exact snapRow | exact snap_row (by simp; done) | exact rfl | exact trivial | apply And.intro | omega | (simp; done)); done)); assumption; conv => whnf)
    | (refine callP_sn ?_ (toPuzzle_ok ?_ ?_ ?_ ?_) ?_; (focus ((repeat' first | exact snapRow | exact snap_row (by simp; done) | exact rfl | exact trivial | apply And.intro | omega | (simp; done)); done)); assumption; conv => whnf)
    | (refine And.intro ?_ ?_; (focus (first | decide | omega | (simp at *; omega) | (simp_all; done))); conv => whnf)
  refine draw_joinF (S := ?S2) ?_ ?_ ?_ ?_
  rotate_left
  · decide +kernel
  · kernel_rfl
  · conv => whnf
    repeat' first
      | exact True.intro
      | (refine Both.mk ?_ ?_ <;> conv => whnf)
      | (refine NilQ.mk (fun hnil => ?_) ?_ <;> conv => whnf)
      | (refine Br.mk (fun hb => ?_) (fun hb => ?_) <;> conv => whnf)
      | (refine call_sn ?_ (toClue_ok ?_ ?_ ?_) ?_; (focus ((repeat' first | exact snapRow | exact snap_row (by simp; done) | exact rfl | exact trivial | apply And.intro | omega | (simp; done)); done)); conv => whnf)
      | (refine callP_sn ?_ (toClue_ok ?_ ?_ ?_) ?_; (focus ((repeat' first | exact snapRow | exact snap_row (by simp; done) | exact rfl | exact trivial | apply And.intro | omega | (simp; done)); done)); conv => whnf)
      | (refine call_sn ?_ (hi) ?_; (focus ((repeat' first | exact snapRow | exact snap_row (by simp; done) | exact rfl | exact trivial | apply And.intro | omega | (simp; done)); done)); conv => whnf)
      | (refine callP_sn ?_ (hi) ?_; (focus ((repeat' first | exact snapRow | exact snap_row (by simp; done) | exact rfl | exact trivial | apply And.intro | omega | (simp; done)); done)); conv => whnf)
      | (refine And.intro ?_ ?_; (focus (first | decide | omega | (simp at *; omega) | (simp_all; done))); conv => whnf)
      | exact Joins.rfl'
      | (refine ⟨weak_picks [0, 1, 2, 3, 4, 5, 6, 8, 7] (by repeat' first | exact rfl | exact trivial | apply And.intro) ?_ rfl (by decide) rfl⟩; (focus ((repeat' first | exact rfl | exact trivial | apply And.intro | (simp [getE]; done)); done)))
  conv => whnf
  repeat' first
    | exact True.intro
    | (refine Both.mk ?_ ?_ <;> conv => whnf)
    | (refine NilQ.mk (fun hnil => ?_) ?_ <;> conv => whnf)
    | ((fail_if_success (refine draw_mkF ?_ ?_ ?_; (focus (decide +kernel)))); refine draw_mk (by kernel_rfl) ?_; conv => whnf)
    | (refine Br.mk (fun hb => ?_) (fun hb => ?_) <;> conv => whnf)
    | (refine call_sn ?_ (heq) ?_; (focus ((repeat' first | exact snapRow | exact snap_row (by simp; done) | exact rfl | exact trivial | apply And.intro | omega | (simp; done)); done)); conv => whnf)
    | (refine callP_sn ?_ (heq) ?_; (focus ((repeat' first | exact snapRow | exact snap_row (by simp; done) | exact rfl | exact trivial | apply And.intro | omega | (simp; done)); done)); conv => whnf)
    | (refine call_sn ?_ (heq0) ?_; (focus ((repeat' first | exact snapRow | exact snap_row (by simp; done) | exact rfl | exact trivial | apply And.intro | omega | (simp; done)); done)); conv => whnf)
    | (refine callP_sn ?_ (heq0) ?_; (focus ((repeat' first | exact snapRow | exact snap_row (by simp; done) | exact rfl | exact trivial | apply And.intro | omega | (simp; done)); done)); conv => whnf)
    | (refine call_sn ?_ (toPuzzle_ok ?_ ?_ ?_ ?_) ?_; (focus ((repeat' first | exact snapRow | exact snap_row (by simp; done) | exact rfl | exact trivial | apply And.intro | omega | (simp; done)); done)); assumption; conv => whnf)
    | (refine callP_sn ?_ (toPuzzle_ok ?_ ?_ ?_ ?_) ?_; (focus ((repeat' first | exact snapRow | exact snap_row (by simp; done) | exact rfl | exact trivial | apply And.intro | omega | (simp; done)); done)); assumption; conv => whnf)
    | (refine markPuzzle_x rfl rfl ?_ ?_ ?_ ?_; iterate 3 (focus (first | exact rfl | decide | omega | (simp; done) | (simp; omega) | (constructor <;> omega))); conv => whnf)
    | (refine heldPuzzle_x rfl ?_ ?_ ?_ ?_; iterate 3 (focus (first | exact rfl | decide | omega | (simp; done) | (simp; omega) | (constructor <;> omega))); conv => whnf)
    | (refine And.intro ?_ ?_; (focus (first | decide | omega | (simp at *; omega) | (simp_all; done))); conv => whnf)
  all_goals first | (exfalso; simp at hb; done) | (exfalso; simp at hb; omega) | skip
  refine draw_joinF (S := ?S3) ?_ ?_ ?_ ?_
  rotate_left
  · decide +kernel
  · kernel_rfl
  · conv => whnf
    repeat' first
      | exact True.intro
      | (refine Both.mk ?_ ?_ <;> conv => whnf)
      | (refine NilQ.mk (fun hnil => ?_) ?_ <;> conv => whnf)
      | (refine Br.mk (fun hb => ?_) (fun hb => ?_) <;> conv => whnf)
      | (refine call_sn ?_ (toPuzzle_ok ?_ ?_ ?_ ?_) ?_; (focus ((repeat' first | exact snapRow | exact snap_row (by simp; done) | exact rfl | exact trivial | apply And.intro | omega | (simp; done)); done)); assumption; conv => whnf)
      | (refine callP_sn ?_ (toPuzzle_ok ?_ ?_ ?_ ?_) ?_; (focus ((repeat' first | exact snapRow | exact snap_row (by simp; done) | exact rfl | exact trivial | apply And.intro | omega | (simp; done)); done)); assumption; conv => whnf)
      | (refine call_sn ?_ (toClue_ok ?_ ?_ ?_) ?_; (focus ((repeat' first | exact snapRow | exact snap_row (by simp; done) | exact rfl | exact trivial | apply And.intro | omega | (simp; done)); done)); conv => whnf)
      | (refine callP_sn ?_ (toClue_ok ?_ ?_ ?_) ?_; (focus ((repeat' first | exact snapRow | exact snap_row (by simp; done) | exact rfl | exact trivial | apply And.intro | omega | (simp; done)); done)); conv => whnf)
      | (refine call_sn ?_ (hi) ?_; (focus ((repeat' first | exact snapRow | exact snap_row (by simp; done) | exact rfl | exact trivial | apply And.intro | omega | (simp; done)); done)); conv => whnf)
      | (refine callP_sn ?_ (hi) ?_; (focus ((repeat' first | exact snapRow | exact snap_row (by simp; done) | exact rfl | exact trivial | apply And.intro | omega | (simp; done)); done)); conv => whnf)
      | (refine And.intro ?_ ?_; (focus (first | decide | omega | (simp at *; omega) | (simp_all; done))); conv => whnf)
      | exact Joins.rfl'
      | (refine ⟨weak_picks [0, 1, 2, 3, 4, 5, 6, 7, 8, 9, 10, 12, 11] (by repeat' first | exact rfl | exact trivial | apply And.intro) ?_ rfl (by decide) rfl⟩; (focus ((repeat' first | exact rfl | exact trivial | apply And.intro | (simp [getE]; done)); done)))
      | (refine ⟨weak_picks [0, 1, 2, 3, 4, 5, 6, 7, 8, 9, 11, 10, 12] (by repeat' first | exact rfl | exact trivial | apply And.intro) ?_ rfl (by decide) rfl⟩; (focus ((repeat' first | exact rfl | exact trivial | apply And.intro | (simp [getE]; done)); done)))
      | (refine ⟨weak_picks [0, 1, 2, 3, 4, 5, 6, 7, 8, 9, 11, 12, 10] (by repeat' first | exact rfl | exact trivial | apply And.intro) ?_ rfl (by decide) rfl⟩; (focus ((repeat' first | exact rfl | exact trivial | apply And.intro | (simp [getE]; done)); done)))
      | (refine ⟨weak_picks [0, 1, 2, 3, 4, 5, 6, 7, 8, 9, 12, 10, 11] (by repeat' first | exact rfl | exact trivial | apply And.intro) ?_ rfl (by decide) rfl⟩; (focus ((repeat' first | exact rfl | exact trivial | apply And.intro | (simp [getE]; done)); done)))
      | (refine ⟨weak_picks [0, 1, 2, 3, 4, 5, 6, 7, 8, 9, 12, 11, 10] (by repeat' first | exact rfl | exact trivial | apply And.intro) ?_ rfl (by decide) rfl⟩; (focus ((repeat' first | exact rfl | exact trivial | apply And.intro | (simp [getE]; done)); done)))
  conv => whnf
  repeat' first
    | exact True.intro
    | (refine Both.mk ?_ ?_ <;> conv => whnf)
    | (refine NilQ.mk (fun hnil => ?_) ?_ <;> conv => whnf)
    | ((fail_if_success (refine draw_mkF ?_ ?_ ?_; (focus (decide +kernel)))); refine draw_mk (by kernel_rfl) ?_; conv => whnf)
    | (refine Br.mk (fun hb => ?_) (fun hb => ?_) <;> conv => whnf)
    | (refine call_sn ?_ (toPuzzle_ok ?_ ?_ ?_ ?_) ?_; (focus ((repeat' first | exact snapRow | exact snap_row (by simp; done) | exact rfl | exact trivial | apply And.intro | omega | (simp; done)); done)); assumption; conv => whnf)
    | (refine callP_sn ?_ (toPuzzle_ok ?_ ?_ ?_ ?_) ?_; (focus ((repeat' first | exact snapRow | exact snap_row (by simp; done) | exact rfl | exact trivial | apply And.intro | omega | (simp; done)); done)); assumption; conv => whnf)
    | (refine call_sn ?_ (heq) ?_; (focus ((repeat' first | exact snapRow | exact snap_row (by simp; done) | exact rfl | exact trivial | apply And.intro | omega | (simp; done)); done)); conv => whnf)
    | (refine callP_sn ?_ (heq) ?_; (focus ((repeat' first | exact snapRow | exact snap_row (by simp; done) | exact rfl | exact trivial | apply And.intro | omega | (simp; done)); done)); conv => whnf)
    | (refine call_sn ?_ (heq0) ?_; (focus ((repeat' first | exact snapRow | exact snap_row (by simp; done) | exact rfl | exact trivial | apply And.intro | omega | (simp; done)); done)); conv => whnf)
    | (refine callP_sn ?_ (heq0) ?_; (focus ((repeat' first | exact snapRow | exact snap_row (by simp; done) | exact rfl | exact trivial | apply And.intro | omega | (simp; done)); done)); conv => whnf)
    | (refine markPuzzle_x rfl rfl ?_ ?_ ?_ ?_; iterate 3 (focus (first | exact rfl | decide | omega | (simp; done) | (simp; omega) | (constructor <;> omega))); conv => whnf)
    | (refine heldPuzzle_x rfl ?_ ?_ ?_ ?_; iterate 3 (focus (first | exact rfl | decide | omega | (simp; done) | (simp; omega) | (constructor <;> omega))); conv => whnf)
    | (refine And.intro ?_ ?_; (focus (first | decide | omega | (simp at *; omega) | (simp_all; done))); conv => whnf)
  all_goals first | (exfalso; simp at hb; done) | (exfalso; simp at hb; omega) | skip
  exact ⟨⟨rfl, trivial⟩, by simp [refVs, refCV]⟩

theorem addLaw {W : World} {R : Nat → Prop} (ds : List DC) (hg : ∃ us, Good W R [.int .i64, .int .i64, .slice [.int .i64, .int .i64, .int .i64]] ds us) (es : List DC) (he : ∃ us, Good W R [.int .i64, .int .i64, .int .i64] es us) :
    Fn G.P 10 [.agg ds, .agg es] (.one (aB true)) := by
  obtain ⟨us, hg⟩ := hg
  obtain ⟨vs, he⟩ := he
  obtain ⟨w, h, cl, rfl, hn⟩ := puzzle_of_good hg
  obtain ⟨k, a, b, rfl⟩ := clue_of_good he
  exact addLaw_ok w h cl k a b hn

end Go.Proofs.Ytbmaofepmheeeaa

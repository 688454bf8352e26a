/- Cuts: lines down. -/
import Derived.Test.YtmjaefnmianfpaaQEcut
import Derived.Test.YtmjaefnmianfpaaQZj
import Derived.Test.YtmjaefnmianfpaaQRst
import Derived.Test.YtmjaefnmianfpaaQZg
import Derived.Test.YtmjaefnmianfpaaQCclue
namespace Go.Proofs.Ytmjaefnmianfpaa
open Go Go.RowKit
set_option maxRecDepth 10000
set_option linter.unusedSimpArgs false

/-- No square goes through x. -/
def freeB (sq : List (Int × Int × Int)) (x : Int) : Bool := sq.all fun s => !(decide (s.1 < x) && decide (x < s.1 + s.2.2))

/-- The free places of the first k, from 1 on. -/
def linesK (sq : List (Int × Int × Int)) (k : Nat) : List Int := ((List.range k).map fun i : Nat => ((i + 1 : Nat) : Int)).filter (freeB sq)

theorem linesK_succ (sq : List (Int × Int × Int)) (k : Nat) : linesK sq (k + 1) = if freeB sq ((k + 1 : Nat) : Int) = true then linesK sq k ++ [((k + 1 : Nat) : Int)] else linesK sq k := by
  unfold linesK
  rw [List.range_succ, List.map_append, List.filter_append]
  generalize hx : ((k + 1 : Nat) : Int) = x
  have e : (List.map (fun i : Nat => ((i + 1 : Nat) : Int)) [k]) = [x] := by rw [← hx]; rfl
  rw [e]
  by_cases h : freeB sq x = true
  · rw [if_pos h, List.filter_cons_of_pos h]; rfl
  · rw [if_neg h, List.filter_cons_of_neg h, List.filter_nil, List.append_nil]

theorem linesK_len (sq : List (Int × Int × Int)) (k : Nat) : (linesK sq k).length ≤ k := by
  unfold linesK
  have := List.length_filter_le (freeB sq) ((List.range k).map fun i : Nat => ((i + 1 : Nat) : Int))
  simpa using this

theorem app1' {l : List Int} {n : Nat} {d : DC} {v : Int} (hn : n = l.length) : List.take n (List.drop 0 (l.map r1)) ++ List.take 1 (List.drop 0 ((List.replicate 1 [d]).set 0 [DC.v (.int .i64 v)])) = (l ++ [v]).map r1 := by
  subst hn; simp [r1, List.take_of_length_le]

end Go.Proofs.Ytmjaefnmianfpaa

namespace Go.Proofs.Ytmjaefnmianfpaa
open Go Go.RowKit
set_option maxRecDepth 10000
set_option linter.unusedSimpArgs false

theorem chk_small {w h : Int} (hw : inB w 1 500 = true) (hh : inB h 1 500 = true) : ∀ (l pre : List (Int × Int × Int)) (area : Int), cutChk w h pre l area = true → ∀ q ∈ l, smallSq q
  | [], _, _, _, q, hq => by simp at hq
  | s :: r, pre, area, hc, q, hq => by
    simp only [cutChk, okB, Bool.and_eq_true] at hc
    rcases List.mem_cons.1 hq with rfl | hq
    · exact small_of_place hw hh hc.1.1
    · exact chk_small hw hh r _ _ hc.2 q hq

theorem good_facts {w h : Int} {sq : List (Int × Int × Int)} (hg : goodCutB w h sq = true) : ∃ a b : Nat, w = a ∧ h = b ∧ (1 ≤ a ∧ a ≤ 500) ∧ (1 ≤ b ∧ b ≤ 500) ∧ sq.length ≤ 30 ∧ ∀ q ∈ sq, smallSq q := by
  simp only [goodCutB, Bool.and_eq_true] at hg
  obtain ⟨h1, h2, h3, h4⟩ := hg
  have g1 := h1
  have g2 := h2
  simp only [inB, decide_eq_true_eq] at g1 g2 h3
  exact ⟨w.toNat, h.toNat, by omega, by omega, by omega, by omega, by omega, chk_small h1 h2 sq [] 0 h4⟩

def wholeB (w h : Int) (sq : List (Int × Int × Int)) : Bool := goodCutB w h sq && stripB h w

def wholeC (w h : Int) (sq : List (Int × Int × Int)) : Bool × Bool := if wholeB w h sq then ((linesK sq (w.toNat - 1)).length == 0, true) else (false, false)

theorem isStrip_ok (w h : Int) (sq : List (Int × Int × Int)) (hn : sq.length ≤ 2 ^ 40) : Fn G.P 89 [.agg (dCut w h sq)] (.one (aB (wholeB w h sq))) := by
  refine fn_of_body (G := G) Try.func89 rfl (by decide) (Nat.le_of_ble_eq_true rfl) ?_
  conv => whnf
  repeat' first
    | exact True.intro
    | (refine draw_mkF ?_ ?_ ?_; (focus (decide +kernel)); (focus (kernel_rfl)); conv => whnf)
    | (refine Both.mk ?_ ?_ <;> conv => whnf)
    | (refine NilQ.mk (fun hnil => ?_) ?_ <;> conv => whnf)
    | (refine draw_mk (by kernel_rfl) ?_; conv => whnf)
    | (refine Br.mk (fun hb => ?_) (fun hb => ?_) <;> conv => whnf)
    | (refine call_sn ?_ (isCut_ok ?_ ?_ ?_ ?_) ?_; (focus ((repeat' first | exact snapRow | exact snap_row (by simp; done) | exact rfl | exact trivial | apply And.intro | omega | (simp; done)); done)); assumption; conv => whnf)
    | (refine callP_sn ?_ (isCut_ok ?_ ?_ ?_ ?_) ?_; (focus ((repeat' first | exact snapRow | exact snap_row (by simp; done) | exact rfl | exact trivial | apply And.intro | omega | (simp; done)); done)); assumption; conv => whnf)
    | (refine call_sn ?_ (isStripSize_ok ?_ ?_) ?_; (focus ((repeat' first | exact snapRow | exact snap_row (by simp; done) | exact rfl | exact trivial | apply And.intro | omega | (simp; done)); done)); conv => whnf)
    | (refine callP_sn ?_ (isStripSize_ok ?_ ?_) ?_; (focus ((repeat' first | exact snapRow | exact snap_row (by simp; done) | exact rfl | exact trivial | apply And.intro | omega | (simp; done)); done)); conv => whnf)
    | (refine And.intro ?_ ?_; (focus (first | decide | omega | (simp at *; omega) | (simp_all; done))); conv => whnf)
  · try simp at hb
    simp [resOK_iff, resVs, resCell, refVs, refCV, wholeB, hb]
  · try simp at hb
    simp [resOK_iff, resVs, resCell, refVs, refCV, wholeB, hb]

theorem stGood_ok (w h : Int) (sq : List (Int × Int × Int)) (hn : sq.length ≤ 2 ^ 40) : Fn G.P 86 [.agg (dCut w h sq)] (.one (aB (wholeB w h sq))) := by
  refine fn_of_body (G := G) Try.func86 rfl (by decide) (Nat.le_of_ble_eq_true rfl) ?_
  conv => whnf
  repeat' first
    | exact True.intro
    | (refine draw_mkF ?_ ?_ ?_; (focus (decide +kernel)); (focus (kernel_rfl)); conv => whnf)
    | (refine Both.mk ?_ ?_ <;> conv => whnf)
    | (refine NilQ.mk (fun hnil => ?_) ?_ <;> conv => whnf)
    | (refine draw_mk (by kernel_rfl) ?_; conv => whnf)
    | (refine Br.mk (fun hb => ?_) (fun hb => ?_) <;> conv => whnf)
    | (refine call_sn ?_ (cuGood_ok ?_ ?_ ?_ ?_) ?_; (focus ((repeat' first | exact snapRow | exact snap_row (by simp; done) | exact rfl | exact trivial | apply And.intro | omega | (simp; done)); done)); assumption; conv => whnf)
    | (refine callP_sn ?_ (cuGood_ok ?_ ?_ ?_ ?_) ?_; (focus ((repeat' first | exact snapRow | exact snap_row (by simp; done) | exact rfl | exact trivial | apply And.intro | omega | (simp; done)); done)); assumption; conv => whnf)
    | (refine call_sn ?_ (stSize_ok ?_ ?_) ?_; (focus ((repeat' first | exact snapRow | exact snap_row (by simp; done) | exact rfl | exact trivial | apply And.intro | omega | (simp; done)); done)); conv => whnf)
    | (refine callP_sn ?_ (stSize_ok ?_ ?_) ?_; (focus ((repeat' first | exact snapRow | exact snap_row (by simp; done) | exact rfl | exact trivial | apply And.intro | omega | (simp; done)); done)); conv => whnf)
    | (refine And.intro ?_ ?_; (focus (first | decide | omega | (simp at *; omega) | (simp_all; done))); conv => whnf)
  · try simp at hb
    simp [resOK_iff, resVs, resCell, refVs, refCV, wholeB, hb]
  · try simp at hb
    simp [resOK_iff, resVs, resCell, refVs, refCV, wholeB, hb]

theorem cut_of_good {w : World} {R : Nat → Prop} {ds : List DC} {us : List Value} (h : Good w R [.int .i64, .int .i64, .slice [.int .i64, .int .i64, .int .i64]] ds us) :
    ∃ a b, ∃ cl : List (Int × Int × Int), ds = dCut a b cl ∧ cl.length ≤ maxLen := by
  cases h with | cons h1 _ h2 =>
  cases h2 with | cons h3 _ h4 =>
  cases h4 with | cons h5 _ h6 =>
  cases h6
  cases h1; cases h3
  cases h5 with | slice _ xs hl hx hh =>
  obtain ⟨cl, rfl⟩ := rows3 hx hh
  exact ⟨_, _, cl, rfl, by simpa using hl⟩

end Go.Proofs.Ytmjaefnmianfpaa

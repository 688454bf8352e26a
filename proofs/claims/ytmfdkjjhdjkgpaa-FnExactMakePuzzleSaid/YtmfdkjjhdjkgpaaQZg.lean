/- Cuts that come into a law: their copies and their sizes. -/
import Derived.Test.YtmfdkjjhdjkgpaaQAdesk
import Derived.Test.YtmfdkjjhdjkgpaaQZd
import Derived.Test.YtmfdkjjhdjkgpaaQAclue
namespace Go.Proofs.Ytmfdkjjhdjkgpaa
open Go Go.RowKit
set_option maxRecDepth 10000
set_option linter.unusedSimpArgs false

theorem toSquare_ok (k a b : Int) : Fn G.P 99 [.agg [dI k, dI a, dI b]] (.one (.agg [dI k, dI a, dI b])) := by
  refine fn_of_body (G := G) Try.func99 rfl (by decide) (Nat.le_of_ble_eq_true rfl) ?_
  conv => whnf
  repeat' first
    | exact True.intro
    | (refine draw_mkF ?_ ?_ ?_; (focus (decide +kernel)); (focus (kernel_rfl)); conv => whnf)
    | (refine Both.mk ?_ ?_ <;> conv => whnf)
    | (refine OwnQ.own ?_; conv => whnf)
    | (refine NilQ.mk (fun hnil => ?_) ?_ <;> conv => whnf)
    | (refine draw_mk (by kernel_rfl) ?_; conv => whnf)
    | (refine Br.mk (fun hb => ?_) (fun hb => ?_) <;> conv => whnf)
    | (refine And.intro ?_ ?_; (focus (first | decide | omega | (simp at *; omega) | (simp_all; done))); conv => whnf)
  all_goals first | (simp_all [resOK_iff, resVs, resCell, resCells, refVs, refCV, refCs]; done) | (simp_all [resOK_iff, resVs, resCell, resCells, refVs, refCV, refCs]; omega)

theorem toSquareS_ok (cl : List (Int × Int × Int)) (hn : cl.length ≤ 2 ^ 40) : Fn G.P 54 [.c (.list 3 (cl.map r3))] (.one (.c (.list 3 (cl.map r3)))) := by
  refine fn_of_body (G := G) Try.func54 rfl (by decide) (Nat.le_of_ble_eq_true rfl) ?_
  conv => whnf
  refine ⟨by simp, by simp, by simp; omega, by simp; omega, ?_⟩
  conv => whnf
  refine .inl ⟨Nat, fun i => cl.length - i, fun i => i ≤ cl.length, fun i => ⟨[(0, .one (.c (.d (.list 3 (cl.map r3))))), (3, .one (.c (.sl 0 0 3 0 cl.length (some cl.length)))), (4, .one (.c (vI i)))],
    [(0, .arr 3 ((cl.take i).map r3 ++ List.replicate (cl.length - i) [dI 0, dI 0, dI 0]))], _⟩, 0, Nat.zero_le _, weak_of ?_ ?_ rfl (Nat.zero_le _), fun i hi => ?_⟩
  · simp
  · (repeat' first | exact rfl | exact trivial | apply And.intro | (simp [getE]; done))
  conv => whnf
  repeat' first
    | exact True.intro
    | (refine draw_mkF ?_ ?_ ?_; (focus (decide +kernel)); (focus (kernel_rfl)); conv => whnf)
    | (refine Both.mk ?_ ?_ <;> conv => whnf)
    | (refine OwnQ.own ?_; conv => whnf)
    | (refine NilQ.mk (fun hnil => ?_) ?_ <;> conv => whnf)
    | (refine draw_mk (by kernel_rfl) ?_; conv => whnf)
    | (refine Br.mk (fun hb => ?_) (fun hb => ?_) <;> conv => whnf)
    | (refine El.mk (fun el hel => ?_); obtain ⟨k, a, b, hk, rfl⟩ := r3_get hel; conv => whnf)
    | (refine call_sn ?_ (toSquare_ok ?_ ?_ ?_) ?_; (focus ((repeat' first | exact snapRow | exact snap_row (by simp; done) | exact rfl | exact trivial | apply And.intro | omega | (simp; done)); done)); conv => whnf)
    | (refine callP_sn ?_ (toSquare_ok ?_ ?_ ?_) ?_; (focus ((repeat' first | exact snapRow | exact snap_row (by simp; done) | exact rfl | exact trivial | apply And.intro | omega | (simp; done)); done)); conv => whnf)
    | (refine And.intro ?_ ?_; (focus (first | decide | omega | (simp at *; omega) | (simp_all; done))); conv => whnf)
  · refine ⟨i + 1, ?_, ?_, weak_of ?_ ?_ rfl (Nat.zero_le _)⟩
    · simp at hb ⊢; omega
    · simp at hb ⊢; omega
    · have := fill_set (f := r3) (z := [dI 0, dI 0, dI 0]) (i := i) (by simpa using hk)
      simp only [Int.toNat_natCast, Nat.zero_add, List.length_cons, List.length_nil, List.take_succ_cons, List.take_zero]
      rw [← this]; rfl
    · have h1 : IntKind.i64.wrap ((i : Int) + 1) = ((i + 1 : Nat) : Int) := by
        simp at hb
        have := wrap_len (n := i + 1) (by omega)
        simpa using this
      simp [envOK, getE, h1]
  · simp at hb
    rw [fill_all (by omega)]
    exact res_row rfl (by simp) r3_flat

theorem szSquareS_ok (cl : List (Int × Int × Int)) (left : Int) (hn : cl.length ≤ maxLen) (hl : 0 ≤ left ∧ left ≤ 1048576) : Fn G.P 50 [.c (.list 3 (cl.map r3)), aI left] (.one (aI (if cl.length ≤ left then left - cl.length else -1))) := by
  have h1 : IntKind.i64.wrap (left - (cl.length : Int)) = left - cl.length := wrap_i64 _ (by simp [maxLen] at hn; omega) (by omega)
  refine fn_of_body (G := G) Try.func50 rfl (by decide) (Nat.le_of_ble_eq_true rfl) ?_
  conv => whnf
  repeat' first
    | exact True.intro
    | (refine draw_mkF ?_ ?_ ?_; (focus (decide +kernel)); (focus (kernel_rfl)); conv => whnf)
    | (refine Both.mk ?_ ?_ <;> conv => whnf)
    | (refine OwnQ.own ?_; conv => whnf)
    | (refine NilQ.mk (fun hnil => ?_) ?_ <;> conv => whnf)
    | (refine draw_mk (by kernel_rfl) ?_; conv => whnf)
    | (refine Br.mk (fun hb => ?_) (fun hb => ?_) <;> conv => whnf)
    | (refine And.intro ?_ ?_; (focus (first | decide | omega | (simp at *; omega) | (simp_all; done))); conv => whnf)
  all_goals first | (simp_all [resOK_iff, resVs, resCell, resCells, refVs, refCV, refCs]; done) | (simp_all [resOK_iff, resVs, resCell, resCells, refVs, refCV, refCs]; omega)

theorem szCut_ok (w h : Int) (cl : List (Int × Int × Int)) (left : Int) (hn : cl.length ≤ maxLen) (hl : 0 ≤ left ∧ left ≤ 1048576) : Fn G.P 16 [.agg (dCut w h cl), aI left] (.one (aI (if cl.length ≤ left then left - cl.length else -1))) := by
  refine fn_of_body (G := G) Try.func16 rfl (by decide) (Nat.le_of_ble_eq_true rfl) ?_
  conv => whnf
  repeat' first
    | exact True.intro
    | (refine draw_mkF ?_ ?_ ?_; (focus (decide +kernel)); (focus (kernel_rfl)); conv => whnf)
    | (refine Both.mk ?_ ?_ <;> conv => whnf)
    | (refine OwnQ.own ?_; conv => whnf)
    | (refine NilQ.mk (fun hnil => ?_) ?_ <;> conv => whnf)
    | (refine draw_mk (by kernel_rfl) ?_; conv => whnf)
    | (refine Br.mk (fun hb => ?_) (fun hb => ?_) <;> conv => whnf)
    | (refine call_sn ?_ (szSquareS_ok ?_ ?_ ?_ ?_) ?_; (focus ((repeat' first | exact snapRow | exact snap_row (by simp; done) | exact rfl | exact trivial | apply And.intro | omega | (simp; done)); done)); assumption; assumption; conv => whnf)
    | (refine callP_sn ?_ (szSquareS_ok ?_ ?_ ?_ ?_) ?_; (focus ((repeat' first | exact snapRow | exact snap_row (by simp; done) | exact rfl | exact trivial | apply And.intro | omega | (simp; done)); done)); assumption; assumption; conv => whnf)
    | (refine And.intro ?_ ?_; (focus (first | decide | omega | (simp at *; omega) | (simp_all; done))); conv => whnf)
  all_goals first | (simp_all [resOK_iff, resVs, resCell, resCells, refVs, refCV, refCs]; done) | (simp_all [resOK_iff, resVs, resCell, resCells, refVs, refCV, refCs]; omega)

theorem toCut_ok (w h : Int) (cl : List (Int × Int × Int)) (hn : cl.length ≤ 2 ^ 40) : Fn G.P 19 [.agg (dCut w h cl)] (.one (.agg (dCut w h cl))) := by
  refine fn_of_body (G := G) Try.func19 rfl (by decide) (Nat.le_of_ble_eq_true rfl) ?_
  conv => whnf
  repeat' first
    | exact True.intro
    | (refine draw_mkF ?_ ?_ ?_; (focus (decide +kernel)); (focus (kernel_rfl)); conv => whnf)
    | (refine Both.mk ?_ ?_ <;> conv => whnf)
    | (refine OwnQ.own ?_; conv => whnf)
    | (refine NilQ.mk (fun hnil => ?_) ?_ <;> conv => whnf)
    | (refine draw_mk (by kernel_rfl) ?_; conv => whnf)
    | (refine Br.mk (fun hb => ?_) (fun hb => ?_) <;> conv => whnf)
    | (refine call_sn ?_ (toSquareS_ok ?_ ?_) ?_; (focus ((repeat' first | exact snapRow | exact snap_row (by simp; done) | exact rfl | exact trivial | apply And.intro | omega | (simp; done)); done)); assumption; conv => whnf)
    | (refine callP_sn ?_ (toSquareS_ok ?_ ?_) ?_; (focus ((repeat' first | exact snapRow | exact snap_row (by simp; done) | exact rfl | exact trivial | apply And.intro | omega | (simp; done)); done)); assumption; conv => whnf)
    | (refine And.intro ?_ ?_; (focus (first | decide | omega | (simp at *; omega) | (simp_all; done))); conv => whnf)
  exact ⟨⟨⟨rfl, rfl, res_cell (by simp [objAt]) rfl r3_flat, trivial⟩, trivial⟩, by simp [refVs, refCs, refCV]⟩

end Go.Proofs.Ytmfdkjjhdjkgpaa

namespace Go.Proofs.Ytmfdkjjhdjkgpaa
open Go Go.RowKit
set_option maxRecDepth 10000
set_option linter.unusedSimpArgs false

/-- The first square comes before the second one. -/
def lessB (a b : Int × Int × Int) : Bool := decide (a.2.1 < b.2.1) || (a.2.1 == b.2.1 && decide (a.1 < b.1))

/-- Squares have a common cell. -/
def ovB (a b : Int × Int × Int) : Bool := decide (a.1 < b.1 + b.2.2) && decide (b.1 < a.1 + a.2.2) && decide (a.2.1 < b.2.1 + b.2.2) && decide (b.2.1 < a.2.1 + a.2.2)

/-- A square of small numbers. -/
def smallSq (a : Int × Int × Int) : Prop := 0 ≤ a.1 ∧ a.1 ≤ 500 ∧ 0 ≤ a.2.1 ∧ a.2.1 ≤ 500 ∧ 0 ≤ a.2.2 ∧ a.2.2 ≤ 500

theorem cuLess_ok (a b : Int × Int × Int) : Fn G.P 129 [.agg (r3 a), .agg (r3 b)] (.one (aB (lessB a b))) := by
  obtain ⟨x, y, s⟩ := a
  obtain ⟨x', y', s'⟩ := b
  refine fn_of_body (G := G) Try.func129 rfl (by decide) (Nat.le_of_ble_eq_true rfl) ?_
  conv => whnf
  repeat' first
    | exact True.intro
    | (refine draw_mkF ?_ ?_ ?_; (focus (decide +kernel)); (focus (kernel_rfl)); conv => whnf)
    | (refine Both.mk ?_ ?_ <;> conv => whnf)
    | (refine OwnQ.own ?_; conv => whnf)
    | (refine NilQ.mk (fun hnil => ?_) ?_ <;> conv => whnf)
    | (refine draw_mk (by kernel_rfl) ?_; conv => whnf)
    | (refine Br.mk (fun hb => ?_) (fun hb => ?_) <;> conv => whnf)
    | (refine And.intro ?_ ?_; (focus (first | decide | omega | (simp at *; omega) | (simp_all; done))); conv => whnf)
  all_goals simp only [decide_eq_true_eq, decide_eq_false_iff_not, beq_iff_eq, beq_eq_false_iff_ne] at *
  · simp [resOK_iff, resVs, resCell, refVs, refCV, lessB, hb]
  · subst hb
    simp [resOK_iff, resVs, resCell, refVs, refCV, lessB]
  · have h2 : ¬ y < y' := by omega
    simp [resOK_iff, resVs, resCell, refVs, refCV, lessB, h2, hb]

theorem comparePlaces_ok (a b : Int × Int × Int) (ha : smallSq a) (hb : smallSq b) : Fn G.P 132 [.agg (r3 a), .agg (r3 b)] (.one (aI (if a.2.1 = b.2.1 then a.1 - b.1 else a.2.1 - b.2.1))) := by
  obtain ⟨x, y, s⟩ := a
  obtain ⟨x', y', s'⟩ := b
  simp only [smallSq] at ha hb
  have h1 : IntKind.i64.wrap (y - y') = y - y' := wrap_i64 _ (by omega) (by omega)
  have h2 : IntKind.i64.wrap (x - x') = x - x' := wrap_i64 _ (by omega) (by omega)
  refine fn_of_body (G := G) Try.func132 rfl (by decide) (Nat.le_of_ble_eq_true rfl) ?_
  conv => whnf
  repeat' first
    | exact True.intro
    | (refine draw_mkF ?_ ?_ ?_; (focus (decide +kernel)); (focus (kernel_rfl)); conv => whnf)
    | (refine Both.mk ?_ ?_ <;> conv => whnf)
    | (refine OwnQ.own ?_; conv => whnf)
    | (refine NilQ.mk (fun hnil => ?_) ?_ <;> conv => whnf)
    | (refine draw_mk (by kernel_rfl) ?_; conv => whnf)
    | (refine Br.mk (fun hb => ?_) (fun hb => ?_) <;> conv => whnf)
    | (refine And.intro ?_ ?_; (focus (first | decide | omega | (simp at *; omega) | (simp_all; done))); conv => whnf)
  all_goals first | (simp_all [resOK_iff, resVs, resCell, resCells, refVs, refCV, refCs]; done) | (simp_all [resOK_iff, resVs, resCell, resCells, refVs, refCV, refCs]; omega)

theorem overlap_ok (a b : Int × Int × Int) (ha : smallSq a) (hb : smallSq b) : Fn G.P 135 [.agg (r3 a), .agg (r3 b)] (.one (aB (ovB a b))) := by
  obtain ⟨x, y, s⟩ := a
  obtain ⟨x', y', s'⟩ := b
  simp only [smallSq] at ha hb
  have h1 : IntKind.i64.wrap (x' + s') = x' + s' := wrap_i64 _ (by omega) (by omega)
  have h2 : IntKind.i64.wrap (x + s) = x + s := wrap_i64 _ (by omega) (by omega)
  have h3 : IntKind.i64.wrap (y' + s') = y' + s' := wrap_i64 _ (by omega) (by omega)
  have h4 : IntKind.i64.wrap (y + s) = y + s := wrap_i64 _ (by omega) (by omega)
  refine fn_of_body (G := G) Try.func135 rfl (by decide) (Nat.le_of_ble_eq_true rfl) ?_
  conv => whnf
  repeat' first
    | exact True.intro
    | (refine draw_mkF ?_ ?_ ?_; (focus (decide +kernel)); (focus (kernel_rfl)); conv => whnf)
    | (refine Both.mk ?_ ?_ <;> conv => whnf)
    | (refine OwnQ.own ?_; conv => whnf)
    | (refine NilQ.mk (fun hnil => ?_) ?_ <;> conv => whnf)
    | (refine draw_mk (by kernel_rfl) ?_; conv => whnf)
    | (refine Br.mk (fun hb => ?_) (fun hb => ?_) <;> conv => whnf)
    | (refine And.intro ?_ ?_; (focus (first | decide | omega | (simp at *; omega) | (simp_all; done))); conv => whnf)
  all_goals first | (simp_all [resOK_iff, resVs, resCell, resCells, refVs, refCV, refCs, ovB]; done) | (simp_all [resOK_iff, resVs, resCell, resCells, refVs, refCV, refCs, ovB]; omega)

theorem isWide_ok (n : Int) : Fn G.P 131 [aI n] (.one (aB (inB n 1 500))) := by
  refine fn_of_body (G := G) Try.func131 rfl (by decide) (Nat.le_of_ble_eq_true rfl) ?_
  conv => whnf
  repeat' first
    | exact True.intro
    | (refine draw_mkF ?_ ?_ ?_; (focus (decide +kernel)); (focus (kernel_rfl)); conv => whnf)
    | (refine Both.mk ?_ ?_ <;> conv => whnf)
    | (refine OwnQ.own ?_; conv => whnf)
    | (refine NilQ.mk (fun hnil => ?_) ?_ <;> conv => whnf)
    | (refine draw_mk (by kernel_rfl) ?_; conv => whnf)
    | (refine Br.mk (fun hb => ?_) (fun hb => ?_) <;> conv => whnf)
    | (refine call_sn ?_ (within_ok ?_ ?_ ?_) ?_; (focus ((repeat' first | exact snapRow | exact snap_row (by simp; done) | exact rfl | exact trivial | apply And.intro | omega | (simp; done)); done)); conv => whnf)
    | (refine callP_sn ?_ (within_ok ?_ ?_ ?_) ?_; (focus ((repeat' first | exact snapRow | exact snap_row (by simp; done) | exact rfl | exact trivial | apply And.intro | omega | (simp; done)); done)); conv => whnf)
    | (refine And.intro ?_ ?_; (focus (first | decide | omega | (simp at *; omega) | (simp_all; done))); conv => whnf)
  all_goals first | (simp_all [resOK_iff, resVs, resCell, resCells, refVs, refCV, refCs]; done) | (simp_all [resOK_iff, resVs, resCell, resCells, refVs, refCV, refCs]; omega)

theorem cuLess_ok3 (x y s x' y' s' : Int) : Fn G.P 129 [.agg [dI x, dI y, dI s], .agg [dI x', dI y', dI s']] (.one (aB (lessB (x, y, s) (x', y', s')))) := cuLess_ok (x, y, s) (x', y', s')

theorem comparePlaces_ok3 (x y s x' y' s' : Int) (ha : smallSq (x, y, s)) (hb : smallSq (x', y', s')) : Fn G.P 132 [.agg [dI x, dI y, dI s], .agg [dI x', dI y', dI s']] (.one (aI (if y = y' then x - x' else y - y'))) := comparePlaces_ok (x, y, s) (x', y', s') ha hb

theorem overlap_ok3 (x y s x' y' s' : Int) (ha : smallSq (x, y, s)) (hb : smallSq (x', y', s')) : Fn G.P 135 [.agg [dI x, dI y, dI s], .agg [dI x', dI y', dI s']] (.one (aB (ovB (x, y, s) (x', y', s')))) := overlap_ok (x, y, s) (x', y', s') ha hb

end Go.Proofs.Ytmfdkjjhdjkgpaa

namespace Go.Proofs.Ytmfdkjjhdjkgpaa
open Go Go.RowKit
set_option maxRecDepth 10000
set_option linter.unusedSimpArgs false

def placeB (w h : Int) (s : Int × Int × Int) : Bool := inB s.2.2 1 500 && (inB s.1 0 (w - s.2.2) && inB s.2.1 0 (h - s.2.2))

def lastB (pre : List (Int × Int × Int)) (s : Int × Int × Int) : Bool :=
  match pre.getLast? with
  | none => true
  | some q => lessB q s

def okB (w h : Int) (pre : List (Int × Int × Int)) (s : Int × Int × Int) : Bool := placeB w h s && ((pre.all fun q => !ovB s q) && lastB pre s)

def cutChk (w h : Int) : List (Int × Int × Int) → List (Int × Int × Int) → Int → Bool
  | _, [], area => area == w * h
  | pre, s :: r, area => okB w h pre s && cutChk w h (pre ++ [s]) r (area + s.2.2 * s.2.2)

/-- Cuts. -/
def goodCutB (w h : Int) (sq : List (Int × Int × Int)) : Bool := inB w 1 500 && (inB h 1 500 && (inB sq.length 1 30 && cutChk w h [] sq 0))

theorem small_of_place {w h : Int} {s : Int × Int × Int} (hw : inB w 1 500 = true) (hh : inB h 1 500 = true) (hp : placeB w h s = true) : smallSq s := by
  simp only [placeB, inB, Bool.and_eq_true, decide_eq_true_eq] at hw hh hp
  simp only [smallSq]
  omega

theorem chk_step {w h : Int} {sq : List (Int × Int × Int)} {i : Nat} {s : Int × Int × Int} {area : Int} (hs : sq[i]? = some s) :
    cutChk w h (sq.take i) (sq.drop i) area = (okB w h (sq.take i) s && cutChk w h (sq.take (i + 1)) (sq.drop (i + 1)) (area + s.2.2 * s.2.2)) := by
  obtain ⟨hi, rfl⟩ := List.getElem?_eq_some_iff.1 hs
  rw [List.drop_eq_getElem_cons hi, cutChk, List.take_add_one, List.getElem?_eq_getElem hi]
  rfl

theorem chk_end {w h : Int} {sq : List (Int × Int × Int)} {i : Nat} {area : Int} (hi : sq.length ≤ i) : cutChk w h (sq.take i) (sq.drop i) area = (area == w * h) := by
  rw [List.drop_of_length_le hi]; rfl

theorem all_take_succ' {α : Type} {p : α → Bool} {l : List α} {i : Nat} {x : α} (h : l[i]? = some x) (ha : (l.take i).all p = true) (hx : p x = true) : (l.take (i + 1)).all p = true := by
  rw [List.take_add_one, h]; simp_all

theorem res_false {objs : Objs} {b c : Bool} (h : b = false) : ResOK objs [.c (.d (.v (.bool false)))] [aB (b && c)] := by
  subst h; exact ⟨⟨rfl, trivial⟩, by simp [refVs, refCV]⟩

theorem not_all' {α : Type} {p : α → Bool} {l : List α} {i : Nat} {x : α} (h : l[i]? = some x) (hx : p x = false) : l.all p = false := by
  rw [List.all_eq_false]
  exact ⟨x, List.mem_of_getElem? h, by simp [hx]⟩

theorem cuGood_ok (w h : Int) (sq : List (Int × Int × Int)) (hn : sq.length ≤ 2 ^ 40) : Fn G.P 97 [.agg (dCut w h sq)] (.one (aB (goodCutB w h sq))) := by
  refine fn_of_body (G := G) Try.func97 rfl (by decide) (Nat.le_of_ble_eq_true rfl) ?_
  conv => whnf
  repeat' first
    | exact True.intro
    | (refine draw_mkF ?_ ?_ ?_; (focus (decide +kernel)); (focus (kernel_rfl)); conv => whnf)
    | (refine Both.mk ?_ ?_ <;> conv => whnf)
    | (refine OwnQ.own ?_; conv => whnf)
    | (refine NilQ.mk (fun hnil => ?_) ?_ <;> conv => whnf)
    | (refine draw_mk (by kernel_rfl) ?_; conv => whnf)
    | (refine Br.mk (fun hb => ?_) (fun hb => ?_) <;> conv => whnf)
    | (refine call_sn ?_ (l1In_ok ?_ ?_ ?_) ?_; (focus ((repeat' first | exact snapRow | exact snap_row (by simp; done) | exact rfl | exact trivial | apply And.intro | omega | (simp; done)); done)); conv => whnf)
    | (refine callP_sn ?_ (l1In_ok ?_ ?_ ?_) ?_; (focus ((repeat' first | exact snapRow | exact snap_row (by simp; done) | exact rfl | exact trivial | apply And.intro | omega | (simp; done)); done)); conv => whnf)
    | (refine And.intro ?_ ?_; (focus (first | decide | omega | (simp at *; omega) | (simp_all; done))); conv => whnf)
  · simp at hb
    simp [resOK_iff, resVs, resCell, refVs, refCV, goodCutB, hb]
  · simp at hb
    simp [resOK_iff, resVs, resCell, refVs, refCV, goodCutB, hb]
  · simp at hb
    simp [resOK_iff, resVs, resCell, refVs, refCV, goodCutB, hb]
  rename_i hw hh
  have hw' : inB w 1 500 = true := by simpa using hw
  have hh' : inB h 1 500 = true := by simpa using hh
  have hl' : inB (sq.length : Int) 1 30 = true := by simpa using hb
  clear hb hw hh
  have hlen : 1 ≤ sq.length ∧ sq.length ≤ 30 := by simp only [inB, decide_eq_true_eq] at hl'; omega
  have hgood : goodCutB w h sq = cutChk w h [] sq 0 := by simp [goodCutB, hw', hh', hl']
  rw [hgood]
  refine .inl ⟨Nat × Int, fun x => sq.length - x.1, fun x => x.1 ≤ sq.length ∧ 0 ≤ x.2 ∧ x.2 ≤ 250000 * x.1 ∧ (∀ q ∈ sq.take x.1, smallSq q) ∧ cutChk w h [] sq 0 = cutChk w h (sq.take x.1) (sq.drop x.1) x.2,
    fun x => ⟨[(1, .one (.c (.ptr 0 0 0))), (3, .one (.c (vI x.2))), (26, .one (.c (.d (.list 3 (sq.map r3))))), (27, .one (.c (vI sq.length))), (28, .one (.c (vI x.1)))],
    [(0, .box [.d (dI w), .d (dI h), .d (.list 3 (sq.map r3))])], _⟩, (0, 0), ⟨Nat.zero_le _, Int.le_refl _, by simp, by simp, by simp⟩, weak_of rfl ?_ rfl (Nat.zero_le _), ?_⟩
  · simp [envOK, getE]
  rintro ⟨i, area⟩ ⟨hi, ha0, ha1, hsm, hchk⟩
  dsimp only at hi ha0 ha1 hsm hchk
  conv => whnf
  have hcap : i < sq.length → ∀ x y s, sq[i]? = some (x, y, s) → cutChk w h [] sq 0 = (okB w h (sq.take i) (x, y, s) && cutChk w h (sq.take (i + 1)) (sq.drop (i + 1)) (area + s * s)) := fun _ x y s hs => by rw [hchk, chk_step hs]
  repeat' first
    | exact True.intro
    | (refine draw_mkF ?_ ?_ ?_; (focus (decide +kernel)); (focus (kernel_rfl)); conv => whnf)
    | (refine Both.mk ?_ ?_ <;> conv => whnf)
    | (refine OwnQ.own ?_; conv => whnf)
    | (refine NilQ.mk (fun hnil => ?_) ?_ <;> conv => whnf)
    | (refine draw_mk (by kernel_rfl) ?_; conv => whnf)
    | (refine Br.mk (fun hb => ?_) (fun hb => ?_) <;> conv => whnf)
    | (refine El.mk (fun el hel => ?_); obtain ⟨x, y, s, hk, rfl⟩ := r3_get hel; conv => whnf)
    | (refine call_sn ?_ (l1In_ok ?_ ?_ ?_) ?_; (focus ((repeat' first | exact snapRow | exact snap_row (by simp; done) | exact rfl | exact trivial | apply And.intro | omega | (simp; done)); done)); conv => whnf)
    | (refine callP_sn ?_ (l1In_ok ?_ ?_ ?_) ?_; (focus ((repeat' first | exact snapRow | exact snap_row (by simp; done) | exact rfl | exact trivial | apply And.intro | omega | (simp; done)); done)); conv => whnf)
    | (refine And.intro ?_ ?_; (focus (first | decide | omega | (simp at *; omega) | (simp_all; done))); conv => whnf)
  · have hk' : sq[i]? = some (x, y, s) := by simpa using hk
    simp at hb
    rw [hcap (List.getElem?_eq_some_iff.1 hk').1 x y s hk']
    simp [resOK_iff, resVs, resCell, refVs, refCV, okB, placeB, hb]
  · rename_i hs
    have hk' : sq[i]? = some (x, y, s) := by simpa using hk
    simp only [Bool.not_eq_false', inB, decide_eq_true_eq] at hs hw' hh'
    have w1 : IntKind.i64.wrap (w - s) = w - s := wrap_i64 _ (by omega) (by omega)
    rw [w1] at hb
    simp at hb
    rw [hcap (List.getElem?_eq_some_iff.1 hk').1 x y s hk']
    simp [resOK_iff, resVs, resCell, refVs, refCV, okB, placeB, hb]
  · rename_i hs hx
    have hk' : sq[i]? = some (x, y, s) := by simpa using hk
    simp only [Bool.not_eq_false', inB, decide_eq_true_eq] at hs hw' hh'
    have w1 : IntKind.i64.wrap (h - s) = h - s := wrap_i64 _ (by omega) (by omega)
    rw [w1] at hb
    simp at hb
    rw [hcap (List.getElem?_eq_some_iff.1 hk').1 x y s hk']
    simp [resOK_iff, resVs, resCell, refVs, refCV, okB, placeB, hb]
  rotate_left
  · simp at hb
    have hab : area ≤ 250000 * 30 := by omega
    have hwh : 0 ≤ w * h ∧ w * h ≤ 250000 := by
      simp only [inB, decide_eq_true_eq] at hw' hh'
      have h1 : 0 * 0 ≤ w * h := Int.mul_le_mul (by omega) (by omega) (by omega) (by omega)
      have h2 : w * h ≤ 500 * 500 := Int.mul_le_mul (by omega) (by omega) (by omega) (by omega)
      omega
    have w1 : IntKind.i64.wrap (w * h) = w * h := wrap_i64 _ (by omega) (by omega)
    rw [hchk, chk_end (by omega), w1]
    simp [resOK_iff, resVs, resCell, refVs, refCV]
  rename_i hs hx
  have hk' : sq[i]? = some (x, y, s) := by simpa using hk
  have hi' : i < sq.length := (List.getElem?_eq_some_iff.1 hk').1
  simp only [Bool.not_eq_false'] at hs hx hb
  have hsv := hs
  simp only [inB, decide_eq_true_eq] at hsv
  have hwv := hw'
  have hhv := hh'
  simp only [inB, decide_eq_true_eq] at hwv hhv
  have w1 : IntKind.i64.wrap (w - s) = w - s := wrap_i64 _ (by omega) (by omega)
  have w2 : IntKind.i64.wrap (h - s) = h - s := wrap_i64 _ (by omega) (by omega)
  rw [w1] at hx
  rw [w2] at hb
  have hpl : placeB w h (x, y, s) = true := by simp [placeB, hs, hx, hb]
  have hss : 0 ≤ s * s ∧ s * s ≤ 250000 := by
    have h1 : 0 * 0 ≤ s * s := Int.mul_le_mul (by omega) (by omega) (by omega) (by omega)
    have h2 : s * s ≤ 500 * 500 := Int.mul_le_mul (by omega) (by omega) (by omega) (by omega)
    omega
  have w3 : IntKind.i64.wrap (s * s) = s * s := wrap_i64 _ (by omega) (by omega)
  have w4 : IntKind.i64.wrap (area + s * s) = area + s * s := wrap_i64 _ (by omega) (by omega)
  have hsmall := small_of_place hw' hh' hpl
  rw [hcap hi' x y s hk']
  refine .inl ⟨Nat, fun k => i - k, fun k => k ≤ i ∧ ((sq.take k).all fun q => !ovB (x, y, s) q) = true ∧ (k = i → lastB (sq.take i) (x, y, s) = true),
    fun k => ⟨[(1, .one (.c (.ptr 0 0 0))), (3, .one (.c (vI (area + s * s)))), (4, .one (.c (vI i))), (5, .one (.c (.ptr 1 0 0))), (26, .one (.c (.d (.list 3 (sq.map r3))))), (27, .one (.c (vI sq.length))), (28, .one (.c (vI i))),
      (69, .one (.c (.d (.list 3 ((sq.take i).map r3))))), (70, .one (.c (vI i))), (71, .one (.c (vI k)))],
    [(0, .box [.d (dI w), .d (dI h), .d (.list 3 (sq.map r3))]), (0, .box [.d (dI x), .d (dI y), .d (dI s)])], _⟩, 0, ⟨Nat.zero_le _, rfl, ?_⟩, weak_of rfl ?_ rfl (Nat.zero_le _), ?_⟩
  · intro h0; subst h0; rfl
  · rw [w3, w4]
    simp [envOK, getE]
    omega
  have hstop1 : ∀ (k : Nat) q, (sq.take i)[k]? = some q → ovB (x, y, s) q = true → okB w h (sq.take i) (x, y, s) = false := by
    intro k q hq ho
    have := not_all' (p := fun q => !ovB (x, y, s) q) hq (by simp [ho])
    simp [okB, this]
  have hstop2 : ∀ (k : Nat) q, (sq.take i)[k]? = some q → k + 1 = i → lessB q (x, y, s) = false → okB w h (sq.take i) (x, y, s) = false := by
    intro k q hq hki hl
    have hlast : (sq.take i).getLast? = some q := by
      rw [List.getLast?_eq_getElem?, List.length_take, Nat.min_eq_left (by omega), ← hki, Nat.add_sub_cancel, hki]; exact hq
    simp [okB, lastB, hlast, hl]
  have hlast2 : ∀ (k : Nat) q, (sq.take i)[k]? = some q → k + 1 = i → lessB q (x, y, s) = true → lastB (sq.take i) (x, y, s) = true := by
    intro k q hq hki hl
    have hlast : (sq.take i).getLast? = some q := by
      rw [List.getLast?_eq_getElem?, List.length_take, Nat.min_eq_left (by omega), ← hki, Nat.add_sub_cancel, hki]; exact hq
    simp [lastB, hlast, hl]
  rintro k ⟨hk1, hk2, hk3⟩
  conv => whnf
  repeat' first
    | exact True.intro
    | (refine draw_mkF ?_ ?_ ?_; (focus (decide +kernel)); (focus (kernel_rfl)); conv => whnf)
    | (refine Both.mk ?_ ?_ <;> conv => whnf)
    | (refine OwnQ.own ?_; conv => whnf)
    | (refine NilQ.mk (fun hnil => ?_) ?_ <;> conv => whnf)
    | (refine draw_mk (by kernel_rfl) ?_; conv => whnf)
    | (refine Br.mk (fun hb => ?_) (fun hb => ?_) <;> conv => whnf)
    | (refine El.mk (fun el hel => ?_); obtain ⟨x', y', s', hq, rfl⟩ := r3_get hel; conv => whnf)
    | (refine call_sn ?_ (cuLess_ok3 ?_ ?_ ?_ ?_ ?_ ?_) ?_; (focus ((repeat' first | exact snapRow | exact snap_row (by simp; done) | exact rfl | exact trivial | apply And.intro | omega | (simp; done)); done)); conv => whnf)
    | (refine callP_sn ?_ (cuLess_ok3 ?_ ?_ ?_ ?_ ?_ ?_) ?_; (focus ((repeat' first | exact snapRow | exact snap_row (by simp; done) | exact rfl | exact trivial | apply And.intro | omega | (simp; done)); done)); conv => whnf)
    | (refine And.intro ?_ ?_; (focus (first | decide | omega | (simp at *; omega) | (simp_all; done))); conv => whnf)
  rotate_right 1
  · simp at hb
    obtain rfl : k = i := by omega
    have hok : okB w h (sq.take k) (x, y, s) = true := by simp [okB, hpl, hk2, hk3]
    refine ⟨(k + 1, area + s * s), ⟨by omega, by omega, by simp; omega, ?_, by simp [hok]⟩, by simp; omega, weak_of rfl ?_ rfl (Nat.zero_le _)⟩
    · intro q hq
      rw [List.take_add_one, hk'] at hq
      rcases List.mem_append.1 hq with hq | hq
      · exact hsm q hq
      · simp at hq; subst hq; exact hsmall
    · have := wrap_len (n := k + 1) (by omega)
      simp [envOK, getE]
      simpa using this
  all_goals (have hq' : (sq.take i)[k]? = some (x', y', s') := by simpa using hq)
  all_goals (have hki : k < i := by have := (List.getElem?_eq_some_iff.1 hq').1; simp at this; omega)
  all_goals (have hqs := hsm _ (List.mem_of_getElem? hq'); simp only [smallSq] at hqs hsmall)
  all_goals (have w5 : IntKind.i64.wrap (x' + s') = x' + s' := wrap_i64 _ (by omega) (by omega))
  all_goals (have w6 : IntKind.i64.wrap (x + s) = x + s := wrap_i64 _ (by omega) (by omega))
  all_goals (have w7 : IntKind.i64.wrap (y' + s') = y' + s' := wrap_i64 _ (by omega) (by omega))
  all_goals (have w8 : IntKind.i64.wrap (y + s) = y + s := wrap_i64 _ (by omega) (by omega))
  all_goals (have w9 : IntKind.i64.wrap ((i : Int) - 1) = (i : Int) - 1 := wrap_i64 _ (by omega) (by omega))
  all_goals simp only [w5, w6, w7, w8, w9, decide_eq_true_eq, decide_eq_false_iff_not, beq_iff_eq, beq_eq_false_iff_ne] at *
  all_goals (have hsk : sq[k]? = some (x', y', s') := by rwa [List.getElem?_take_of_lt hki] at hq')
  all_goals first
    | (refine res_false ?_
       by_cases hov : ovB (x, y, s) (x', y', s') = true
       · exact hstop1 k _ hq' hov
       · by_cases hl : lessB (x', y', s') (x, y, s) = false ∧ k + 1 = i
         · exact hstop2 k _ hq' hl.2 hl.1
         · exfalso
           simp [ovB] at hov
           first
             | omega
             | (apply hl
                refine ⟨?_, by omega⟩
                simp_all; done))
    | (refine ⟨k + 1, ⟨hki, all_take_succ' hsk hk2 ?_, fun hk1 => hlast2 k _ hq' hk1 ?_⟩, ?_, weak_of rfl ?_ rfl (Nat.zero_le _)⟩
       · simp [ovB]; omega
       · first
           | (simp_all; done)
           | (exfalso; omega)
       · show i - (k + 1) < i - k
         omega
       · have := wrap_len (n := k + 1) (by omega)
         simp [envOK, getE, putE]
         simpa using this)

end Go.Proofs.Ytmfdkjjhdjkgpaa

namespace Go.Proofs.Ytmfdkjjhdjkgpaa
open Go Go.RowKit
set_option maxRecDepth 10000
set_option linter.unusedSimpArgs false

end Go.Proofs.Ytmfdkjjhdjkgpaa

/- Puzzles that are made. -/
import Derived.Test.YtmfdkjjhdjkgpaaQGtel
import Derived.Test.YtmfdkjjhdjkgpaaQMarky
import Derived.Test.YtmfdkjjhdjkgpaaQMarkx
namespace Go.Proofs.Ytmfdkjjhdjkgpaa
open Go Go.RowKit
set_option maxRecDepth 10000
set_option maxHeartbeats 1000000
set_option linter.unusedSimpArgs false

/-- The next number. -/
theorem nz_ex : ∃ f : Nat → Nat, ∀ z, f z = (167 * z + 2411) % 10007 := ⟨_, fun _ => rfl⟩

noncomputable def nz : Nat → Nat := Classical.choose nz_ex

theorem nz_eq (z : Nat) : nz z = (167 * z + 2411) % 10007 := Classical.choose_spec nz_ex z

/-- The next clue, and the number behind it. -/
noncomputable def mkC (w h : Nat) (sq : List (Int × Int × Int)) (z : Nat) : (Int × Int × Int) × Nat :=
  if nz z % 6 = 1 then ((1, ((nz (nz z) % 3 + 1 : Nat) : Int), tellI 1 ((nz (nz z) % 3 + 1 : Nat) : Int) w h sq), nz (nz z))
  else if nz z % 6 = 2 then ((2, ((nz (nz z) % (w * h) : Nat) : Int), tellI 2 ((nz (nz z) % (w * h) : Nat) : Int) w h sq), nz (nz z))
  else if nz z % 6 = 3 then ((3, ((nz (nz z) % 4 : Nat) : Int), tellI 3 ((nz (nz z) % 4 : Nat) : Int) w h sq), nz (nz z))
  else (((nz z % 6 : Nat), tellI (nz z % 6 : Nat) 0 w h sq, 0), nz z)

/-- So many clues, and the number behind them. -/
noncomputable def mkN (w h : Nat) (sq : List (Int × Int × Int)) (z : Nat) : Nat → List (Int × Int × Int) × Nat
  | 0 => ([], z)
  | n + 1 => ((mkN w h sq z n).1 ++ [(mkC w h sq (mkN w h sq z n).2).1], (mkC w h sq (mkN w h sq z n).2).2)

theorem nz_le (z : Nat) : nz z ≤ 10006 := by rw [nz_eq]; omega

theorem mkC_le (w h : Nat) (sq : List (Int × Int × Int)) (z : Nat) : (mkC w h sq z).2 ≤ 10006 := by
  unfold mkC
  repeat' split
  all_goals exact nz_le _

theorem mkN_le (w h : Nat) (sq : List (Int × Int × Int)) {z : Nat} (hz : z ≤ 10006) : ∀ n, (mkN w h sq z n).2 ≤ 10006
  | 0 => hz
  | n + 1 => mkC_le _ _ _ _

theorem mkN_len (w h : Nat) (sq : List (Int × Int × Int)) (z : Nat) : ∀ n, (mkN w h sq z n).1.length = n
  | 0 => rfl
  | n + 1 => by
    show ((mkN w h sq z n).1 ++ [_]).length = _
    rw [List.length_append, mkN_len w h sq z n]; rfl

theorem mod_a1 (u : Nat) (hu : u ≤ 10006) : IntKind.i64.wrap ((u : Int).tmod 3 + 1) = ((u % 3 + 1 : Nat) : Int) := by
  rw [Int.tmod_eq_emod_of_nonneg (by omega), wrap_i64 _ (by omega) (by omega)]; omega

theorem mod_a3 (u : Nat) : (u : Int).tmod 4 = ((u % 4 : Nat) : Int) := by
  rw [Int.tmod_eq_emod_of_nonneg (by omega)]; omega

theorem mod_a2 (u v : Nat) : (u : Int).tmod (v : Int) = ((u % v : Nat) : Int) := by
  rw [Int.tmod_eq_emod_of_nonneg (by omega)]; norm_cast

theorem pzNext_ok (z : Nat) (hz : z ≤ 10006) : Fn G.P 60 [aI z] (.one (aI (nz z))) := by
  have e1 : IntKind.i64.wrap (167 * (z : Int)) = ((167 * z : Nat) : Int) := by rw [wrap_i64 _ (by omega) (by omega)]; omega
  have e2 : IntKind.i64.wrap (((167 * z : Nat) : Int) + 2411) = ((167 * z + 2411 : Nat) : Int) := by rw [wrap_i64 _ (by omega) (by omega)]; omega
  have e3 : ((167 * z + 2411 : Nat) : Int).tmod 10007 = (nz z : Nat) := by
    rw [Int.tmod_eq_emod_of_nonneg (by omega)]
    rw [nz_eq]
    omega
  refine fn_of_body (G := G) Try.func60 rfl (by decide) (Nat.le_of_ble_eq_true rfl) ?_
  conv => whnf
  repeat' first
    | exact True.intro
    | (refine draw_mkF ?_ ?_ ?_; (focus (decide +kernel)); (focus (kernel_rfl)); conv => whnf)
    | (refine Both.mk ?_ ?_ <;> conv => whnf)
    | (refine OwnQ.own ?_; conv => whnf)
    | (refine NilQ.mk (fun hnil => ?_) ?_ <;> conv => whnf)
    | (refine draw_mk (by kernel_rfl) ?_; conv => whnf)
    | (refine Br.mk (fun hb => ?_) (fun hb => ?_) <;> conv => whnf)
    | (refine And.intro ?_ ?_; (focus (first | decide | omega | (simp at *; omega) | (simp_all; done))); conv => whnf)
  rw [e1, e2, e3]
  exact ⟨⟨rfl, trivial⟩, by simp [refVs, refCV]⟩

/-- When a puzzle is made. -/
def makeB (w h : Int) (sq : List (Int × Int × Int)) (n s : Int) : Bool := (goodCutB w h sq && hiddenB w h) && (inB n 0 6 && inB s 0 9999)

theorem implMake_yes {w h : Nat} {sq : List (Int × Int × Int)} {n s : Nat} (hg : goodCutB w h sq = true) (hi : hiddenB w h = true) (hn : n ≤ 6) (hs : s ≤ 9999) :
    Fn G.P 23 [.agg (dCut w h sq), aI n, aI s] (.tup [.agg (dPuzzle w h (mkN w h sq s n).1), aB true]) := by
  obtain ⟨⟨g1, g2⟩, ⟨g3, g4⟩, ⟨g5, g6⟩, _⟩ := good_chk hg
  have hh := isHiddenCut_ok w h sq (by omega)
  rw [hg, hi] at hh
  have hn1 := within_ok n 0 6
  rw [show inB (n : Int) 0 6 = true by simp only [inB, decide_eq_true_eq]; omega] at hn1
  have hs1 := within_ok s 0 9999
  rw [show inB (s : Int) 0 9999 = true by simp only [inB, decide_eq_true_eq]; omega] at hs1
  have hwh : 1 ≤ w * h ∧ w * h ≤ 12 := by
    have hx : (w : Int) * (h : Int) ≤ 12 := by simp only [hiddenB, Bool.and_eq_true, decide_eq_true_eq] at hi; exact hi.2
    have hy : (w : Int) * (h : Int) = ((w * h : Nat) : Int) := (Int.natCast_mul w h).symm
    have : 1 * 1 ≤ w * h := Nat.mul_le_mul (by omega) (by omega)
    omega
  have hwm : IntKind.i64.wrap ((w : Int) * (h : Int)) = ((w * h : Nat) : Int) := by rw [← Int.natCast_mul, wrap_i64 _ (by omega) (by omega)]
  have ht := tiled_of_good hg
  have htold := fun {k a : Int} (hk : tellOK k a w h) => told_ok ht (by omega) (by omega) ⟨g5, g6⟩ hk
  refine fn_of_body (G := G) Try.func23 rfl (by decide) (Nat.le_of_ble_eq_true rfl) ?_
  conv => whnf
  repeat' first
    | exact True.intro
    | (refine draw_mkF ?_ ?_ ?_; (focus (decide +kernel)); (focus (kernel_rfl)); conv => whnf)
    | (refine Both.mk ?_ ?_ <;> conv => whnf)
    | (refine OwnQ.own ?_; conv => whnf)
    | (refine NilQ.mk (fun hnil => ?_) ?_ <;> conv => whnf)
    | (refine draw_mk (by kernel_rfl) ?_; conv => whnf)
    | (refine Br.mk (fun hb => (by exfalso; first | (simp [not_true_eq_false] at hb; done) | (simp [not_true_eq_false] at hb; omega))) (fun hb => ?_); clear hb; conv => whnf)
    | (refine Br.mk (fun hb => ?_) (fun hb => (by exfalso; first | (simp [not_true_eq_false] at hb; done) | (simp [not_true_eq_false] at hb; omega))); clear hb; conv => whnf)
    | (refine Br.mk (fun hb => ?_) (fun hb => ?_) <;> conv => whnf)
    | (refine call_sn ?_ (hh) ?_; (focus ((repeat' first | exact snapRow | exact snap_row (by simp; done) | exact rfl | exact trivial | apply And.intro | omega | (simp; done)); done)); conv => whnf)
    | (refine callP_sn ?_ (hh) ?_; (focus ((repeat' first | exact snapRow | exact snap_row (by simp; done) | exact rfl | exact trivial | apply And.intro | omega | (simp; done)); done)); conv => whnf)
    | (refine call_sn ?_ (hn1) ?_; (focus ((repeat' first | exact snapRow | exact snap_row (by simp; done) | exact rfl | exact trivial | apply And.intro | omega | (simp; done)); done)); conv => whnf)
    | (refine callP_sn ?_ (hn1) ?_; (focus ((repeat' first | exact snapRow | exact snap_row (by simp; done) | exact rfl | exact trivial | apply And.intro | omega | (simp; done)); done)); conv => whnf)
    | (refine call_sn ?_ (hs1) ?_; (focus ((repeat' first | exact snapRow | exact snap_row (by simp; done) | exact rfl | exact trivial | apply And.intro | omega | (simp; done)); done)); conv => whnf)
    | (refine callP_sn ?_ (hs1) ?_; (focus ((repeat' first | exact snapRow | exact snap_row (by simp; done) | exact rfl | exact trivial | apply And.intro | omega | (simp; done)); done)); conv => whnf)
    | (refine And.intro ?_ ?_; (focus (first | decide | omega | (simp at *; omega) | (simp_all; done))); conv => whnf)
  refine .inl ⟨Nat, fun i => n - i, fun i => i ≤ n, fun i => ⟨[(3, .one (.c (.ptr 0 0 0))), (6, .one (.c (.ptr 2 0 0))), (7, .one (.c (vB false))), (8, .one (.c (.fn 64 [(1, 0, 0)]))), (9, .one (.c (.ptr 3 0 0))), (31, .one (.c (vI n))), (32, .one (.c (vI i)))],
    [(0, .box [.d (dI w), .d (dI h), .d (.list 3 (sq.map r3))]), (0, .box [.d (dI (mkN w h sq s i).2)]), (0, .box [.d (dI 0), .d (dI 0), .nilsl]), (0, .box [.d (dI w), .d (dI h), .sl 4 0 3 0 i none]), (0, .arr 3 ((mkN w h sq s i).1.map r3))], _⟩, 0, Nat.zero_le _,
      weak_cap.trans (weak_nilof (t := [(0, .box [.d (dI w), .d (dI h), .d (.list 3 (sq.map r3))]), (0, .box [.d (dI s)]), (0, .box [.d (dI 0), .d (dI 0), .nilsl]), (0, .box [.d (dI w), .d (dI h), .sl 4 0 3 0 0 none])]) 4 3 rfl ?_ rfl rfl rfl (Nat.zero_le _) (Nat.zero_le _)), fun i hin => ?_⟩
  · (repeat' first | exact rfl | exact trivial | apply And.intro | (simp [getE]; done))
  replace hin : i ≤ n := hin
  dsimp only
  have hz := mkN_le w h sq (z := s) (by omega) i
  have hl := mkN_len w h sq s i
  have hnx1 : (mkN w h sq s (i + 1)).1 = (mkN w h sq s i).1 ++ [(mkC w h sq (mkN w h sq s i).2).1] := rfl
  have hnx2 : (mkN w h sq s (i + 1)).2 = (mkC w h sq (mkN w h sq s i).2).2 := rfl
  generalize hZ : mkN w h sq s i = Z at hz hl hnx1 hnx2
  obtain ⟨L, z⟩ := Z
  dsimp only at hz hl hnx1 hnx2 ⊢
  have hwi : IntKind.i64.wrap ((i : Int) + 1) = ((i + 1 : Nat) : Int) := by rw [wrap_i64 _ (by omega) (by omega)]; omega
  have nxt : ∀ u : Nat, u ≤ 10006 → (IntKind.i64.wrap (IntKind.i64.wrap ((u : Int) * 167) + 2411)).tmod 10007 = (nz u : Nat) := fun u hu => by
    rw [wrap_i64 ((u : Int) * 167) (by omega) (by omega), wrap_i64 _ (by omega) (by omega), Int.tmod_eq_emod_of_nonneg (by omega)]
    rw [nz_eq]
    omega
  have hn1 := nz_le z
  have hn2 := nz_le (nz z)
  have e1 := nxt z hz
  have e2 := nxt (nz z) hn1
  rw [← e1] at e2
  have eK : ((IntKind.i64.wrap (IntKind.i64.wrap ((z : Int) * 167) + 2411)).tmod 10007).tmod 6 = ((nz z % 6 : Nat) : Int) := by rw [e1, Int.tmod_eq_emod_of_nonneg (by omega)]; omega
  conv => whnf
  refine Br.mk (fun hb => ?_) (fun hb => ?_) <;> conv => whnf
  · have hlt : i < n := by simp at hb; omega
    clear hb
    have hk6 : nz z % 6 < 6 := Nat.mod_lt _ (by omega)
    by_cases c1 : nz z % 6 = 1
    ·
      rw [c1] at eK
      have hC : (mkC w h sq z) = ((1, ((nz (nz z) % 3 + 1 : Nat) : Int), tellI 1 ((nz (nz z) % 3 + 1 : Nat) : Int) w h sq), nz (nz z)) := by unfold mkC; rw [if_pos c1]
      have eA : IntKind.i64.wrap (((IntKind.i64.wrap (IntKind.i64.wrap (((IntKind.i64.wrap (IntKind.i64.wrap ((z : Int) * 167) + 2411)).tmod 10007) * 167) + 2411)).tmod 10007).tmod 3 + 1) = ((nz (nz z) % 3 + 1 : Nat) : Int) := by rw [e2]; exact mod_a1 _ hn2
      have h2 := hasTwo_ok (((IntKind.i64.wrap (IntKind.i64.wrap ((z : Int) * 167) + 2411)).tmod 10007).tmod 6)
      rw [show twoB (((IntKind.i64.wrap (IntKind.i64.wrap ((z : Int) * 167) + 2411)).tmod 10007).tmod 6) = true by rw [eK]; decide] at h2
      have hto : Fn G.P 66 [aI (((IntKind.i64.wrap (IntKind.i64.wrap ((z : Int) * 167) + 2411)).tmod 10007).tmod 6), aI (IntKind.i64.wrap (((IntKind.i64.wrap (IntKind.i64.wrap (((IntKind.i64.wrap (IntKind.i64.wrap ((z : Int) * 167) + 2411)).tmod 10007) * 167) + 2411)).tmod 10007).tmod 3 + 1)), .agg (dCut w h sq)] (.one (aI (tellI 1 ((nz (nz z) % 3 + 1 : Nat) : Int) w h sq))) := by
        rw [eK, eA]
        exact htold (k := 1) (a := ((nz (nz z) % 3 + 1 : Nat) : Int)) ⟨by omega, fun h => by omega, fun h => by omega⟩
      have hrow : ((mkN w h sq s (i + 1)).1).map r3 = (L ++ [(((IntKind.i64.wrap (IntKind.i64.wrap ((z : Int) * 167) + 2411)).tmod 10007).tmod 6, IntKind.i64.wrap (((IntKind.i64.wrap (IntKind.i64.wrap (((IntKind.i64.wrap (IntKind.i64.wrap ((z : Int) * 167) + 2411)).tmod 10007) * 167) + 2411)).tmod 10007).tmod 3 + 1), tellI 1 ((nz (nz z) % 3 + 1 : Nat) : Int) w h sq)]).map r3 := by rw [hnx1, hC, eK, eA]; rfl
      have hzz : (((mkN w h sq s (i + 1)).2 : Nat) : Int) = ((IntKind.i64.wrap (IntKind.i64.wrap (((IntKind.i64.wrap (IntKind.i64.wrap ((z : Int) * 167) + 2411)).tmod 10007) * 167) + 2411)).tmod 10007) := by rw [hnx2, hC, e2]
      repeat' first
        | exact True.intro
        | (refine draw_mkF ?_ ?_ ?_; (focus (decide +kernel)); (focus (kernel_rfl)); conv => whnf)
        | (refine Both.mk ?_ ?_ <;> conv => whnf)
        | (refine OwnQ.own ?_; conv => whnf)
        | (refine NilQ.mk (fun hnil => ?_) ?_ <;> conv => whnf)
        | (refine draw_mk (by kernel_rfl) ?_; conv => whnf)
        | (refine Br.mk (fun hb => (by exfalso; first | (simp [eK] at hb; done) | (simp [eK] at hb; omega))) (fun hb => ?_); clear hb; conv => whnf)
        | (refine Br.mk (fun hb => ?_) (fun hb => (by exfalso; first | (simp [eK] at hb; done) | (simp [eK] at hb; omega))); clear hb; conv => whnf)
        | (refine Br.mk (fun hb => ?_) (fun hb => ?_) <;> conv => whnf)
        | (refine call_body (G := G) Try.func64 rfl (by decide) (Nat.le_of_ble_eq_true rfl) ?_; conv => whnf)
        | (refine callP_text (call_body (G := G) Try.func64 rfl (by decide) (Nat.le_of_ble_eq_true rfl) ?_); conv => whnf)
        | (refine call_sn ?_ (h2) ?_; (focus ((repeat' first | exact snapRow | exact snap_row (by simp; done) | exact rfl | exact trivial | apply And.intro | omega | (simp; done)); done)); conv => whnf)
        | (refine callP_sn ?_ (h2) ?_; (focus ((repeat' first | exact snapRow | exact snap_row (by simp; done) | exact rfl | exact trivial | apply And.intro | omega | (simp; done)); done)); conv => whnf)
        | (refine call_sn ?_ (hto) ?_; (focus ((repeat' first | exact snapRow | exact snap_row (by simp; done) | exact rfl | exact trivial | apply And.intro | omega | (simp; done)); done)); conv => whnf)
        | (refine callP_sn ?_ (hto) ?_; (focus ((repeat' first | exact snapRow | exact snap_row (by simp; done) | exact rfl | exact trivial | apply And.intro | omega | (simp; done)); done)); conv => whnf)
        | (refine And.intro ?_ ?_; (focus (first | decide | omega | (simp [contentOK, objRd, objAt, peel, hl, List.length_map, List.length_set, List.length_replicate, hwm]; done) | (simp [contentOK, objRd, objAt, peel, hl, List.length_map, List.length_set, List.length_replicate, hwm]; omega) | (simp [contentOK, objRd, objAt, peel, hl, List.length_map, List.length_set, List.length_replicate, hwm] at *; omega))); conv => whnf)
      all_goals
        refine ⟨i + 1, by omega, by omega, ?_⟩
        rw [hwi, hrow, hzz, ← app_one (n := i) (z := [dI 0, dI 0, dI 0]) (((IntKind.i64.wrap (IntKind.i64.wrap ((z : Int) * 167) + 2411)).tmod 10007).tmod 6, IntKind.i64.wrap (((IntKind.i64.wrap (IntKind.i64.wrap (((IntKind.i64.wrap (IntKind.i64.wrap ((z : Int) * 167) + 2411)).tmod 10007) * 167) + 2411)).tmod 10007).tmod 3 + 1), tellI 1 ((nz (nz z) % 3 + 1 : Nat) : Int) w h sq) hl.symm rfl]
        exact weak_capver 4 1 0 rfl (by (repeat' first | exact rfl | exact trivial | apply And.intro | (simp [getE]; done))) rfl rfl (Nat.zero_le _) (Nat.zero_le _)
    by_cases c2 : nz z % 6 = 2
    ·
      rw [c2] at eK
      have hC : (mkC w h sq z) = ((2, ((nz (nz z) % (w * h) : Nat) : Int), tellI 2 ((nz (nz z) % (w * h) : Nat) : Int) w h sq), nz (nz z)) := by unfold mkC; rw [if_neg c1, if_pos c2]
      have eA : ((IntKind.i64.wrap (IntKind.i64.wrap (((IntKind.i64.wrap (IntKind.i64.wrap ((z : Int) * 167) + 2411)).tmod 10007) * 167) + 2411)).tmod 10007).tmod (IntKind.i64.wrap ((w : Int) * (h : Int))) = ((nz (nz z) % (w * h) : Nat) : Int) := by rw [e2, hwm]; exact mod_a2 _ _
      have h2 := hasTwo_ok (((IntKind.i64.wrap (IntKind.i64.wrap ((z : Int) * 167) + 2411)).tmod 10007).tmod 6)
      rw [show twoB (((IntKind.i64.wrap (IntKind.i64.wrap ((z : Int) * 167) + 2411)).tmod 10007).tmod 6) = true by rw [eK]; decide] at h2
      have hto : Fn G.P 66 [aI (((IntKind.i64.wrap (IntKind.i64.wrap ((z : Int) * 167) + 2411)).tmod 10007).tmod 6), aI (((IntKind.i64.wrap (IntKind.i64.wrap (((IntKind.i64.wrap (IntKind.i64.wrap ((z : Int) * 167) + 2411)).tmod 10007) * 167) + 2411)).tmod 10007).tmod (IntKind.i64.wrap ((w : Int) * (h : Int)))), .agg (dCut w h sq)] (.one (aI (tellI 2 ((nz (nz z) % (w * h) : Nat) : Int) w h sq))) := by
        rw [eK, eA]
        exact htold (k := 2) (a := ((nz (nz z) % (w * h) : Nat) : Int)) ⟨by omega, fun _ => ⟨by omega, by have := Nat.mod_lt (nz (nz z)) (show 0 < w * h by omega); omega⟩, fun h => by omega⟩
      have hrow : ((mkN w h sq s (i + 1)).1).map r3 = (L ++ [(((IntKind.i64.wrap (IntKind.i64.wrap ((z : Int) * 167) + 2411)).tmod 10007).tmod 6, ((IntKind.i64.wrap (IntKind.i64.wrap (((IntKind.i64.wrap (IntKind.i64.wrap ((z : Int) * 167) + 2411)).tmod 10007) * 167) + 2411)).tmod 10007).tmod (IntKind.i64.wrap ((w : Int) * (h : Int))), tellI 2 ((nz (nz z) % (w * h) : Nat) : Int) w h sq)]).map r3 := by rw [hnx1, hC, eK, eA]; rfl
      have hzz : (((mkN w h sq s (i + 1)).2 : Nat) : Int) = ((IntKind.i64.wrap (IntKind.i64.wrap (((IntKind.i64.wrap (IntKind.i64.wrap ((z : Int) * 167) + 2411)).tmod 10007) * 167) + 2411)).tmod 10007) := by rw [hnx2, hC, e2]
      have hwp : ((w * h : Nat) : Int) ≠ 0 := by omega
      repeat' first
        | (refine draw_mkW (by kernel_rfl) ?_; conv => whnf)
        | exact True.intro
        | (refine Both.mk ?_ ?_ <;> conv => whnf)
        | (refine OwnQ.own ?_; conv => whnf)
        | (refine NilQ.mk (fun hnil => ?_) ?_ <;> conv => whnf)
        | (refine Br.mk (fun hb => (by exfalso; first | (simp [eK] at hb; done) | (simp [eK] at hb; omega))) (fun hb => ?_); clear hb; conv => whnf)
        | (refine Br.mk (fun hb => ?_) (fun hb => (by exfalso; first | (simp [eK] at hb; done) | (simp [eK] at hb; omega))); clear hb; conv => whnf)
        | (refine Br.mk (fun hb => ?_) (fun hb => ?_) <;> conv => whnf)
        | (refine call_body (G := G) Try.func64 rfl (by decide) (Nat.le_of_ble_eq_true rfl) ?_; conv => whnf)
        | (refine callP_text (call_body (G := G) Try.func64 rfl (by decide) (Nat.le_of_ble_eq_true rfl) ?_); conv => whnf)
        | (refine call_sn ?_ (h2) ?_; (focus ((repeat' first | exact snapRow | exact snap_row (by simp; done) | exact rfl | exact trivial | apply And.intro | omega | (simp; done)); done)); conv => whnf)
        | (refine callP_sn ?_ (h2) ?_; (focus ((repeat' first | exact snapRow | exact snap_row (by simp; done) | exact rfl | exact trivial | apply And.intro | omega | (simp; done)); done)); conv => whnf)
        | (refine call_sn ?_ (hto) ?_; (focus ((repeat' first | exact snapRow | exact snap_row (by simp; done) | exact rfl | exact trivial | apply And.intro | omega | (simp; done)); done)); conv => whnf)
        | (refine callP_sn ?_ (hto) ?_; (focus ((repeat' first | exact snapRow | exact snap_row (by simp; done) | exact rfl | exact trivial | apply And.intro | omega | (simp; done)); done)); conv => whnf)
        | (refine And.intro ?_ ?_; (focus (first | decide | omega | (simp [contentOK, objRd, objAt, peel, hwp, hl, List.length_map, List.length_set, List.length_replicate, hwm]; done) | (simp [contentOK, objRd, objAt, peel, hwp, hl, List.length_map, List.length_set, List.length_replicate, hwm]; omega) | (simp [contentOK, objRd, objAt, peel, hwp, hl, List.length_map, List.length_set, List.length_replicate, hwm] at *; omega))); conv => whnf)
      all_goals
        refine ⟨i + 1, by omega, by omega, ?_⟩
        rw [hwi, hrow, hzz, ← app_one (n := i) (z := [dI 0, dI 0, dI 0]) (((IntKind.i64.wrap (IntKind.i64.wrap ((z : Int) * 167) + 2411)).tmod 10007).tmod 6, ((IntKind.i64.wrap (IntKind.i64.wrap (((IntKind.i64.wrap (IntKind.i64.wrap ((z : Int) * 167) + 2411)).tmod 10007) * 167) + 2411)).tmod 10007).tmod (IntKind.i64.wrap ((w : Int) * (h : Int))), tellI 2 ((nz (nz z) % (w * h) : Nat) : Int) w h sq) hl.symm rfl]
        exact weak_capver 4 1 0 rfl (by (repeat' first | exact rfl | exact trivial | apply And.intro | (simp [getE]; done))) rfl rfl (Nat.zero_le _) (Nat.zero_le _)
    by_cases c3 : nz z % 6 = 3
    ·
      rw [c3] at eK
      have hC : (mkC w h sq z) = ((3, ((nz (nz z) % 4 : Nat) : Int), tellI 3 ((nz (nz z) % 4 : Nat) : Int) w h sq), nz (nz z)) := by unfold mkC; rw [if_neg c1, if_neg c2, if_pos c3]
      have eA : ((IntKind.i64.wrap (IntKind.i64.wrap (((IntKind.i64.wrap (IntKind.i64.wrap ((z : Int) * 167) + 2411)).tmod 10007) * 167) + 2411)).tmod 10007).tmod 4 = ((nz (nz z) % 4 : Nat) : Int) := by rw [e2]; exact mod_a3 _
      have h2 := hasTwo_ok (((IntKind.i64.wrap (IntKind.i64.wrap ((z : Int) * 167) + 2411)).tmod 10007).tmod 6)
      rw [show twoB (((IntKind.i64.wrap (IntKind.i64.wrap ((z : Int) * 167) + 2411)).tmod 10007).tmod 6) = true by rw [eK]; decide] at h2
      have hto : Fn G.P 66 [aI (((IntKind.i64.wrap (IntKind.i64.wrap ((z : Int) * 167) + 2411)).tmod 10007).tmod 6), aI (((IntKind.i64.wrap (IntKind.i64.wrap (((IntKind.i64.wrap (IntKind.i64.wrap ((z : Int) * 167) + 2411)).tmod 10007) * 167) + 2411)).tmod 10007).tmod 4), .agg (dCut w h sq)] (.one (aI (tellI 3 ((nz (nz z) % 4 : Nat) : Int) w h sq))) := by
        rw [eK, eA]
        exact htold (k := 3) (a := ((nz (nz z) % 4 : Nat) : Int)) ⟨by omega, fun h => by omega, fun _ => by omega⟩
      have hrow : ((mkN w h sq s (i + 1)).1).map r3 = (L ++ [(((IntKind.i64.wrap (IntKind.i64.wrap ((z : Int) * 167) + 2411)).tmod 10007).tmod 6, ((IntKind.i64.wrap (IntKind.i64.wrap (((IntKind.i64.wrap (IntKind.i64.wrap ((z : Int) * 167) + 2411)).tmod 10007) * 167) + 2411)).tmod 10007).tmod 4, tellI 3 ((nz (nz z) % 4 : Nat) : Int) w h sq)]).map r3 := by rw [hnx1, hC, eK, eA]; rfl
      have hzz : (((mkN w h sq s (i + 1)).2 : Nat) : Int) = ((IntKind.i64.wrap (IntKind.i64.wrap (((IntKind.i64.wrap (IntKind.i64.wrap ((z : Int) * 167) + 2411)).tmod 10007) * 167) + 2411)).tmod 10007) := by rw [hnx2, hC, e2]
      repeat' first
        | exact True.intro
        | (refine draw_mkF ?_ ?_ ?_; (focus (decide +kernel)); (focus (kernel_rfl)); conv => whnf)
        | (refine Both.mk ?_ ?_ <;> conv => whnf)
        | (refine OwnQ.own ?_; conv => whnf)
        | (refine NilQ.mk (fun hnil => ?_) ?_ <;> conv => whnf)
        | (refine draw_mk (by kernel_rfl) ?_; conv => whnf)
        | (refine Br.mk (fun hb => (by exfalso; first | (simp [eK] at hb; done) | (simp [eK] at hb; omega))) (fun hb => ?_); clear hb; conv => whnf)
        | (refine Br.mk (fun hb => ?_) (fun hb => (by exfalso; first | (simp [eK] at hb; done) | (simp [eK] at hb; omega))); clear hb; conv => whnf)
        | (refine Br.mk (fun hb => ?_) (fun hb => ?_) <;> conv => whnf)
        | (refine call_body (G := G) Try.func64 rfl (by decide) (Nat.le_of_ble_eq_true rfl) ?_; conv => whnf)
        | (refine callP_text (call_body (G := G) Try.func64 rfl (by decide) (Nat.le_of_ble_eq_true rfl) ?_); conv => whnf)
        | (refine call_sn ?_ (h2) ?_; (focus ((repeat' first | exact snapRow | exact snap_row (by simp; done) | exact rfl | exact trivial | apply And.intro | omega | (simp; done)); done)); conv => whnf)
        | (refine callP_sn ?_ (h2) ?_; (focus ((repeat' first | exact snapRow | exact snap_row (by simp; done) | exact rfl | exact trivial | apply And.intro | omega | (simp; done)); done)); conv => whnf)
        | (refine call_sn ?_ (hto) ?_; (focus ((repeat' first | exact snapRow | exact snap_row (by simp; done) | exact rfl | exact trivial | apply And.intro | omega | (simp; done)); done)); conv => whnf)
        | (refine callP_sn ?_ (hto) ?_; (focus ((repeat' first | exact snapRow | exact snap_row (by simp; done) | exact rfl | exact trivial | apply And.intro | omega | (simp; done)); done)); conv => whnf)
        | (refine And.intro ?_ ?_; (focus (first | decide | omega | (simp [contentOK, objRd, objAt, peel, hl, List.length_map, List.length_set, List.length_replicate, hwm]; done) | (simp [contentOK, objRd, objAt, peel, hl, List.length_map, List.length_set, List.length_replicate, hwm]; omega) | (simp [contentOK, objRd, objAt, peel, hl, List.length_map, List.length_set, List.length_replicate, hwm] at *; omega))); conv => whnf)
      all_goals
        refine ⟨i + 1, by omega, by omega, ?_⟩
        rw [hwi, hrow, hzz, ← app_one (n := i) (z := [dI 0, dI 0, dI 0]) (((IntKind.i64.wrap (IntKind.i64.wrap ((z : Int) * 167) + 2411)).tmod 10007).tmod 6, ((IntKind.i64.wrap (IntKind.i64.wrap (((IntKind.i64.wrap (IntKind.i64.wrap ((z : Int) * 167) + 2411)).tmod 10007) * 167) + 2411)).tmod 10007).tmod 4, tellI 3 ((nz (nz z) % 4 : Nat) : Int) w h sq) hl.symm rfl]
        exact weak_capver 4 1 0 rfl (by (repeat' first | exact rfl | exact trivial | apply And.intro | (simp [getE]; done))) rfl rfl (Nat.zero_le _) (Nat.zero_le _)
    have hC : (mkC w h sq z) = ((((nz z % 6 : Nat) : Int), tellI (nz z % 6 : Nat) 0 w h sq, 0), nz z) := by unfold mkC; rw [if_neg c1, if_neg c2, if_neg c3]
    have h2 := hasTwo_ok (((IntKind.i64.wrap (IntKind.i64.wrap ((z : Int) * 167) + 2411)).tmod 10007).tmod 6)
    rw [show twoB (((IntKind.i64.wrap (IntKind.i64.wrap ((z : Int) * 167) + 2411)).tmod 10007).tmod 6) = false by rw [eK]; simp only [twoB, inB, decide_eq_false_iff_not]; omega] at h2
    have hto : Fn G.P 66 [aI (((IntKind.i64.wrap (IntKind.i64.wrap ((z : Int) * 167) + 2411)).tmod 10007).tmod 6), aI 0, .agg (dCut w h sq)] (.one (aI (tellI (nz z % 6 : Nat) 0 w h sq))) := by
      rw [eK]
      exact htold ⟨by omega, fun g => by omega, fun g => by omega⟩
    have hrow : ((mkN w h sq s (i + 1)).1).map r3 = (L ++ [(((IntKind.i64.wrap (IntKind.i64.wrap ((z : Int) * 167) + 2411)).tmod 10007).tmod 6, tellI (nz z % 6 : Nat) 0 w h sq, 0)]).map r3 := by rw [hnx1, hC, eK]
    have hzz : (((mkN w h sq s (i + 1)).2 : Nat) : Int) = ((IntKind.i64.wrap (IntKind.i64.wrap ((z : Int) * 167) + 2411)).tmod 10007) := by rw [hnx2, hC, e1]
    repeat' first
      | exact True.intro
      | (refine draw_mkF ?_ ?_ ?_; (focus (decide +kernel)); (focus (kernel_rfl)); conv => whnf)
      | (refine Both.mk ?_ ?_ <;> conv => whnf)
      | (refine OwnQ.own ?_; conv => whnf)
      | (refine NilQ.mk (fun hnil => ?_) ?_ <;> conv => whnf)
      | (refine draw_mk (by kernel_rfl) ?_; conv => whnf)
      | (refine Br.mk (fun hb => (by exfalso; first | (simp [eK] at hb; done) | (simp [eK] at hb; omega))) (fun hb => ?_); clear hb; conv => whnf)
      | (refine Br.mk (fun hb => ?_) (fun hb => (by exfalso; first | (simp [eK] at hb; done) | (simp [eK] at hb; omega))); clear hb; conv => whnf)
      | (refine Br.mk (fun hb => ?_) (fun hb => ?_) <;> conv => whnf)
      | (refine call_body (G := G) Try.func64 rfl (by decide) (Nat.le_of_ble_eq_true rfl) ?_; conv => whnf)
      | (refine callP_text (call_body (G := G) Try.func64 rfl (by decide) (Nat.le_of_ble_eq_true rfl) ?_); conv => whnf)
      | (refine call_sn ?_ (h2) ?_; (focus ((repeat' first | exact snapRow | exact snap_row (by simp; done) | exact rfl | exact trivial | apply And.intro | omega | (simp; done)); done)); conv => whnf)
      | (refine callP_sn ?_ (h2) ?_; (focus ((repeat' first | exact snapRow | exact snap_row (by simp; done) | exact rfl | exact trivial | apply And.intro | omega | (simp; done)); done)); conv => whnf)
      | (refine call_sn ?_ (hto) ?_; (focus ((repeat' first | exact snapRow | exact snap_row (by simp; done) | exact rfl | exact trivial | apply And.intro | omega | (simp; done)); done)); conv => whnf)
      | (refine callP_sn ?_ (hto) ?_; (focus ((repeat' first | exact snapRow | exact snap_row (by simp; done) | exact rfl | exact trivial | apply And.intro | omega | (simp; done)); done)); conv => whnf)
      | (refine And.intro ?_ ?_; (focus (first | decide | omega | (simp [contentOK, objRd, objAt, peel, hl, List.length_map, List.length_set, List.length_replicate, hwm]; done) | (simp [contentOK, objRd, objAt, peel, hl, List.length_map, List.length_set, List.length_replicate, hwm]; omega) | (simp [contentOK, objRd, objAt, peel, hl, List.length_map, List.length_set, List.length_replicate, hwm] at *; omega))); conv => whnf)
    all_goals
      refine ⟨i + 1, by omega, by omega, ?_⟩
      rw [hwi, hrow, hzz, ← app_one (n := i) (z := [dI 0, dI 0, dI 0]) (((IntKind.i64.wrap (IntKind.i64.wrap ((z : Int) * 167) + 2411)).tmod 10007).tmod 6, tellI (nz z % 6 : Nat) 0 w h sq, 0) hl.symm rfl]
      exact weak_capver 4 1 0 rfl (by (repeat' first | exact rfl | exact trivial | apply And.intro | (simp [getE]; done))) rfl rfl (Nat.zero_le _) (Nat.zero_le _)
  · have hie : i = n := by simp at hb; omega
    subst hie
    rw [hZ]
    exact ⟨⟨⟨rfl, rfl, res_cell (by simp [objAt]) (by rw [List.length_map]; exact hl.symm) r3_flat, trivial⟩, rfl, trivial⟩, by simp [refVs, refCs, refCV]⟩

end Go.Proofs.Ytmfdkjjhdjkgpaa

namespace Go.Proofs.Ytmfdkjjhdjkgpaa
open Go Go.RowKit
set_option maxRecDepth 10000
set_option maxHeartbeats 2000000
set_option linter.unusedSimpArgs false

theorem pzOf_ok {w h : Nat} {sq : List (Int × Int × Int)} {k a : Int} (hg : goodCutB w h sq = true) (hk0 : 0 ≤ k) (hk : tellOK k (if twoB k then a else 0) w h) :
    Fn G.P 62 [aI k, aI a, .agg (dCut w h sq)] (.one (.agg (dClue k (if twoB k then a else tellI k 0 w h sq) (if twoB k then tellI k a w h sq else 0)))) := by
  have h2 := pzAlone_ok k hk0
  have hto := pzValue_ok hg hk
  cases hb2 : twoB k
  all_goals
    rw [hb2] at hto h2
    simp only [if_true, if_false, reduceIte, Bool.false_eq_true, Bool.not_true, Bool.not_false] at hto h2 ⊢
    refine fn_of_body (G := G) Try.func62 rfl (by decide) (Nat.le_of_ble_eq_true rfl) ?_
    conv => whnf
    repeat' first
      | exact True.intro
      | (refine draw_mkF ?_ ?_ ?_; (focus (decide +kernel)); (focus (kernel_rfl)); conv => whnf)
      | (refine Both.mk ?_ ?_ <;> conv => whnf)
      | (refine OwnQ.own ?_; conv => whnf)
      | (refine NilQ.mk (fun hnil => ?_) ?_ <;> conv => whnf)
      | (refine draw_mk (by kernel_rfl) ?_; conv => whnf)
      | (refine Br.mk (fun hb => ?_) (fun hb => ?_) <;> conv => whnf)
      | (refine call_sn ?_ (h2) ?_; (focus ((repeat' first | exact snapRow | exact snap_row (by simp; done) | exact rfl | exact trivial | apply And.intro | omega | (simp; done)); done)); conv => whnf)
      | (refine callP_sn ?_ (h2) ?_; (focus ((repeat' first | exact snapRow | exact snap_row (by simp; done) | exact rfl | exact trivial | apply And.intro | omega | (simp; done)); done)); conv => whnf)
      | (refine call_sn ?_ (hto) ?_; (focus ((repeat' first | exact snapRow | exact snap_row (by simp; done) | exact rfl | exact trivial | apply And.intro | omega | (simp; done)); done)); conv => whnf)
      | (refine callP_sn ?_ (hto) ?_; (focus ((repeat' first | exact snapRow | exact snap_row (by simp; done) | exact rfl | exact trivial | apply And.intro | omega | (simp; done)); done)); conv => whnf)
      | (refine And.intro ?_ ?_; (focus (first | decide | omega | (simp at *; omega) | (simp_all; done))); conv => whnf)
    all_goals exact ⟨⟨⟨rfl, rfl, rfl, trivial⟩, trivial⟩, by simp [refVs, refCs, refCV]⟩

theorem specMake_yes {w h : Nat} {sq : List (Int × Int × Int)} {n s : Nat} (hg : goodCutB w h sq = true) (hi : hiddenB w h = true) (hn : n ≤ 6) (hs : s ≤ 9999) :
    Fn G.P 22 [.agg (dCut w h sq), aI n, aI s] (.tup [.agg (dPuzzle w h (mkN w h sq s n).1), aB true]) := by
  obtain ⟨⟨g1, g2⟩, ⟨g3, g4⟩, ⟨g5, g6⟩, _⟩ := good_chk hg
  have hh := pzHidden_ok w h sq (by omega)
  rw [hg, hi] at hh
  have hn1 := l1In_ok n 0 6
  rw [show inB (n : Int) 0 6 = true by simp only [inB, decide_eq_true_eq]; omega] at hn1
  have hs1 := l1In_ok s 0 9999
  rw [show inB (s : Int) 0 9999 = true by simp only [inB, decide_eq_true_eq]; omega] at hs1
  have hwh : 1 ≤ w * h ∧ w * h ≤ 12 := by
    have hx : (w : Int) * (h : Int) ≤ 12 := by simp only [hiddenB, Bool.and_eq_true, decide_eq_true_eq] at hi; exact hi.2
    have hy : (w : Int) * (h : Int) = ((w * h : Nat) : Int) := (Int.natCast_mul w h).symm
    have : 1 * 1 ≤ w * h := Nat.mul_le_mul (by omega) (by omega)
    omega
  have hwm : IntKind.i64.wrap ((w : Int) * (h : Int)) = ((w * h : Nat) : Int) := by rw [← Int.natCast_mul, wrap_i64 _ (by omega) (by omega)]
  refine fn_of_body (G := G) Try.func22 rfl (by decide) (Nat.le_of_ble_eq_true rfl) ?_
  conv => whnf
  repeat' first
    | exact True.intro
    | (refine draw_mkF ?_ ?_ ?_; (focus (decide +kernel)); (focus (kernel_rfl)); conv => whnf)
    | (refine Both.mk ?_ ?_ <;> conv => whnf)
    | (refine OwnQ.own ?_; conv => whnf)
    | (refine NilQ.mk (fun hnil => ?_) ?_ <;> conv => whnf)
    | (refine draw_mk (by kernel_rfl) ?_; conv => whnf)
    | (refine Br.mk (fun hb => (by exfalso; first | (simp [not_true_eq_false] at hb; done) | (simp [not_true_eq_false] at hb; omega))) (fun hb => ?_); clear hb; conv => whnf)
    | (refine Br.mk (fun hb => ?_) (fun hb => (by exfalso; first | (simp [not_true_eq_false] at hb; done) | (simp [not_true_eq_false] at hb; omega))); clear hb; conv => whnf)
    | (refine Br.mk (fun hb => ?_) (fun hb => ?_) <;> conv => whnf)
    | (refine call_sn ?_ (hh) ?_; (focus ((repeat' first | exact snapRow | exact snap_row (by simp; done) | exact rfl | exact trivial | apply And.intro | omega | (simp; done)); done)); conv => whnf)
    | (refine callP_sn ?_ (hh) ?_; (focus ((repeat' first | exact snapRow | exact snap_row (by simp; done) | exact rfl | exact trivial | apply And.intro | omega | (simp; done)); done)); conv => whnf)
    | (refine call_sn ?_ (hn1) ?_; (focus ((repeat' first | exact snapRow | exact snap_row (by simp; done) | exact rfl | exact trivial | apply And.intro | omega | (simp; done)); done)); conv => whnf)
    | (refine callP_sn ?_ (hn1) ?_; (focus ((repeat' first | exact snapRow | exact snap_row (by simp; done) | exact rfl | exact trivial | apply And.intro | omega | (simp; done)); done)); conv => whnf)
    | (refine call_sn ?_ (hs1) ?_; (focus ((repeat' first | exact snapRow | exact snap_row (by simp; done) | exact rfl | exact trivial | apply And.intro | omega | (simp; done)); done)); conv => whnf)
    | (refine callP_sn ?_ (hs1) ?_; (focus ((repeat' first | exact snapRow | exact snap_row (by simp; done) | exact rfl | exact trivial | apply And.intro | omega | (simp; done)); done)); conv => whnf)
    | (refine And.intro ?_ ?_; (focus (first | decide | omega | (simp at *; omega) | (simp_all; done))); conv => whnf)
  refine .inl ⟨Nat, fun i => n - i, fun i => i ≤ n, fun i => ⟨[(1, .one (.c (vI (n - i : Nat)))), (3, .one (.c (.ptr 0 0 0))), (6, .one (.c (.ptr 1 0 0))), (7, .one (.c (vB false))), (8, .one (.c (.ptr 2 0 0))), (9, .one (.c (vI (mkN w h sq s i).2)))],
    [(0, .box [.d (dI w), .d (dI h), .d (.list 3 (sq.map r3))]), (0, .box [.d (dI 0), .d (dI 0), .nilsl]), (0, .box [.d (dI w), .d (dI h), .sl 3 0 3 0 i none]), (0, .arr 3 ((mkN w h sq s i).1.map r3))], _⟩, 0, Nat.zero_le _,
      weak_cap.trans (weak_nilof (t := [(0, .box [.d (dI w), .d (dI h), .d (.list 3 (sq.map r3))]), (0, .box [.d (dI 0), .d (dI 0), .nilsl]), (0, .box [.d (dI w), .d (dI h), .sl 3 0 3 0 0 none])]) 3 3 rfl ?_ rfl rfl rfl (Nat.zero_le _) (Nat.zero_le _)), fun i hin => ?_⟩
  · (repeat' first | exact rfl | exact trivial | apply And.intro | (simp [getE]; done))
  replace hin : i ≤ n := hin
  dsimp only
  have hz := mkN_le w h sq (z := s) (by omega) i
  have hl := mkN_len w h sq s i
  have hnx1 : (mkN w h sq s (i + 1)).1 = (mkN w h sq s i).1 ++ [(mkC w h sq (mkN w h sq s i).2).1] := rfl
  have hnx2 : (mkN w h sq s (i + 1)).2 = (mkC w h sq (mkN w h sq s i).2).2 := rfl
  generalize hZ : mkN w h sq s i = Z at hz hl hnx1 hnx2
  obtain ⟨L, z⟩ := Z
  dsimp only at hz hl hnx1 hnx2 ⊢
  have hn1 := nz_le z
  have hn2 := nz_le (nz z)
  have eK : ((nz z : Nat) : Int).tmod 6 = ((nz z % 6 : Nat) : Int) := by rw [Int.tmod_eq_emod_of_nonneg (by omega)]; omega
  conv => whnf
  refine Br.mk (fun hb => ?_) (fun hb => ?_) <;> conv => whnf
  · have hlt : i < n := by simp at hb; omega
    have hwi : IntKind.i64.wrap (((n - i : Nat) : Int) - 1) = ((n - (i + 1) : Nat) : Int) := by rw [wrap_i64 _ (by omega) (by omega)]; omega
    clear hb
    have hk6 : nz z % 6 < 6 := Nat.mod_lt _ (by omega)
    have h2 := pzAlone_ok (((nz z : Nat) : Int).tmod 6) (by omega)
    by_cases c1 : nz z % 6 = 1
    ·
      rw [c1] at eK
      have hC : (mkC w h sq z) = ((1, ((nz (nz z) % 3 + 1 : Nat) : Int), tellI 1 ((nz (nz z) % 3 + 1 : Nat) : Int) w h sq), nz (nz z)) := by unfold mkC; rw [if_pos c1]
      have eA : IntKind.i64.wrap (((nz (nz z) : Nat) : Int).tmod 3 + 1) = ((nz (nz z) % 3 + 1 : Nat) : Int) := mod_a1 _ hn2
      rw [show twoB (((nz z : Nat) : Int).tmod 6) = true by rw [eK]; decide] at h2
      have hto : Fn G.P 62 [aI (((nz z : Nat) : Int).tmod 6), aI (IntKind.i64.wrap (((nz (nz z) : Nat) : Int).tmod 3 + 1)), .agg (dCut w h sq)] (.one (.agg (dClue (((nz z : Nat) : Int).tmod 6) (IntKind.i64.wrap (((nz (nz z) : Nat) : Int).tmod 3 + 1)) (tellI 1 ((nz (nz z) % 3 + 1 : Nat) : Int) w h sq)))) := by
        rw [eK, eA]
        exact pzOf_ok (k := 1) (a := ((nz (nz z) % 3 + 1 : Nat) : Int)) hg (by omega) ⟨by omega, fun h => by omega, fun h => by omega⟩
      have hrow : ((mkN w h sq s (i + 1)).1).map r3 = (L ++ [(((nz z : Nat) : Int).tmod 6, IntKind.i64.wrap (((nz (nz z) : Nat) : Int).tmod 3 + 1), tellI 1 ((nz (nz z) % 3 + 1 : Nat) : Int) w h sq)]).map r3 := by rw [hnx1, hC, eK, eA]; rfl
      have hzz : (((mkN w h sq s (i + 1)).2 : Nat) : Int) = ((nz (nz z) : Nat) : Int) := by rw [hnx2, hC]
      have hwp : ((w * h : Nat) : Int) ≠ 0 := by omega
      repeat' first
        | (refine draw_mkW (by kernel_rfl) ?_; conv => whnf)
        | exact True.intro
        | (refine Both.mk ?_ ?_ <;> conv => whnf)
        | (refine OwnQ.own ?_; conv => whnf)
        | (refine NilQ.mk (fun hnil => ?_) ?_ <;> conv => whnf)
        | (refine Br.mk (fun hb => (by exfalso; first | (simp [eK] at hb; done) | (simp [eK] at hb; omega))) (fun hb => ?_); clear hb; conv => whnf)
        | (refine Br.mk (fun hb => ?_) (fun hb => (by exfalso; first | (simp [eK] at hb; done) | (simp [eK] at hb; omega))); clear hb; conv => whnf)
        | (refine Br.mk (fun hb => ?_) (fun hb => ?_) <;> conv => whnf)
        | (refine call_sn ?_ (pzNext_ok ?_ ?_) ?_; (focus ((repeat' first | exact snapRow | exact snap_row (by simp; done) | exact rfl | exact trivial | apply And.intro | omega | (simp; done)); done)); assumption; conv => whnf)
        | (refine callP_sn ?_ (pzNext_ok ?_ ?_) ?_; (focus ((repeat' first | exact snapRow | exact snap_row (by simp; done) | exact rfl | exact trivial | apply And.intro | omega | (simp; done)); done)); assumption; conv => whnf)
        | (refine call_sn ?_ (h2) ?_; (focus ((repeat' first | exact snapRow | exact snap_row (by simp; done) | exact rfl | exact trivial | apply And.intro | omega | (simp; done)); done)); conv => whnf)
        | (refine callP_sn ?_ (h2) ?_; (focus ((repeat' first | exact snapRow | exact snap_row (by simp; done) | exact rfl | exact trivial | apply And.intro | omega | (simp; done)); done)); conv => whnf)
        | (refine call_sn ?_ (hto) ?_; (focus ((repeat' first | exact snapRow | exact snap_row (by simp; done) | exact rfl | exact trivial | apply And.intro | omega | (simp; done)); done)); conv => whnf)
        | (refine callP_sn ?_ (hto) ?_; (focus ((repeat' first | exact snapRow | exact snap_row (by simp; done) | exact rfl | exact trivial | apply And.intro | omega | (simp; done)); done)); conv => whnf)
        | (refine And.intro ?_ ?_; (focus (first | decide | omega | (simp [contentOK, objRd, objAt, peel, hwp, hl, List.length_map, List.length_set, List.length_replicate, hwm]; done) | (simp [contentOK, objRd, objAt, peel, hwp, hl, List.length_map, List.length_set, List.length_replicate, hwm]; omega) | (simp [contentOK, objRd, objAt, peel, hwp, hl, List.length_map, List.length_set, List.length_replicate, hwm] at *; omega))); conv => whnf)
      all_goals
        refine ⟨i + 1, by omega, by omega, ?_⟩
        rw [hwi, hrow, hzz, ← app_one (n := i) (z := [dI 0, dI 0, dI 0]) (((nz z : Nat) : Int).tmod 6, IntKind.i64.wrap (((nz (nz z) : Nat) : Int).tmod 3 + 1), tellI 1 ((nz (nz z) % 3 + 1 : Nat) : Int) w h sq) hl.symm rfl]
        exact weak_capver 3 1 0 rfl (by (repeat' first | exact rfl | exact trivial | apply And.intro | (simp [getE]; done))) rfl rfl (Nat.zero_le _) (Nat.zero_le _)
    by_cases c2 : nz z % 6 = 2
    ·
      rw [c2] at eK
      have hC : (mkC w h sq z) = ((2, ((nz (nz z) % (w * h) : Nat) : Int), tellI 2 ((nz (nz z) % (w * h) : Nat) : Int) w h sq), nz (nz z)) := by unfold mkC; rw [if_neg c1, if_pos c2]
      have eA : ((nz (nz z) : Nat) : Int).tmod (IntKind.i64.wrap ((w : Int) * (h : Int))) = ((nz (nz z) % (w * h) : Nat) : Int) := by rw [hwm]; exact mod_a2 _ _
      rw [show twoB (((nz z : Nat) : Int).tmod 6) = true by rw [eK]; decide] at h2
      have hto : Fn G.P 62 [aI (((nz z : Nat) : Int).tmod 6), aI (((nz (nz z) : Nat) : Int).tmod (IntKind.i64.wrap ((w : Int) * (h : Int)))), .agg (dCut w h sq)] (.one (.agg (dClue (((nz z : Nat) : Int).tmod 6) (((nz (nz z) : Nat) : Int).tmod (IntKind.i64.wrap ((w : Int) * (h : Int)))) (tellI 2 ((nz (nz z) % (w * h) : Nat) : Int) w h sq)))) := by
        rw [eK, eA]
        exact pzOf_ok (k := 2) (a := ((nz (nz z) % (w * h) : Nat) : Int)) hg (by omega) ⟨by omega, fun _ => ⟨by omega, by have := Nat.mod_lt (nz (nz z)) (show 0 < w * h by omega); omega⟩, fun h => by omega⟩
      have hrow : ((mkN w h sq s (i + 1)).1).map r3 = (L ++ [(((nz z : Nat) : Int).tmod 6, ((nz (nz z) : Nat) : Int).tmod (IntKind.i64.wrap ((w : Int) * (h : Int))), tellI 2 ((nz (nz z) % (w * h) : Nat) : Int) w h sq)]).map r3 := by rw [hnx1, hC, eK, eA]; rfl
      have hzz : (((mkN w h sq s (i + 1)).2 : Nat) : Int) = ((nz (nz z) : Nat) : Int) := by rw [hnx2, hC]
      have hwp : ((w * h : Nat) : Int) ≠ 0 := by omega
      repeat' first
        | (refine draw_mkW (by kernel_rfl) ?_; conv => whnf)
        | exact True.intro
        | (refine Both.mk ?_ ?_ <;> conv => whnf)
        | (refine OwnQ.own ?_; conv => whnf)
        | (refine NilQ.mk (fun hnil => ?_) ?_ <;> conv => whnf)
        | (refine Br.mk (fun hb => (by exfalso; first | (simp [eK] at hb; done) | (simp [eK] at hb; omega))) (fun hb => ?_); clear hb; conv => whnf)
        | (refine Br.mk (fun hb => ?_) (fun hb => (by exfalso; first | (simp [eK] at hb; done) | (simp [eK] at hb; omega))); clear hb; conv => whnf)
        | (refine Br.mk (fun hb => ?_) (fun hb => ?_) <;> conv => whnf)
        | (refine call_sn ?_ (pzNext_ok ?_ ?_) ?_; (focus ((repeat' first | exact snapRow | exact snap_row (by simp; done) | exact rfl | exact trivial | apply And.intro | omega | (simp; done)); done)); assumption; conv => whnf)
        | (refine callP_sn ?_ (pzNext_ok ?_ ?_) ?_; (focus ((repeat' first | exact snapRow | exact snap_row (by simp; done) | exact rfl | exact trivial | apply And.intro | omega | (simp; done)); done)); assumption; conv => whnf)
        | (refine call_sn ?_ (h2) ?_; (focus ((repeat' first | exact snapRow | exact snap_row (by simp; done) | exact rfl | exact trivial | apply And.intro | omega | (simp; done)); done)); conv => whnf)
        | (refine callP_sn ?_ (h2) ?_; (focus ((repeat' first | exact snapRow | exact snap_row (by simp; done) | exact rfl | exact trivial | apply And.intro | omega | (simp; done)); done)); conv => whnf)
        | (refine call_sn ?_ (hto) ?_; (focus ((repeat' first | exact snapRow | exact snap_row (by simp; done) | exact rfl | exact trivial | apply And.intro | omega | (simp; done)); done)); conv => whnf)
        | (refine callP_sn ?_ (hto) ?_; (focus ((repeat' first | exact snapRow | exact snap_row (by simp; done) | exact rfl | exact trivial | apply And.intro | omega | (simp; done)); done)); conv => whnf)
        | (refine And.intro ?_ ?_; (focus (first | decide | omega | (simp [contentOK, objRd, objAt, peel, hwp, hl, List.length_map, List.length_set, List.length_replicate, hwm]; done) | (simp [contentOK, objRd, objAt, peel, hwp, hl, List.length_map, List.length_set, List.length_replicate, hwm]; omega) | (simp [contentOK, objRd, objAt, peel, hwp, hl, List.length_map, List.length_set, List.length_replicate, hwm] at *; omega))); conv => whnf)
      all_goals
        refine ⟨i + 1, by omega, by omega, ?_⟩
        rw [hwi, hrow, hzz, ← app_one (n := i) (z := [dI 0, dI 0, dI 0]) (((nz z : Nat) : Int).tmod 6, ((nz (nz z) : Nat) : Int).tmod (IntKind.i64.wrap ((w : Int) * (h : Int))), tellI 2 ((nz (nz z) % (w * h) : Nat) : Int) w h sq) hl.symm rfl]
        exact weak_capver 3 1 0 rfl (by (repeat' first | exact rfl | exact trivial | apply And.intro | (simp [getE]; done))) rfl rfl (Nat.zero_le _) (Nat.zero_le _)
    by_cases c3 : nz z % 6 = 3
    ·
      rw [c3] at eK
      have hC : (mkC w h sq z) = ((3, ((nz (nz z) % 4 : Nat) : Int), tellI 3 ((nz (nz z) % 4 : Nat) : Int) w h sq), nz (nz z)) := by unfold mkC; rw [if_neg c1, if_neg c2, if_pos c3]
      have eA : ((nz (nz z) : Nat) : Int).tmod 4 = ((nz (nz z) % 4 : Nat) : Int) := mod_a3 _
      rw [show twoB (((nz z : Nat) : Int).tmod 6) = true by rw [eK]; decide] at h2
      have hto : Fn G.P 62 [aI (((nz z : Nat) : Int).tmod 6), aI (((nz (nz z) : Nat) : Int).tmod 4), .agg (dCut w h sq)] (.one (.agg (dClue (((nz z : Nat) : Int).tmod 6) (((nz (nz z) : Nat) : Int).tmod 4) (tellI 3 ((nz (nz z) % 4 : Nat) : Int) w h sq)))) := by
        rw [eK, eA]
        exact pzOf_ok (k := 3) (a := ((nz (nz z) % 4 : Nat) : Int)) hg (by omega) ⟨by omega, fun h => by omega, fun _ => by omega⟩
      have hrow : ((mkN w h sq s (i + 1)).1).map r3 = (L ++ [(((nz z : Nat) : Int).tmod 6, ((nz (nz z) : Nat) : Int).tmod 4, tellI 3 ((nz (nz z) % 4 : Nat) : Int) w h sq)]).map r3 := by rw [hnx1, hC, eK, eA]; rfl
      have hzz : (((mkN w h sq s (i + 1)).2 : Nat) : Int) = ((nz (nz z) : Nat) : Int) := by rw [hnx2, hC]
      have hwp : ((w * h : Nat) : Int) ≠ 0 := by omega
      repeat' first
        | (refine draw_mkW (by kernel_rfl) ?_; conv => whnf)
        | exact True.intro
        | (refine Both.mk ?_ ?_ <;> conv => whnf)
        | (refine OwnQ.own ?_; conv => whnf)
        | (refine NilQ.mk (fun hnil => ?_) ?_ <;> conv => whnf)
        | (refine Br.mk (fun hb => (by exfalso; first | (simp [eK] at hb; done) | (simp [eK] at hb; omega))) (fun hb => ?_); clear hb; conv => whnf)
        | (refine Br.mk (fun hb => ?_) (fun hb => (by exfalso; first | (simp [eK] at hb; done) | (simp [eK] at hb; omega))); clear hb; conv => whnf)
        | (refine Br.mk (fun hb => ?_) (fun hb => ?_) <;> conv => whnf)
        | (refine call_sn ?_ (pzNext_ok ?_ ?_) ?_; (focus ((repeat' first | exact snapRow | exact snap_row (by simp; done) | exact rfl | exact trivial | apply And.intro | omega | (simp; done)); done)); assumption; conv => whnf)
        | (refine callP_sn ?_ (pzNext_ok ?_ ?_) ?_; (focus ((repeat' first | exact snapRow | exact snap_row (by simp; done) | exact rfl | exact trivial | apply And.intro | omega | (simp; done)); done)); assumption; conv => whnf)
        | (refine call_sn ?_ (h2) ?_; (focus ((repeat' first | exact snapRow | exact snap_row (by simp; done) | exact rfl | exact trivial | apply And.intro | omega | (simp; done)); done)); conv => whnf)
        | (refine callP_sn ?_ (h2) ?_; (focus ((repeat' first | exact snapRow | exact snap_row (by simp; done) | exact rfl | exact trivial | apply And.intro | omega | (simp; done)); done)); conv => whnf)
        | (refine call_sn ?_ (hto) ?_; (focus ((repeat' first | exact snapRow | exact snap_row (by simp; done) | exact rfl | exact trivial | apply And.intro | omega | (simp; done)); done)); conv => whnf)
        | (refine callP_sn ?_ (hto) ?_; (focus ((repeat' first | exact snapRow | exact snap_row (by simp; done) | exact rfl | exact trivial | apply And.intro | omega | (simp; done)); done)); conv => whnf)
        | (refine And.intro ?_ ?_; (focus (first | decide | omega | (simp [contentOK, objRd, objAt, peel, hwp, hl, List.length_map, List.length_set, List.length_replicate, hwm]; done) | (simp [contentOK, objRd, objAt, peel, hwp, hl, List.length_map, List.length_set, List.length_replicate, hwm]; omega) | (simp [contentOK, objRd, objAt, peel, hwp, hl, List.length_map, List.length_set, List.length_replicate, hwm] at *; omega))); conv => whnf)
      all_goals
        refine ⟨i + 1, by omega, by omega, ?_⟩
        rw [hwi, hrow, hzz, ← app_one (n := i) (z := [dI 0, dI 0, dI 0]) (((nz z : Nat) : Int).tmod 6, ((nz (nz z) : Nat) : Int).tmod 4, tellI 3 ((nz (nz z) % 4 : Nat) : Int) w h sq) hl.symm rfl]
        exact weak_capver 3 1 0 rfl (by (repeat' first | exact rfl | exact trivial | apply And.intro | (simp [getE]; done))) rfl rfl (Nat.zero_le _) (Nat.zero_le _)
    have hC : (mkC w h sq z) = ((((nz z % 6 : Nat) : Int), tellI (nz z % 6 : Nat) 0 w h sq, 0), nz z) := by unfold mkC; rw [if_neg c1, if_neg c2, if_neg c3]
    have ht2 : twoB (((nz z : Nat) : Int).tmod 6) = false := by rw [eK]; simp only [twoB, inB, decide_eq_false_iff_not]; omega
    have ht3 : twoB ((nz z % 6 : Nat) : Int) = false := by rw [← eK]; exact ht2
    rw [ht2] at h2
    have hto : Fn G.P 62 [aI (((nz z : Nat) : Int).tmod 6), aI 0, .agg (dCut w h sq)] (.one (.agg (dClue (((nz z : Nat) : Int).tmod 6) (tellI (nz z % 6 : Nat) 0 w h sq) 0))) := by
      rw [eK]
      have := pzOf_ok (k := ((nz z % 6 : Nat) : Int)) (a := 0) hg (by omega) (by rw [ht3]; exact ⟨by omega, fun g => by omega, fun g => by omega⟩)
      rw [ht3] at this
      exact this
    have hrow : ((mkN w h sq s (i + 1)).1).map r3 = (L ++ [(((nz z : Nat) : Int).tmod 6, tellI (nz z % 6 : Nat) 0 w h sq, 0)]).map r3 := by rw [hnx1, hC, eK]
    have hzz : (((mkN w h sq s (i + 1)).2 : Nat) : Int) = ((nz z : Nat) : Int) := by rw [hnx2, hC]
    repeat' first
      | (refine draw_mkW (by kernel_rfl) ?_; conv => whnf)
      | exact True.intro
      | (refine Both.mk ?_ ?_ <;> conv => whnf)
      | (refine OwnQ.own ?_; conv => whnf)
      | (refine NilQ.mk (fun hnil => ?_) ?_ <;> conv => whnf)
      | (refine Br.mk (fun hb => (by exfalso; first | (simp [eK] at hb; done) | (simp [eK] at hb; omega))) (fun hb => ?_); clear hb; conv => whnf)
      | (refine Br.mk (fun hb => ?_) (fun hb => (by exfalso; first | (simp [eK] at hb; done) | (simp [eK] at hb; omega))); clear hb; conv => whnf)
      | (refine Br.mk (fun hb => ?_) (fun hb => ?_) <;> conv => whnf)
      | (refine call_sn ?_ (pzNext_ok ?_ ?_) ?_; (focus ((repeat' first | exact snapRow | exact snap_row (by simp; done) | exact rfl | exact trivial | apply And.intro | omega | (simp; done)); done)); assumption; conv => whnf)
      | (refine callP_sn ?_ (pzNext_ok ?_ ?_) ?_; (focus ((repeat' first | exact snapRow | exact snap_row (by simp; done) | exact rfl | exact trivial | apply And.intro | omega | (simp; done)); done)); assumption; conv => whnf)
      | (refine call_sn ?_ (h2) ?_; (focus ((repeat' first | exact snapRow | exact snap_row (by simp; done) | exact rfl | exact trivial | apply And.intro | omega | (simp; done)); done)); conv => whnf)
      | (refine callP_sn ?_ (h2) ?_; (focus ((repeat' first | exact snapRow | exact snap_row (by simp; done) | exact rfl | exact trivial | apply And.intro | omega | (simp; done)); done)); conv => whnf)
      | (refine call_sn ?_ (hto) ?_; (focus ((repeat' first | exact snapRow | exact snap_row (by simp; done) | exact rfl | exact trivial | apply And.intro | omega | (simp; done)); done)); conv => whnf)
      | (refine callP_sn ?_ (hto) ?_; (focus ((repeat' first | exact snapRow | exact snap_row (by simp; done) | exact rfl | exact trivial | apply And.intro | omega | (simp; done)); done)); conv => whnf)
      | (refine And.intro ?_ ?_; (focus (first | decide | omega | (simp [contentOK, objRd, objAt, peel, hl, List.length_map, List.length_set, List.length_replicate, hwm]; done) | (simp [contentOK, objRd, objAt, peel, hl, List.length_map, List.length_set, List.length_replicate, hwm]; omega) | (simp [contentOK, objRd, objAt, peel, hl, List.length_map, List.length_set, List.length_replicate, hwm] at *; omega))); conv => whnf)
    all_goals
      refine ⟨i + 1, by omega, by omega, ?_⟩
      rw [hwi, hrow, hzz, ← app_one (n := i) (z := [dI 0, dI 0, dI 0]) (((nz z : Nat) : Int).tmod 6, tellI (nz z % 6 : Nat) 0 w h sq, 0) hl.symm rfl]
      exact weak_capver 3 1 0 rfl (by (repeat' first | exact rfl | exact trivial | apply And.intro | (simp [getE]; done))) rfl rfl (Nat.zero_le _) (Nat.zero_le _)
  · have hie : i = n := by simp at hb; omega
    subst hie
    rw [hZ]
    exact ⟨⟨⟨rfl, rfl, res_cell (by simp [objAt]) (by rw [List.length_map]; exact hl.symm) r3_flat, trivial⟩, rfl, trivial⟩, by simp [refVs, refCs, refCV]⟩

end Go.Proofs.Ytmfdkjjhdjkgpaa

namespace Go.Proofs.Ytmfdkjjhdjkgpaa
open Go Go.RowKit
set_option maxRecDepth 10000
set_option maxHeartbeats 2000000
set_option linter.unusedSimpArgs false

theorem res_none {objs : Objs} : ResOK objs [.agg [.d (dI 0), .d (dI 0), .nilsl], .c (vB false)] [.agg (dPuzzle 0 0 []), aB false] :=
  ⟨⟨⟨rfl, rfl, rfl, trivial⟩, rfl, trivial⟩, by simp [refVs, refCs, refCV]⟩

/-- What MakePuzzle gives. -/
noncomputable def makeR (w h : Int) (sq : List (Int × Int × Int)) (n s : Int) : (Int × Int × List (Int × Int × Int)) × Bool :=
  if makeB w h sq n s then ((w, h, (mkN w.toNat h.toNat sq s.toNat n.toNat).1), true) else ((0, 0, []), false)

theorem make_cases (w h : Int) (sq : List (Int × Int × Int)) (n s : Int) : (∃ W H N S : Nat, w = W ∧ h = H ∧ n = N ∧ s = S ∧ goodCutB W H sq = true ∧ hiddenB W H = true ∧ N ≤ 6 ∧ S ≤ 9999 ∧ makeR w h sq n s = ((w, h, (mkN W H sq S N).1), true)) ∨ (makeB w h sq n s = false ∧ makeR w h sq n s = ((0, 0, []), false)) := by
  by_cases c : makeB w h sq n s = true
  · left
    have e : makeR w h sq n s = ((w, h, (mkN w.toNat h.toNat sq s.toNat n.toNat).1), true) := by unfold makeR; rw [if_pos c]
    unfold makeB at c
    simp only [Bool.and_eq_true, inB, decide_eq_true_eq] at c
    obtain ⟨⟨hg, hi⟩, hn, hs⟩ := c
    obtain ⟨W, H, rfl, rfl⟩ := nat_of_good hg
    obtain ⟨N, rfl⟩ : ∃ k : Nat, n = k := ⟨n.toNat, by omega⟩
    obtain ⟨S, rfl⟩ : ∃ k : Nat, s = k := ⟨s.toNat, by omega⟩
    simp only [Int.toNat_natCast] at e
    exact ⟨W, H, N, S, rfl, rfl, rfl, rfl, hg, hi, by omega, by omega, e⟩
  · right
    have c0 : makeB w h sq n s = false := by simpa using c
    exact ⟨c0, by unfold makeR; rw [if_neg c]⟩

theorem implMake (w h : Int) (sq : List (Int × Int × Int)) (n s : Int) (hn : sq.length ≤ 2 ^ 40) : Fn G.P 23 [.agg (dCut w h sq), aI n, aI s]
    (.tup [.agg (dPuzzle (makeR w h sq n s).1.1 (makeR w h sq n s).1.2.1 (makeR w h sq n s).1.2.2), aB (makeR w h sq n s).2]) := by
  rcases make_cases w h sq n s with ⟨W, H, N, S, rfl, rfl, rfl, rfl, hg, hi, h1, h2, e⟩ | ⟨c, e⟩
  · rw [e]
    exact implMake_yes hg hi h1 h2
  · rw [e]
    have hh := isHiddenCut_ok w h sq hn
    have hn1 := within_ok n 0 6
    have hs1 := within_ok s 0 9999
    unfold makeB at c
    generalize (goodCutB w h sq && hiddenB w h) = b1 at hh c
    generalize inB n 0 6 = b2 at hn1 c
    generalize inB s 0 9999 = b3 at hs1 c
    cases b1 <;> cases b2 <;> cases b3
    all_goals first
      | (exfalso; simp at c; done)
      | skip
    all_goals
      refine fn_of_body (G := G) Try.func23 rfl (by decide) (Nat.le_of_ble_eq_true rfl) ?_
      conv => whnf
      repeat' first
        | exact True.intro
        | (refine draw_mkF ?_ ?_ ?_; (focus (decide +kernel)); (focus (kernel_rfl)); conv => whnf)
        | (refine Both.mk ?_ ?_ <;> conv => whnf)
        | (refine OwnQ.own ?_; conv => whnf)
        | (refine NilQ.mk (fun hnil => ?_) ?_ <;> conv => whnf)
        | (refine draw_mk (by kernel_rfl) ?_; conv => whnf)
        | (refine Br.mk (fun hb => ?_) (fun hb => ?_) <;> conv => whnf)
        | (refine call_sn ?_ (hh) ?_; (focus ((repeat' first | exact snapRow | exact snap_row (by simp; done) | exact rfl | exact trivial | apply And.intro | omega | (simp; done)); done)); conv => whnf)
        | (refine callP_sn ?_ (hh) ?_; (focus ((repeat' first | exact snapRow | exact snap_row (by simp; done) | exact rfl | exact trivial | apply And.intro | omega | (simp; done)); done)); conv => whnf)
        | (refine call_sn ?_ (hn1) ?_; (focus ((repeat' first | exact snapRow | exact snap_row (by simp; done) | exact rfl | exact trivial | apply And.intro | omega | (simp; done)); done)); conv => whnf)
        | (refine callP_sn ?_ (hn1) ?_; (focus ((repeat' first | exact snapRow | exact snap_row (by simp; done) | exact rfl | exact trivial | apply And.intro | omega | (simp; done)); done)); conv => whnf)
        | (refine call_sn ?_ (hs1) ?_; (focus ((repeat' first | exact snapRow | exact snap_row (by simp; done) | exact rfl | exact trivial | apply And.intro | omega | (simp; done)); done)); conv => whnf)
        | (refine callP_sn ?_ (hs1) ?_; (focus ((repeat' first | exact snapRow | exact snap_row (by simp; done) | exact rfl | exact trivial | apply And.intro | omega | (simp; done)); done)); conv => whnf)
        | (refine And.intro ?_ ?_; (focus (first | decide | omega | (simp at *; omega) | (simp_all; done))); conv => whnf)
      all_goals exact res_none

theorem specMake (w h : Int) (sq : List (Int × Int × Int)) (n s : Int) (hn : sq.length ≤ 2 ^ 40) : Fn G.P 22 [.agg (dCut w h sq), aI n, aI s]
    (.tup [.agg (dPuzzle (makeR w h sq n s).1.1 (makeR w h sq n s).1.2.1 (makeR w h sq n s).1.2.2), aB (makeR w h sq n s).2]) := by
  rcases make_cases w h sq n s with ⟨W, H, N, S, rfl, rfl, rfl, rfl, hg, hi, h1, h2, e⟩ | ⟨c, e⟩
  · rw [e]
    exact specMake_yes hg hi h1 h2
  · rw [e]
    have hh := pzHidden_ok w h sq hn
    have hn1 := l1In_ok n 0 6
    have hs1 := l1In_ok s 0 9999
    unfold makeB at c
    generalize (goodCutB w h sq && hiddenB w h) = b1 at hh c
    generalize inB n 0 6 = b2 at hn1 c
    generalize inB s 0 9999 = b3 at hs1 c
    cases b1 <;> cases b2 <;> cases b3
    all_goals first
      | (exfalso; simp at c; done)
      | skip
    all_goals
      refine fn_of_body (G := G) Try.func22 rfl (by decide) (Nat.le_of_ble_eq_true rfl) ?_
      conv => whnf
      repeat' first
        | exact True.intro
        | (refine draw_mkF ?_ ?_ ?_; (focus (decide +kernel)); (focus (kernel_rfl)); conv => whnf)
        | (refine Both.mk ?_ ?_ <;> conv => whnf)
        | (refine OwnQ.own ?_; conv => whnf)
        | (refine NilQ.mk (fun hnil => ?_) ?_ <;> conv => whnf)
        | (refine draw_mk (by kernel_rfl) ?_; conv => whnf)
        | (refine Br.mk (fun hb => ?_) (fun hb => ?_) <;> conv => whnf)
        | (refine call_sn ?_ (hh) ?_; (focus ((repeat' first | exact snapRow | exact snap_row (by simp; done) | exact rfl | exact trivial | apply And.intro | omega | (simp; done)); done)); conv => whnf)
        | (refine callP_sn ?_ (hh) ?_; (focus ((repeat' first | exact snapRow | exact snap_row (by simp; done) | exact rfl | exact trivial | apply And.intro | omega | (simp; done)); done)); conv => whnf)
        | (refine call_sn ?_ (hn1) ?_; (focus ((repeat' first | exact snapRow | exact snap_row (by simp; done) | exact rfl | exact trivial | apply And.intro | omega | (simp; done)); done)); conv => whnf)
        | (refine callP_sn ?_ (hn1) ?_; (focus ((repeat' first | exact snapRow | exact snap_row (by simp; done) | exact rfl | exact trivial | apply And.intro | omega | (simp; done)); done)); conv => whnf)
        | (refine call_sn ?_ (hs1) ?_; (focus ((repeat' first | exact snapRow | exact snap_row (by simp; done) | exact rfl | exact trivial | apply And.intro | omega | (simp; done)); done)); conv => whnf)
        | (refine callP_sn ?_ (hs1) ?_; (focus ((repeat' first | exact snapRow | exact snap_row (by simp; done) | exact rfl | exact trivial | apply And.intro | omega | (simp; done)); done)); conv => whnf)
        | (refine And.intro ?_ ?_; (focus (first | decide | omega | (simp at *; omega) | (simp_all; done))); conv => whnf)
      all_goals exact res_none

theorem makeR_len (w h : Int) (sq : List (Int × Int × Int)) (n s : Int) : (makeR w h sq n s).1.2.2.length ≤ 30 := by
  rcases make_cases w h sq n s with ⟨W, H, N, S, rfl, rfl, rfl, rfl, hg, hi, h1, h2, e⟩ | ⟨c, e⟩
  · rw [e]
    show (mkN W H sq S N).1.length ≤ 30
    rw [mkN_len]; omega
  · rw [e]; exact Nat.zero_le _

theorem makeLaw_ok (w h : Int) (sq : List (Int × Int × Int)) (n s : Int) (hn : sq.length ≤ maxLen) : Fn G.P 5 [.agg (dCut w h sq), aI n, aI s] (.one (aB true)) := by
  have hs := fun hn => specMake w h sq n s hn
  have hi := fun hn => implMake w h sq n s hn
  have hlen := makeR_len w h sq n s
  generalize makeR w h sq n s = C at hs hi hlen
  obtain ⟨⟨cw, ch, cl⟩, cb⟩ := C
  dsimp only at hs hi hlen
  have hl0 : (0 : Int) ≤ 1048576 ∧ (1048576 : Int) ≤ 1048576 := by omega
  refine fn_of_body (G := G) Try.func5 rfl (by decide) (Nat.le_of_ble_eq_true rfl) ?_
  conv => whnf
  repeat' first
    | exact True.intro
    | (refine Both.mk ?_ ?_ <;> conv => whnf)
    | (refine OwnQ.own ?_; conv => whnf)
    | (refine NilQ.mk (fun hnil => ?_) ?_ <;> conv => whnf)
    | (refine Br.mk (fun hb => ?_) (fun hb => ?_) <;> conv => whnf)
    | (refine call_sn ?_ (szCut_ok ?_ ?_ ?_ ?_ ?_ ?_) ?_; (focus ((repeat' first | exact snapRow | exact snap_row (by simp; done) | exact rfl | exact trivial | apply And.intro | omega | (simp; done)); done)); assumption; assumption; conv => whnf)
    | (refine callP_sn ?_ (szCut_ok ?_ ?_ ?_ ?_ ?_ ?_) ?_; (focus ((repeat' first | exact snapRow | exact snap_row (by simp; done) | exact rfl | exact trivial | apply And.intro | omega | (simp; done)); done)); assumption; assumption; conv => whnf)
    | (refine And.intro ?_ ?_; (focus (first | decide | omega | (simp at *; omega) | (simp_all; done))); conv => whnf)
  · exact ⟨⟨rfl, trivial⟩, by simp [refVs, refCV]⟩
  have hn1 : sq.length ≤ 2 ^ 20 := by
    by_cases hc : sq.length ≤ (1048576 : Int)
    · omega
    · simp [hc] at hb
  clear hb hn
  have hn2 : sq.length ≤ 2 ^ 40 := by omega
  have hs := hs hn2
  have hi := hi hn2
  have heq0 := eqCut_ok w h sq w h sq hn2
  have heq1 := eqPuzzle_ok cw ch cl cw ch cl (by omega)
  repeat' first
    | exact True.intro
    | (refine draw_mkF ?_ ?_ ?_; (focus (decide +kernel)); (focus (kernel_rfl)); conv => whnf)
    | (refine Both.mk ?_ ?_ <;> conv => whnf)
    | (refine OwnQ.own ?_; conv => whnf)
    | (refine NilQ.mk (fun hnil => ?_) ?_ <;> conv => whnf)
    | (refine draw_mk (by kernel_rfl) ?_; conv => whnf)
    | (refine Br.mk (fun hb => ?_) (fun hb => ?_) <;> conv => whnf)
    | (refine call_sn ?_ (toCut_ok ?_ ?_ ?_ ?_) ?_; (focus ((repeat' first | exact snapRow | exact snap_row (by simp; done) | exact rfl | exact trivial | apply And.intro | omega | (simp; done)); done)); assumption; conv => whnf)
    | (refine callP_sn ?_ (toCut_ok ?_ ?_ ?_ ?_) ?_; (focus ((repeat' first | exact snapRow | exact snap_row (by simp; done) | exact rfl | exact trivial | apply And.intro | omega | (simp; done)); done)); assumption; conv => whnf)
    | (refine call_sn ?_ (hs) ?_; (focus ((repeat' first | exact snapRow | exact snap_row (by simp; done) | exact rfl | exact trivial | apply And.intro | omega | (simp; done)); done)); conv => whnf)
    | (refine callP_sn ?_ (hs) ?_; (focus ((repeat' first | exact snapRow | exact snap_row (by simp; done) | exact rfl | exact trivial | apply And.intro | omega | (simp; done)); done)); conv => whnf)
    | (refine call_sn ?_ (hi) ?_; (focus ((repeat' first | exact snapRow | exact snap_row (by simp; done) | exact rfl | exact trivial | apply And.intro | omega | (simp; done)); done)); conv => whnf)
    | (refine callP_sn ?_ (hi) ?_; (focus ((repeat' first | exact snapRow | exact snap_row (by simp; done) | exact rfl | exact trivial | apply And.intro | omega | (simp; done)); done)); conv => whnf)
    | (refine call_sn ?_ (heq0) ?_; (focus ((repeat' first | exact snapRow | exact snap_row (by simp; done) | exact rfl | exact trivial | apply And.intro | omega | (simp; done)); done)); conv => whnf)
    | (refine callP_sn ?_ (heq0) ?_; (focus ((repeat' first | exact snapRow | exact snap_row (by simp; done) | exact rfl | exact trivial | apply And.intro | omega | (simp; done)); done)); conv => whnf)
    | (refine call_sn ?_ (heq1) ?_; (focus ((repeat' first | exact snapRow | exact snap_row (by simp; done) | exact rfl | exact trivial | apply And.intro | omega | (simp; done)); done)); conv => whnf)
    | (refine callP_sn ?_ (heq1) ?_; (focus ((repeat' first | exact snapRow | exact snap_row (by simp; done) | exact rfl | exact trivial | apply And.intro | omega | (simp; done)); done)); conv => whnf)
    | (refine markCut_x rfl rfl ?_ ?_ ?_ ?_; iterate 3 (focus (first | exact rfl | decide | omega | (simp; done) | (simp; omega) | (constructor <;> omega))); conv => whnf)
    | (refine markPuzzle_x rfl rfl ?_ ?_ ?_ ?_; iterate 3 (focus (first | exact rfl | decide | omega | (simp; done) | (simp; omega) | (constructor <;> omega))); conv => whnf)
    | (refine heldPuzzle_x rfl ?_ ?_ ?_ ?_; iterate 3 (focus (first | exact rfl | decide | omega | (simp; done) | (simp; omega) | (constructor <;> omega))); conv => whnf)
    | (refine And.intro ?_ ?_; (focus (first | decide | omega | (simp [contentOK, objRd, objAt, peel, List.length_map]; done) | (simp [contentOK, objRd, objAt, peel, List.length_map]; omega) | (simp [contentOK, objRd, objAt, peel, List.length_map] at *; omega))); conv => whnf)
  all_goals first | (exfalso; simp at hb; done) | (exfalso; simp at hb; omega) | skip
  all_goals exact ⟨⟨rfl, trivial⟩, by simp [refVs, refCV]⟩

theorem makeLaw {W : World} {R : Nat → Prop} (ds : List DC) (hg : ∃ us, Good W R [.int .i64, .int .i64, .slice [.int .i64, .int .i64, .int .i64]] ds us) (n : Int) (_ : (Lit.int .i64 n).wf = true) (s : Int) (_ : (Lit.int .i64 s).wf = true) :
    Fn G.P 5 [.agg ds, aI n, aI s] (.one (aB true)) := by
  obtain ⟨us, hg⟩ := hg
  obtain ⟨w, h, sq, rfl, hn⟩ := cut_of_good hg
  exact makeLaw_ok w h sq n s hn

end Go.Proofs.Ytmfdkjjhdjkgpaa

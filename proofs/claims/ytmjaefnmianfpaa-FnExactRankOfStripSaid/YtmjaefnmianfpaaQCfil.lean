/- The rank of a strip: both walks. -/
import Derived.Test.YtmjaefnmianfpaaQBfil
import Derived.Test.YtmjaefnmianfpaaQPrank
import Derived.Test.YtmjaefnmianfpaaQMst
import Derived.Test.YtmjaefnmianfpaaQOst
namespace Go.Proofs.Ytmjaefnmianfpaa
open Go Go.RowKit
set_option maxRecDepth 10000
set_option maxHeartbeats 1000000
set_option linter.unusedSimpArgs false

theorem implRank_yes (l h : Nat) (sq : List (Int × Int × Int)) (hw : wholeB l h sq = true) : Fn G.P 50 [.agg (dCut l h sq)] (.tup [aI (rankA h l (sortI ltXY sq) sq.length), aB true]) := by
  have hg : goodCutB l h sq = true := by simp only [wholeB, Bool.and_eq_true] at hw; exact hw.1
  obtain ⟨_, _, _, _, _, _, hlen, hsm⟩ := good_facts hg
  have hn : sq.length ≤ 2 ^ 40 := by omega
  have hf := fillSides_ok l h sq hg
  refine fn_of_body (G := G) Try.func50 rfl (by decide) (Nat.le_of_ble_eq_true rfl) ?_
  conv => whnf
  repeat' first
    | exact True.intro
    | (refine draw_mkF ?_ ?_ ?_; (focus (decide +kernel)); (focus (kernel_rfl)); conv => whnf)
    | (refine Both.mk ?_ ?_ <;> conv => whnf)
    | (refine NilQ.mk (fun hnil => ?_) ?_ <;> conv => whnf)
    | (refine draw_mk (by kernel_rfl) ?_; conv => whnf)
    | (refine Br.mk (fun hb => ?_) (fun hb => ?_) <;> conv => whnf)
    | (refine call_sn ?_ (isStrip_ok ?_ ?_ ?_ ?_) ?_; (focus ((repeat' first | exact snapRow | exact snap_row (by simp; done) | exact rfl | exact trivial | apply And.intro | omega | (simp; done)); done)); assumption; conv => whnf)
    | (refine callP_sn ?_ (isStrip_ok ?_ ?_ ?_ ?_) ?_; (focus ((repeat' first | exact snapRow | exact snap_row (by simp; done) | exact rfl | exact trivial | apply And.intro | omega | (simp; done)); done)); assumption; conv => whnf)
    | (refine call_sn ?_ (hf) ?_; (focus ((repeat' first | exact snapRow | exact snap_row (by simp; done) | exact rfl | exact trivial | apply And.intro | omega | (simp; done)); done)); conv => whnf)
    | (refine callP_sn ?_ (hf) ?_; (focus ((repeat' first | exact snapRow | exact snap_row (by simp; done) | exact rfl | exact trivial | apply And.intro | omega | (simp; done)); done)); conv => whnf)
    | (refine call_body (G := G) Try.func72 rfl (by decide) (Nat.le_of_ble_eq_true rfl) ?_; conv => whnf)
    | (refine callP_text (call_body (G := G) Try.func72 rfl (by decide) (Nat.le_of_ble_eq_true rfl) ?_); conv => whnf)
    | (refine And.intro ?_ ?_; (focus (first | decide | omega | (simp at *; omega) | (simp_all; done))); conv => whnf)
  · simp [hw] at hb
  clear hb hf
  have hst : stripB h l = true := by simp only [wholeB, Bool.and_eq_true] at hw; exact hw.2
  have hh : 1 ≤ h ∧ h < 5 ∧ 1 ≤ l ∧ l ≤ 30 := by simp only [stripB, inB, Bool.and_eq_true, decide_eq_true_eq] at hst; omega
  have hS := sortI_perm ltXY sq
  have hasc := sortI_asc ltXY_asym ltXY_ntrans sq
  have hSl := sortI_len ltXY sq
  generalize sortI ltXY sq = S at hS hasc hSl
  refine .inl ⟨Nat × List (List Int × DV), fun x => sq.length - x.1, fun x => x.1 ≤ sq.length ∧ GoodY h l x.2 ∧ ∃ X st, RankAt l h S x.1 X st,
    fun x => ⟨[(4, .one (.c (.ptr 3 0 0))), (5, .one (.c (.ptr 4 0 0))), (6, .one (.c (vI (rankA h l S x.1)))), (23, .one (.c (.sl 5 0 1 0 sq.length none))), (24, .one (.c (vI sq.length))), (25, .one (.c (vI x.1)))],
      [(0, .box [.d (dI l), .d (dI h), .d (.list 3 (sq.map r3))]), (0, .box [.d (dI h), .d (dI l), .mp 2 0]), (0, .map 4 x.2), (0, .box [.d (dI h), .d (dI l), .mp 2 0]),
        (0, .box [.d (dI ((rowsA S x.1).getD 0 0 : Nat)), .d (dI ((rowsA S x.1).getD 1 0 : Nat)), .d (dI ((rowsA S x.1).getD 2 0 : Nat)), .d (dI ((rowsA S x.1).getD 3 0 : Nat))]), (0, .arr 1 ((S.map (·.2.2)).map r1))], _⟩,
    (0, []), ⟨Nat.zero_le _, (fun _ _ _ _ _ _ _ _ _ hl => by cases hl), 0, 0, rankAt_start ⟨hh.1, hh.2.1⟩⟩, weak_of rfl ?_ rfl (Nat.zero_le _), ?_⟩
  · rw [List.length_map, List.length_map, hSl]
    (repeat' first | exact rfl | exact trivial | apply And.intro | (simp [getE]; done))
  rintro ⟨i, es⟩ ⟨hi, hes, X, st, hra⟩
  dsimp only at hi hes hra ⊢
  obtain ⟨a, b, c, d, hR⟩ : ∃ a b c d, rowsA S i = [a, b, c, d] := ⟨_, _, _, _, four (rowsA_len S i)⟩
  simp only [hR, List.getD_cons_zero, List.getD_cons_succ]
  conv => whnf
  refine Br.mk (fun hb => ?_) (fun hb => ?_) <;> conv => whnf
  · have hil : i < S.length := by simp at hb; omega
    obtain ⟨y, s, X', st', l', s', hy, hq, h1, h2, hrow, hra', hnx⟩ := rankAt_step hg hS hasc ⟨hh.1, hh.2.1⟩ hh.2.2.2 (List.getElem?_eq_getElem hil) hra
    have hel : ((S.map (·.2.2)).map r1)[0 + ((i : Int)).toNat]? = some [dI s] := by
      rw [Nat.zero_add, Int.toNat_natCast, List.getElem?_map, List.getElem?_map, List.getElem?_eq_getElem hil, hq]; rfl
    have hat := hra.at_
    rw [hR] at hat h2 hrow
    have hXl := hra.le
    have hs4 : s ≤ h := Nat.le_trans h2 (mst_le hh.2.1)
    repeat' first
      | (refine El.get hel ?_; conv => whnf)
      | exact True.intro
      | (refine draw_mkF ?_ ?_ ?_; (focus (decide +kernel)); (focus (kernel_rfl)); conv => whnf)
      | (refine Both.mk ?_ ?_ <;> conv => whnf)
      | (refine NilQ.mk (fun hnil => ?_) ?_ <;> conv => whnf)
      | (refine draw_mk (by kernel_rfl) ?_; conv => whnf)
      | (refine Br.mk (fun hb => ?_) (fun hb => ?_) <;> conv => whnf)
      | (refine And.intro ?_ ?_; (focus (first | decide | omega | (simp [contentOK, objRd, objAt, peel, List.length_map]; done) | (simp [contentOK, objRd, objAt, peel, List.length_map]; omega) | (simp [contentOK, objRd, objAt, peel, List.length_map] at *; omega))); conv => whnf)
    refine frameN [2] (next_x es hh.2.1 hat hy (by omega)) rfl (by decide) ⟨rfl, rfl⟩ rfl ?_
    rintro _ _ ⟨rfl, gs, rfl⟩
    refine ⟨[_], gs, rfl, Nat.le_refl _, rfl, ?_⟩
    conv => whnf
    refine .inl ⟨Nat × List (List Int × DV), fun x => s - 1 - x.1, fun x => x.1 + 1 ≤ s ∧ GoodY h l x.2,
      fun x => ⟨[(4, .one (.c (.ptr 3 0 0))), (5, .one (.c (.ptr 4 0 0))), (6, .one (.c (vI (rankI h l [a, b, c, d] y (rankA h l S i) x.1)))), (8, .one (.c (vI s))), (10, .one (.c (vI y))), (12, .one (.c (vI ((x.1 + 1 : Nat) : Int)))), (23, .one (.c (.sl 5 0 1 0 sq.length none))), (24, .one (.c (vI sq.length))), (25, .one (.c (vI i)))],
        [(0, .box [.d (dI l), .d (dI h), .d (.list 3 (sq.map r3))]), (0, .box [.d (dI h), .d (dI l), .mp 2 0]), (0, .map 4 x.2), (0, .box [.d (dI h), .d (dI l), .mp 2 0]), (0, .box [.d (dI a), .d (dI b), .d (dI c), .d (dI d)]), (0, .arr 1 ((S.map (·.2.2)).map r1))], _⟩,
      (0, es), ⟨h1, hes⟩, weak_of rfl ?_ rfl (Nat.zero_le _), ?_⟩
    · (repeat' first | exact rfl | exact trivial | apply And.intro | (simp [getE]; done))
    rintro ⟨k, es2⟩ ⟨hk, hes2⟩
    dsimp only at hk hes2 ⊢
    conv => whnf
    refine Br.mk (fun hb1 => ?_) (fun hb1 => ?_) <;> conv => whnf
    · have hks : k + 1 < s := by simp at hb1; omega
      have hkm : k + 1 ≤ mst h l X [a, b, c, d] y := by omega
      obtain ⟨X2, st2, l2, s2, n1, hat2, hX2, _⟩ := put_at (1 : Int) 0 (stepV 0) hh.2.1 hh.2.2.2 hXl hat hy (by omega) hkm
      obtain ⟨a', b', c', d', hR'⟩ : ∃ a' b' c' d', putR [a, b, c, d] y (k + 1) = [a', b', c', d'] := ⟨_, _, _, _, four (by simp [putR])⟩
      have hyk := (mst_iff hh.2.1).1 hkm k (by omega)
      have hput := put4_x (by omega) (by have := hyk.1; omega) hat.small hR'
      have hwa : waysA h l (putR [a, b, c, d] y (k + 1)) = IntKind.i64.wrap (Vw 0 h (l - X2) st2) := waysA_eq hh.2.1 hat2
      rw [hR'] at hat2
      have hcnt := count_rec ⟨hh.1, hh.2.1⟩ hh.2.2.2 1000 a' b' c' d' X2 st2 es2 hat2 hX2 (Nat.lt_of_lt_of_le (mu_small hh.2.1 (by omega)) (by omega)) hes2
      have hts := tally_sum h (l - X2) st2
      have htl := Tw_len h (l - X2) st2
      generalize Tw h (l - X2) st2 = T at hcnt hts htl
      obtain ⟨oby, o0, o1, o2, o3, o4⟩ := T
      dsimp only at hts htl
      have hsum := sum_list oby (Nat.le_trans htl (by decide))
      rw [hts] at hsum
      have hri : rankI h l [a, b, c, d] y (rankA h l S i) (k + 1) = IntKind.i64.wrap (rankI h l [a, b, c, d] y (rankA h l S i) k + IntKind.i64.wrap (Vw 0 h (l - X2) st2)) := by rw [rankI, hwa]
      have hwk : IntKind.i64.wrap (((k + 1 : Nat) : Int) + 1) = ((k + 1 + 1 : Nat) : Int) := by rw [wrap_i64 _ (by omega) (by omega)]; omega
      refine draw_mkW (by kernel_rfl) ?_
      conv => whnf
      repeat' first
        | (refine And.intro ?_ ?_ <;> conv => whnf)
        | (refine call_sn (by repeat' first | exact rfl | exact trivial | apply And.intro) hput ?_; conv => whnf)
        | (refine frameN [2] hcnt rfl (by decide) ⟨rfl, rfl⟩ rfl ?_; rintro _ _ ⟨rfl, es3, gs3, hes3, rfl⟩; refine ⟨[_], gs3, rfl, Nat.le_refl _, rfl, ?_⟩; conv => whnf)
        | (refine call_sn (by repeat' first | exact rfl | exact trivial | apply And.intro) hsum ?_; conv => whnf)
      all_goals
        refine ⟨(k + 1, es3), ⟨by show k + 1 + 1 ≤ s; omega, hes3⟩, by show s - 1 - (k + 1) < s - 1 - k; omega, weak_of rfl ?_ rfl (Nat.zero_le _)⟩
        show envOK _ [_, _, (6, .one (.c (vI (rankI h l [a, b, c, d] y (rankA h l S i) (k + 1))))), _, _, _, _, _, _]
        rw [hri]
        repeat' first
          | exact rfl
          | exact trivial
          | apply And.intro
          | exact congrArg (fun m => SV.one (V1.c (vI m))) hwk
    · have hks : k + 1 = s := by simp at hb1; omega
      obtain ⟨a', b', c', d', hR'⟩ : ∃ a' b' c' d', putR [a, b, c, d] y s = [a', b', c', d'] := ⟨_, _, _, _, four (by simp [putR])⟩
      have hyk := (mst_iff hh.2.1).1 h2 (s - 1) (by omega)
      have hput := put4_x h1 (by have := hyk.1; omega) hat.small hR'
      rw [hR'] at hrow
      have hwi : IntKind.i64.wrap ((i : Int) + 1) = ((i + 1 : Nat) : Int) := by rw [wrap_i64 _ (by omega) (by omega)]; omega
      have hrn : rankA h l S (i + 1) = rankI h l [a, b, c, d] y (rankA h l S i) k := by
        rw [rankA_next (by rw [List.getElem?_eq_getElem hil, hq]), hR, show s - 1 = k by omega]
      refine call_sn (by repeat' first | exact rfl | exact trivial | apply And.intro) hput ?_
      conv => whnf
      refine ⟨(i + 1, es2), ⟨by show i + 1 ≤ sq.length; omega, hes2, X', st', hra'⟩, by show sq.length - (i + 1) < sq.length - i; omega, weak_of ?_ ?_ rfl (Nat.zero_le _)⟩
      · simp only [hrow, List.getD_cons_zero, List.getD_cons_succ]
        rfl
      · show envOK _ [_, _, (6, .one (.c (vI (rankA h l S (i + 1))))), _, _, _]
        rw [hrn]
        repeat' first
          | exact rfl
          | exact trivial
          | apply And.intro
          | exact congrArg (fun m => SV.one (V1.c (vI m))) hwi
  · obtain rfl : i = sq.length := by simp at hb; omega
    exact ⟨⟨rfl, rfl, trivial⟩, by simp [refVs, refCV]⟩

theorem specRank_yes (l h : Nat) (sq : List (Int × Int × Int)) (hw : wholeB l h sq = true) : Fn G.P 49 [.agg (dCut l h sq)] (.tup [aI (rankA h l (sortI ltXY sq) sq.length), aB true]) := by
  have hg : goodCutB l h sq = true := by simp only [wholeB, Bool.and_eq_true] at hw; exact hw.1
  obtain ⟨_, _, _, _, _, _, hlen, hsm⟩ := good_facts hg
  have hn : sq.length ≤ 2 ^ 40 := by omega
  have hf := stSides_ok l h sq (by omega)
  refine fn_of_body (G := G) Try.func49 rfl (by decide) (Nat.le_of_ble_eq_true rfl) ?_
  conv => whnf
  repeat' first
    | exact True.intro
    | (refine draw_mkF ?_ ?_ ?_; (focus (decide +kernel)); (focus (kernel_rfl)); conv => whnf)
    | (refine Both.mk ?_ ?_ <;> conv => whnf)
    | (refine NilQ.mk (fun hnil => ?_) ?_ <;> conv => whnf)
    | (refine draw_mk (by kernel_rfl) ?_; conv => whnf)
    | (refine Br.mk (fun hb => ?_) (fun hb => ?_) <;> conv => whnf)
    | (refine call_sn ?_ (stGood_ok ?_ ?_ ?_ ?_) ?_; (focus ((repeat' first | exact snapRow | exact snap_row (by simp; done) | exact rfl | exact trivial | apply And.intro | omega | (simp; done)); done)); assumption; conv => whnf)
    | (refine callP_sn ?_ (stGood_ok ?_ ?_ ?_ ?_) ?_; (focus ((repeat' first | exact snapRow | exact snap_row (by simp; done) | exact rfl | exact trivial | apply And.intro | omega | (simp; done)); done)); assumption; conv => whnf)
    | (refine call_sn ?_ (hf) ?_; (focus ((repeat' first | exact snapRow | exact snap_row (by simp; done) | exact rfl | exact trivial | apply And.intro | omega | (simp; done)); done)); conv => whnf)
    | (refine callP_sn ?_ (hf) ?_; (focus ((repeat' first | exact snapRow | exact snap_row (by simp; done) | exact rfl | exact trivial | apply And.intro | omega | (simp; done)); done)); conv => whnf)
    | (refine And.intro ?_ ?_; (focus (first | decide | omega | (simp at *; omega) | (simp_all; done))); conv => whnf)
  · simp [hw] at hb
  clear hb
  have hst : stripB h l = true := by simp only [wholeB, Bool.and_eq_true] at hw; exact hw.2
  have hh : 1 ≤ h ∧ h < 5 ∧ 1 ≤ l ∧ l ≤ 30 := by simp only [stripB, inB, Bool.and_eq_true, decide_eq_true_eq] at hst; omega
  have hS := sortI_perm ltXY sq
  have hasc := sortI_asc ltXY_asym ltXY_ntrans sq
  have hSl := sortI_len ltXY sq
  generalize sortI ltXY sq = S at hS hasc hSl hf ⊢
  refine ways_c (h := h) (L := l) (wo := 0) ⟨hh.1, hh.2.1⟩ hh.2.2.2 fun T ht hgt => ?_
  conv => whnf
  repeat' first
    | exact True.intro
    | (refine draw_mkF ?_ ?_ ?_; (focus (decide +kernel)); (focus (kernel_rfl)); conv => whnf)
    | (refine Both.mk ?_ ?_ <;> conv => whnf)
    | (refine NilQ.mk (fun hnil => ?_) ?_ <;> conv => whnf)
    | (refine draw_mk (by kernel_rfl) ?_; conv => whnf)
    | (refine Br.mk (fun hb => ?_) (fun hb => ?_) <;> conv => whnf)
    | (refine call_sn ?_ (hf) ?_; (focus ((repeat' first | exact snapRow | exact snap_row (by simp; done) | exact rfl | exact trivial | apply And.intro | omega | (simp; done)); done)); conv => whnf)
    | (refine callP_sn ?_ (hf) ?_; (focus ((repeat' first | exact snapRow | exact snap_row (by simp; done) | exact rfl | exact trivial | apply And.intro | omega | (simp; done)); done)); conv => whnf)
    | (refine And.intro ?_ ?_; (focus (first | decide | omega | (simp at *; omega) | (simp_all; done))); conv => whnf)
  have hrow0 : (S.map (·.2.2)).length = sq.length := by rw [List.length_map, hSl]
  refine .inl ⟨Nat × List (List Int) × Nat × Nat, fun x => sq.length - x.1, fun x => x.1 ≤ sq.length ∧ TabL h l x.2.1 ∧ GoodT h 0 x.2.1 ∧ RepS l h (rowsA S x.1) x.2.2.1 x.2.2.2 ∧ ∃ X st, RankAt l h S x.1 X st,
    fun x => ⟨[(1, .one (.c (.ptr 0 0 0))), (4, .one (.c (.sl 1 0 1 0 (l + 1) (some (l + 1))))), (5, .one (.c (vI (rankA h l S x.1)))), (6, .one (.c (vI x.2.2.2))), (7, .one (.c (vI x.2.2.1))), (23, .one (.c (.sl 2 0 1 0 sq.length none))), (24, .one (.c (vI sq.length))), (25, .one (.c (vI x.1)))],
      [(0, .box [.d (dI l), .d (dI h), .d (.list 3 (sq.map r3))]), (0, .grid 1 (gx x.2.1)), (0, .arr 1 ((S.map (·.2.2)).map r1))], _⟩,
    (0, T, l, 0), ⟨Nat.zero_le _, ht, hgt, rep_start hh.2.1, 0, 0, rankAt_start ⟨hh.1, hh.2.1⟩⟩, weak_of rfl ?_ rfl (Nat.zero_le _), ?_⟩
  · rw [List.length_map, hrow0]
    (repeat' first | exact rfl | exact trivial | apply And.intro | (simp [getE]; done))
  clear ht hgt
  rintro ⟨i, T, left, st0⟩ ⟨hi, ht, hgt, hrep, X, st, hra⟩
  dsimp only at hi ht hgt hrep hra ⊢
  conv => whnf
  refine Br.mk (fun hb => ?_) (fun hb => ?_) <;> conv => whnf
  · have hil : i < S.length := by simp at hb; omega
    obtain ⟨y, s, X', st', l', s', hy, hq, h1, h2, hrow, hra', hnx⟩ := rankAt_step hg hS hasc ⟨hh.1, hh.2.1⟩ hh.2.2.2 (List.getElem?_eq_getElem hil) hra
    have hel : ((S.map (·.2.2)).map r1)[0 + ((i : Int)).toNat]? = some [dI s] := by
      rw [Nat.zero_add, Int.toNat_natCast, List.getElem?_map, List.getElem?_map, List.getElem?_eq_getElem hil, hq]; rfl
    repeat' first
      | (refine El.get hel ?_; conv => whnf)
      | exact True.intro
      | (refine draw_mkF ?_ ?_ ?_; (focus (decide +kernel)); (focus (kernel_rfl)); conv => whnf)
      | (refine Both.mk ?_ ?_ <;> conv => whnf)
      | (refine NilQ.mk (fun hnil => ?_) ?_ <;> conv => whnf)
      | (refine draw_mk (by kernel_rfl) ?_; conv => whnf)
      | (refine Br.mk (fun hb => ?_) (fun hb => ?_) <;> conv => whnf)
      | (refine And.intro ?_ ?_; (focus (first | decide | omega | (simp [contentOK, objRd, objAt, peel, List.length_map]; done) | (simp [contentOK, objRd, objAt, peel, List.length_map]; omega) | (simp [contentOK, objRd, objAt, peel, List.length_map] at *; omega))); conv => whnf)
    have hs4 : s ≤ h := Nat.le_trans h2 (mst_le hh.2.1)
    refine .inl ⟨Nat × Nat, fun x => x.1, fun x => RepS l h (rowsA S i) x.1 x.2,
      fun x => ⟨[(1, .one (.c (.ptr 0 0 0))), (4, .one (.c (.sl 1 0 1 0 (l + 1) (some (l + 1))))), (5, .one (.c (vI (rankA h l S i)))), (6, .one (.c (vI x.2))), (7, .one (.c (vI x.1))), (9, .one (.c (vI s))), (23, .one (.c (.sl 2 0 1 0 sq.length none))), (24, .one (.c (vI sq.length))), (25, .one (.c (vI i)))],
        [(0, .box [.d (dI l), .d (dI h), .d (.list 3 (sq.map r3))]), (0, .grid 1 (gx T)), (0, .arr 1 ((S.map (·.2.2)).map r1))], _⟩,
      (left, st0), hrep, weak_of rfl ?_ rfl (Nat.zero_le _), ?_⟩
    · (repeat' first | exact rfl | exact trivial | apply And.intro | (simp [getE]; done))
    clear hrep
    rintro ⟨left, st0⟩ hrep
    dsimp only at hrep ⊢
    have h256 : st0 < 256 := Nat.lt_of_lt_of_le hrep.lt (pow_le256 hh.2.1)
    have hfree := stFree_ok st0 h h256 hh.2.1
    conv => whnf
    repeat' first
      | exact True.intro
      | (refine draw_mkF ?_ ?_ ?_; (focus (decide +kernel)); (focus (kernel_rfl)); conv => whnf)
      | (refine Both.mk ?_ ?_ <;> conv => whnf)
      | (refine NilQ.mk (fun hnil => ?_) ?_ <;> conv => whnf)
      | (refine draw_mk (by kernel_rfl) ?_; conv => whnf)
      | (refine Br.mk (fun hb => ?_) (fun hb => ?_) <;> conv => whnf)
      | (refine call_sn ?_ (hfree) ?_; (focus ((repeat' first | exact snapRow | exact snap_row (by simp; done) | exact rfl | exact trivial | apply And.intro | omega | (simp; done)); done)); conv => whnf)
      | (refine callP_sn ?_ (hfree) ?_; (focus ((repeat' first | exact snapRow | exact snap_row (by simp; done) | exact rfl | exact trivial | apply And.intro | omega | (simp; done)); done)); conv => whnf)
      | (refine And.intro ?_ ?_; (focus (first | decide | omega | (simp at *; omega) | (simp_all; done))); conv => whnf)
    · have hno : freeS h st0 = none := by
        unfold freeI at hb
        cases hf2 : freeS h st0 with
        | none => rfl
        | some r => rw [hf2] at hb; simp at hb; omega
      obtain ⟨k1, k2, k3⟩ := rep_shift ⟨hh.1, hh.2.1⟩ hrep hno
      have hsh := stShift_ok st0 h h256 hh.2.1 k2
      have hwl : IntKind.i64.wrap ((left : Int) - 1) = ((left - 1 : Nat) : Int) := by have := hrep.le; rw [wrap_i64 _ (by omega) (by omega)]; omega
      repeat' first
        | exact True.intro
        | (refine draw_mkF ?_ ?_ ?_; (focus (decide +kernel)); (focus (kernel_rfl)); conv => whnf)
        | (refine Both.mk ?_ ?_ <;> conv => whnf)
        | (refine NilQ.mk (fun hnil => ?_) ?_ <;> conv => whnf)
        | (refine draw_mk (by kernel_rfl) ?_; conv => whnf)
        | (refine Br.mk (fun hb => ?_) (fun hb => ?_) <;> conv => whnf)
        | (refine call_sn ?_ (hsh) ?_; (focus ((repeat' first | exact snapRow | exact snap_row (by simp; done) | exact rfl | exact trivial | apply And.intro | omega | (simp; done)); done)); conv => whnf)
        | (refine callP_sn ?_ (hsh) ?_; (focus ((repeat' first | exact snapRow | exact snap_row (by simp; done) | exact rfl | exact trivial | apply And.intro | omega | (simp; done)); done)); conv => whnf)
        | (refine And.intro ?_ ?_; (focus (first | decide | omega | (simp at *; omega) | (simp_all; done))); conv => whnf)
      refine ⟨(left - 1, st0 - onesS 0 h), k3, by show left - 1 < left; omega, weak_of rfl ?_ rfl (Nat.zero_le _)⟩
      repeat' first
        | exact rfl
        | exact trivial
        | apply And.intro
        | exact congrArg (fun m => SV.one (V1.c (vI m))) hwl
    have hsome : (freeS h st0).isSome = true := by
      unfold freeI at hb
      cases hf2 : freeS h st0 with
      | none => rw [hf2] at hb; simp at hb
      | some r => rfl
    obtain ⟨rfl, rfl⟩ := rep_at hh.2.1 hrep hsome hra.at_
    have hfy : freeI h st = (y : Int) := by unfold freeI; rw [hy]
    have hy1 := (freeS_spec hy).1
    have hll := hrep.le
    have e1 : l - (l - left) = left := by omega
    rw [hfy]
    have hnv : ∀ k, 1 ≤ k → k < s → nxV 0 h left st y k = waysA h l (putR (rowsA S i) y k) := fun k hk1 hk2 => nxV_ways ⟨hh.1, hh.2.1⟩ hh.2.2.2 hra.at_ hll hy hk1 (by omega)
    refine .inl ⟨Nat × List (List Int), fun x => s - 1 - x.1, fun x => x.1 + 1 ≤ s ∧ TabL h l x.2 ∧ GoodT h 0 x.2,
      fun x => ⟨[(1, .one (.c (.ptr 0 0 0))), (4, .one (.c (.sl 1 0 1 0 (l + 1) (some (l + 1))))), (5, .one (.c (vI (rankI h l (rowsA S i) y (rankA h l S i) x.1)))), (6, .one (.c (vI st))), (7, .one (.c (vI left))), (9, .one (.c (vI s))), (10, .one (.c (vI y))), (11, .one (.c (vI ((x.1 + 1 : Nat) : Int)))), (23, .one (.c (.sl 2 0 1 0 sq.length none))), (24, .one (.c (vI sq.length))), (25, .one (.c (vI i)))],
        [(0, .box [.d (dI l), .d (dI h), .d (.list 3 (sq.map r3))]), (0, .grid 1 (gx x.2)), (0, .arr 1 ((S.map (·.2.2)).map r1))], _⟩,
      (0, T), ⟨h1, ht, hgt⟩, weak_of rfl ?_ rfl (Nat.zero_le _), ?_⟩
    · (repeat' first | exact rfl | exact trivial | apply And.intro | (simp [getE]; done))
    clear ht hgt
    rintro ⟨k, T⟩ ⟨hk, ht, hgt⟩
    dsimp only at hk ht hgt ⊢
    conv => whnf
    have hwi : IntKind.i64.wrap ((i : Int) + 1) = ((i + 1 : Nat) : Int) := by rw [wrap_i64 _ (by omega) (by omega)]; omega
    rw [e1] at hnx
    have hR : ∀ r, r < h → (rowsA S i).getD r 0 ≤ l := hra.at_.le
    have hnew := rep_nx ⟨hh.1, hh.2.1⟩ hrep hy ⟨h1, hs4⟩ hnx hR
    rw [← hrow] at hnew
    have hrn : k + 1 = s → rankA h l S (i + 1) = rankI h l (rowsA S i) y (rankA h l S i) k := fun hks => by
      rw [rankA_next (by rw [List.getElem?_eq_getElem hil, hq]), show s - 1 = k by omega]
    repeat' first
      | exact True.intro
      | (refine Both.mk ?_ ?_ <;> conv => whnf)
      | (refine NilQ.mk (fun hnil => ?_) ?_ <;> conv => whnf)
      | (refine Br.mk (fun hb => ?_) (fun hb => ?_) <;> conv => whnf)
      | (refine And.intro ?_ ?_; (focus (first | decide | omega | (simp at *; omega) | (simp_all; done))); conv => whnf)
    · have hks : k + 1 < s := by simp at hb; omega
      have hwk : IntKind.i64.wrap (((k + 1 : Nat) : Int) + 1) = ((k + 1 + 1 : Nat) : Int) := by rw [wrap_i64 _ (by omega) (by omega)]; omega
      refine countSide_c (h := h) (L := l) (wo := 0) (left := left) (st := st) (r := y) (side := k + 1) ⟨hh.1, hh.2.1⟩ hh.2.2.2 hll hrep.lt (by omega) (by omega) (by omega) ht hgt rfl fun T' ht' hg' => ?_
      conv => whnf
      refine ⟨(k + 1, T'), ⟨by show k + 1 + 1 ≤ s; omega, ht', hg'⟩, by show s - 1 - (k + 1) < s - 1 - k; omega, weak_of rfl ?_ rfl (Nat.zero_le _)⟩
      show envOK _ [_, _, (5, .one (.c (vI (rankI h l (rowsA S i) y (rankA h l S i) (k + 1))))), _, _, _, _, _, _, _, _]
      rw [rankI, ← hnv (k + 1) (by omega) hks]
      repeat' first
        | exact rfl
        | exact trivial
        | apply And.intro
        | exact congrArg (fun m => SV.one (V1.c (vI m))) hwk
    · have hkk : decide (((k + 1 : Nat) : Int) < (s : Int)) = false := by assumption
      have hks : k + 1 = s := by simp at hkk; omega
      have hs4' : s = 4 := by simp at hb; omega
      subst hs4'
      have hnx' := hnx
      unfold nx at hnx'
      rw [if_pos rfl] at hnx'
      split at hnx'
      · rename_i hc
        simp only [Option.some.injEq, Prod.mk.injEq] at hnx'
        obtain ⟨rfl, rfl⟩ := hnx'
        have hwl : IntKind.i64.wrap ((left : Int) - 4) = ((left - 4 : Nat) : Int) := by rw [wrap_i64 _ (by omega) (by omega)]; omega
        obtain ⟨hc1, hc2⟩ := hc
        subst hc1
        refine ⟨(i + 1, T, left - 4, 0), ⟨by show i + 1 ≤ sq.length; omega, ht, hgt, hnew, X', st', hra'⟩, by show sq.length - (i + 1) < sq.length - i; omega, weak_of rfl ?_ rfl (Nat.zero_le _)⟩
        show envOK _ [_, _, (5, .one (.c (vI (rankA h l S (i + 1))))), _, _, _, _, _]
        rw [hrn hks]
        repeat' first
          | exact rfl
          | exact trivial
          | apply And.intro
          | exact congrArg (fun m => SV.one (V1.c (vI m))) hwi
          | exact congrArg (fun m => SV.one (V1.c (vI m))) hwl
      · cases hnx'
    · have hkk : decide (((k + 1 : Nat) : Int) < (s : Int)) = false := by assumption
      have hks : k + 1 = s := by simp at hkk; omega
      have hs4' : s ≠ 4 := by simp at hb; omega
      have hput := stPut_ok st h left y s (Nat.lt_of_lt_of_le hrep.lt (pow_le256 hh.2.1)) hh.2.1 (by omega) (by omega) h1 (by omega)
      have hnx' := hnx
      unfold nx at hnx'
      rw [if_neg hs4'] at hnx'
      simp only [Option.map_eq_some_iff, Prod.mk.injEq] at hnx'
      obtain ⟨t, ht1, rfl, rfl⟩ := hnx'
      have hpv : putV h left st y s = ((t : Int), true) := by unfold putV; rw [ht1]
      rw [hpv] at hput
      repeat' first
        | exact True.intro
        | (refine draw_mkF ?_ ?_ ?_; (focus (decide +kernel)); (focus (kernel_rfl)); conv => whnf)
        | (refine Both.mk ?_ ?_ <;> conv => whnf)
        | (refine NilQ.mk (fun hnil => ?_) ?_ <;> conv => whnf)
        | (refine draw_mk (by kernel_rfl) ?_; conv => whnf)
        | (refine Br.mk (fun hb => ?_) (fun hb => ?_) <;> conv => whnf)
        | (refine call_sn ?_ (hput) ?_; (focus ((repeat' first | exact snapRow | exact snap_row (by simp; done) | exact rfl | exact trivial | apply And.intro | omega | (simp; done)); done)); conv => whnf)
        | (refine callP_sn ?_ (hput) ?_; (focus ((repeat' first | exact snapRow | exact snap_row (by simp; done) | exact rfl | exact trivial | apply And.intro | omega | (simp; done)); done)); conv => whnf)
        | (refine And.intro ?_ ?_; (focus (first | decide | omega | (simp at *; omega) | (simp_all; done))); conv => whnf)
      refine ⟨(i + 1, T, left, t), ⟨by show i + 1 ≤ sq.length; omega, ht, hgt, hnew, X', st', hra'⟩, by show sq.length - (i + 1) < sq.length - i; omega, weak_of rfl ?_ rfl (Nat.zero_le _)⟩
      show envOK _ [_, _, (5, .one (.c (vI (rankA h l S (i + 1))))), _, _, _, _, _]
      rw [hrn hks]
      repeat' first
        | exact rfl
        | exact trivial
        | apply And.intro
        | exact congrArg (fun m => SV.one (V1.c (vI m))) hwi
  · obtain rfl : i = sq.length := by simp at hb; omega
    exact ⟨⟨rfl, rfl, trivial⟩, by simp [refVs, refCV]⟩

noncomputable def rankR (w h : Int) (sq : List (Int × Int × Int)) : Int × Bool := if wholeB w h sq then (rankA h.toNat w.toNat (sortI ltXY sq) sq.length, true) else (0, false)

theorem whole_nat {w h : Int} {sq : List (Int × Int × Int)} (hw : wholeB w h sq = true) : ∃ a b : Nat, w = a ∧ h = b := by
  have hg : goodCutB w h sq = true := by simp only [wholeB, Bool.and_eq_true] at hw; exact hw.1
  obtain ⟨a, b, h1, h2, _⟩ := good_facts hg
  exact ⟨a, b, h1, h2⟩

theorem implRank (w h : Int) (sq : List (Int × Int × Int)) (hn : sq.length ≤ 2 ^ 40) : Fn G.P 50 [.agg (dCut w h sq)] (.tup [aI (rankR w h sq).1, aB (rankR w h sq).2]) := by
  unfold rankR
  by_cases hw : wholeB w h sq = true
  · rw [if_pos hw]
    obtain ⟨a, b, rfl, rfl⟩ := whole_nat hw
    exact implRank_yes a b sq hw
  · rw [if_neg hw]
    have hw0 : wholeB w h sq = false := by simpa using hw
    refine fn_of_body (G := G) Try.func50 rfl (by decide) (Nat.le_of_ble_eq_true rfl) ?_
    conv => whnf
    repeat' first
      | exact True.intro
      | (refine draw_mkF ?_ ?_ ?_; (focus (decide +kernel)); (focus (kernel_rfl)); conv => whnf)
      | (refine Both.mk ?_ ?_ <;> conv => whnf)
      | (refine NilQ.mk (fun hnil => ?_) ?_ <;> conv => whnf)
      | (refine draw_mk (by kernel_rfl) ?_; conv => whnf)
      | (refine Br.mk (fun hb => ?_) (fun hb => ?_) <;> conv => whnf)
      | (refine call_sn ?_ (isStrip_ok ?_ ?_ ?_ ?_) ?_; (focus ((repeat' first | exact snapRow | exact snap_row (by simp; done) | exact rfl | exact trivial | apply And.intro | omega | (simp; done)); done)); assumption; conv => whnf)
      | (refine callP_sn ?_ (isStrip_ok ?_ ?_ ?_ ?_) ?_; (focus ((repeat' first | exact snapRow | exact snap_row (by simp; done) | exact rfl | exact trivial | apply And.intro | omega | (simp; done)); done)); assumption; conv => whnf)
    · exact ⟨⟨rfl, rfl, trivial⟩, by simp [refVs, refCV]⟩
    all_goals (exfalso; simp_all; done)

theorem specRank (w h : Int) (sq : List (Int × Int × Int)) (hn : sq.length ≤ 2 ^ 40) : Fn G.P 49 [.agg (dCut w h sq)] (.tup [aI (rankR w h sq).1, aB (rankR w h sq).2]) := by
  unfold rankR
  by_cases hw : wholeB w h sq = true
  · rw [if_pos hw]
    obtain ⟨a, b, rfl, rfl⟩ := whole_nat hw
    exact specRank_yes a b sq hw
  · rw [if_neg hw]
    have hw0 : wholeB w h sq = false := by simpa using hw
    refine fn_of_body (G := G) Try.func49 rfl (by decide) (Nat.le_of_ble_eq_true rfl) ?_
    conv => whnf
    repeat' first
      | exact True.intro
      | (refine draw_mkF ?_ ?_ ?_; (focus (decide +kernel)); (focus (kernel_rfl)); conv => whnf)
      | (refine Both.mk ?_ ?_ <;> conv => whnf)
      | (refine NilQ.mk (fun hnil => ?_) ?_ <;> conv => whnf)
      | (refine draw_mk (by kernel_rfl) ?_; conv => whnf)
      | (refine Br.mk (fun hb => ?_) (fun hb => ?_) <;> conv => whnf)
      | (refine call_sn ?_ (stGood_ok ?_ ?_ ?_ ?_) ?_; (focus ((repeat' first | exact snapRow | exact snap_row (by simp; done) | exact rfl | exact trivial | apply And.intro | omega | (simp; done)); done)); assumption; conv => whnf)
      | (refine callP_sn ?_ (stGood_ok ?_ ?_ ?_ ?_) ?_; (focus ((repeat' first | exact snapRow | exact snap_row (by simp; done) | exact rfl | exact trivial | apply And.intro | omega | (simp; done)); done)); assumption; conv => whnf)
    · exact ⟨⟨rfl, rfl, trivial⟩, by simp [refVs, refCV]⟩
    all_goals (exfalso; simp_all; done)

theorem rankLaw_ok (w h : Int) (sq : List (Int × Int × Int)) (hn : sq.length ≤ maxLen) : Fn G.P 8 [.agg (dCut w h sq)] (.one (aB true)) := by
  have hs := fun hn => specRank w h sq hn
  have hi := fun hn => implRank w h sq hn
  generalize rankR w h sq = r at hs hi
  obtain ⟨RR, t⟩ := r
  dsimp only at hs hi
  have hl0 : (0 : Int) ≤ 1048576 ∧ (1048576 : Int) ≤ 1048576 := by omega
  refine fn_of_body (G := G) Try.func8 rfl (by decide) (Nat.le_of_ble_eq_true rfl) ?_
  conv => whnf
  repeat' first
    | exact True.intro
    | (refine Both.mk ?_ ?_ <;> conv => whnf)
    | (refine NilQ.mk (fun hnil => ?_) ?_ <;> conv => whnf)
    | (refine Br.mk (fun hb => ?_) (fun hb => ?_) <;> conv => whnf)
    | (refine call_sn ?_ (szCut_ok ?_ ?_ ?_ ?_ ?_ ?_) ?_; (focus ((repeat' first | exact snapRow | exact snap_row (by simp; done) | exact rfl | exact trivial | apply And.intro | omega | (simp; done)); done)); assumption; assumption; conv => whnf)
    | (refine callP_sn ?_ (szCut_ok ?_ ?_ ?_ ?_ ?_ ?_) ?_; (focus ((repeat' first | exact snapRow | exact snap_row (by simp; done) | exact rfl | exact trivial | apply And.intro | omega | (simp; done)); done)); assumption; assumption; conv => whnf)
    | (refine And.intro ?_ ?_; (focus (first | decide | omega | (simp at *; omega) | (simp_all; done))); conv => whnf)
  · exact ⟨⟨rfl, trivial⟩, by simp [refVs, refCV]⟩
  have hn1 : sq.length ≤ 2 ^ 20 := by
    by_cases hc : sq.length ≤ (1048576 : Int)
    · omega
    · simp [hc] at hb
  clear hb hn
  have hn2 : sq.length ≤ 2 ^ 40 := by omega
  have hs := hs hn2
  have hi := hi hn2
  have heq0 := eqCut_ok w h sq w h sq hn2
  repeat' first
    | exact True.intro
    | (refine Both.mk ?_ ?_ <;> conv => whnf)
    | (refine NilQ.mk (fun hnil => ?_) ?_ <;> conv => whnf)
    | ((fail_if_success (refine draw_mkF ?_ ?_ ?_; (focus (decide +kernel)))); refine draw_mk (by kernel_rfl) ?_; conv => whnf)
    | (refine Br.mk (fun hb => ?_) (fun hb => ?_) <;> conv => whnf)
    | (refine call_sn ?_ (toCut_ok ?_ ?_ ?_ ?_) ?_; (focus ((repeat' first | exact snapRow | exact snap_row (by simp; done) | exact rfl | exact trivial | apply And.intro | omega | (simp; done)); done)); assumption; conv => whnf)
    | (refine callP_sn ?_ (toCut_ok ?_ ?_ ?_ ?_) ?_; (focus ((repeat' first | exact snapRow | exact snap_row (by simp; done) | exact rfl | exact trivial | apply And.intro | omega | (simp; done)); done)); assumption; conv => whnf)
    | (refine call_sn ?_ (hs) ?_; (focus ((repeat' first | exact snapRow | exact snap_row (by simp; done) | exact rfl | exact trivial | apply And.intro | omega | (simp; done)); done)); conv => whnf)
    | (refine callP_sn ?_ (hs) ?_; (focus ((repeat' first | exact snapRow | exact snap_row (by simp; done) | exact rfl | exact trivial | apply And.intro | omega | (simp; done)); done)); conv => whnf)
    | (refine call_sn ?_ (hi) ?_; (focus ((repeat' first | exact snapRow | exact snap_row (by simp; done) | exact rfl | exact trivial | apply And.intro | omega | (simp; done)); done)); conv => whnf)
    | (refine callP_sn ?_ (hi) ?_; (focus ((repeat' first | exact snapRow | exact snap_row (by simp; done) | exact rfl | exact trivial | apply And.intro | omega | (simp; done)); done)); conv => whnf)
    | (refine call_sn ?_ (heq0) ?_; (focus ((repeat' first | exact snapRow | exact snap_row (by simp; done) | exact rfl | exact trivial | apply And.intro | omega | (simp; done)); done)); conv => whnf)
    | (refine callP_sn ?_ (heq0) ?_; (focus ((repeat' first | exact snapRow | exact snap_row (by simp; done) | exact rfl | exact trivial | apply And.intro | omega | (simp; done)); done)); conv => whnf)
    | (refine And.intro ?_ ?_; (focus (first | decide | omega | (simp at *; omega) | (simp_all; done))); conv => whnf)
  all_goals first | (exfalso; simp at hb; done) | skip
  exact ⟨⟨rfl, trivial⟩, by simp [refVs, refCV]⟩

theorem rankLaw {W : World} {R : Nat → Prop} (ds : List DC) (hg : ∃ us, Good W R [.int .i64, .int .i64, .slice [.int .i64, .int .i64, .int .i64]] ds us) : Fn G.P 8 [.agg ds] (.one (aB true)) := by
  obtain ⟨us, hg⟩ := hg
  obtain ⟨w, h, sq, rfl, hn⟩ := cut_of_good hg
  exact rankLaw_ok w h sq hn

end Go.Proofs.Ytmjaefnmianfpaa

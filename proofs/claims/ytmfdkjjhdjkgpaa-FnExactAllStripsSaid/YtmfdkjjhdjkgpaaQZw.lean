/- The strip of a rank: impl.StripOfRank. -/
import Derived.Test.YtmfdkjjhdjkgpaaQQrank
import Derived.Test.YtmfdkjjhdjkgpaaQMst
import Derived.Test.YtmfdkjjhdjkgpaaQNst
import Derived.Test.YtmfdkjjhdjkgpaaQFcof
import Derived.Test.YtmfdkjjhdjkgpaaQOst
import Derived.Test.YtmfdkjjhdjkgpaaQSst
import Derived.Test.YtmfdkjjhdjkgpaaQZf
namespace Go.Proofs.Ytmfdkjjhdjkgpaa
open Go Go.RowKit
set_option maxRecDepth 10000
set_option maxHeartbeats 4000000
set_option linter.unusedSimpArgs false

theorem implRanked_yes (h l : Nat) (r : Int) (hh : 1 ≤ h ∧ h < 5) (hl : 1 ≤ l ∧ l ≤ 30) (hr : 0 ≤ r ∧ r < (Cn h l 0 : Nat)) :
    Fn G.P 47 [aI h, aI l, aI r] (.tup [.agg (dCut (cofL h (ranked h l r)).1.1 (cofL h (ranked h l r)).1.2.1 (cofL h (ranked h l r)).1.2.2), aB (cofL h (ranked h l r)).2]) := by
  have hc := implCount h l
  have hsm := Cn_any (left := l) (st := 0) hh hl.2 (Nat.pow_pos (by omega))
  have e1 : countR h l = (((Cn h l 0 : Nat) : Int), true) := by
    unfold countR
    rw [if_pos (by simp only [stripB, inB, Bool.and_eq_true, decide_eq_true_eq]; omega)]
    rw [Int.toNat_natCast, Int.toNat_natCast, Vw_Cn, wrap_i64 _ (by omega) (by omega)]
  rw [e1] at hc
  have hin : inB r 0 (IntKind.i64.wrap (((Cn h l 0 : Nat) : Int) - 1)) = true := by
    rw [wrap_i64 _ (by omega) (by omega)]
    simp only [inB, decide_eq_true_eq]
    omega
  refine fn_of_body (G := G) Try.func47 rfl (by decide) (Nat.le_of_ble_eq_true rfl) ?_
  conv => whnf
  repeat' first
    | exact True.intro
    | (refine draw_mkF ?_ ?_ ?_; (focus (decide +kernel)); (focus (kernel_rfl)); conv => whnf)
    | (refine Both.mk ?_ ?_ <;> conv => whnf)
    | (refine OwnQ.own ?_; conv => whnf)
    | (refine NilQ.mk (fun hnil => ?_) ?_ <;> conv => whnf)
    | (refine draw_mk (by kernel_rfl) ?_; conv => whnf)
    | (refine Br.mk (fun hb => ?_) (fun hb => ?_) <;> conv => whnf)
    | (refine call_sn ?_ (hc) ?_; (focus ((repeat' first | exact snapRow | exact snap_row (by simp; done) | exact rfl | exact trivial | apply And.intro | omega | (simp; done)); done)); conv => whnf)
    | (refine callP_sn ?_ (hc) ?_; (focus ((repeat' first | exact snapRow | exact snap_row (by simp; done) | exact rfl | exact trivial | apply And.intro | omega | (simp; done)); done)); conv => whnf)
    | (refine call_sn ?_ (within_ok ?_ ?_ ?_) ?_; (focus ((repeat' first | exact snapRow | exact snap_row (by simp; done) | exact rfl | exact trivial | apply And.intro | omega | (simp; done)); done)); conv => whnf)
    | (refine callP_sn ?_ (within_ok ?_ ?_ ?_) ?_; (focus ((repeat' first | exact snapRow | exact snap_row (by simp; done) | exact rfl | exact trivial | apply And.intro | omega | (simp; done)); done)); conv => whnf)
    | (refine call_body (G := G) Try.func92 rfl (by decide) (Nat.le_of_ble_eq_true rfl) ?_; conv => whnf)
    | (refine callP_text (call_body (G := G) Try.func92 rfl (by decide) (Nat.le_of_ble_eq_true rfl) ?_); conv => whnf)
    | (refine And.intro ?_ ?_; (focus (first | decide | omega | (simp at *; omega) | (simp_all; done))); conv => whnf)
  · exfalso; simp [hin] at hb
  clear hb hc hin e1
  refine .inl ⟨Nat × List Nat × Int × List Int × List (List Int × DV), fun x => 200 - x.1, fun x => GoodY h l x.2.2.2.2 ∧ ∃ X st, RkAt h l r x.1 x.2.1 x.2.2.1 x.2.2.2.1 X st,
    fun x => ⟨[(0, .one (.c (vI h))), (1, .one (.c (vI l))), (2, .one (.c (vI x.2.2.1))), (6, .one (.c (.ptr 0 0 0))), (7, .one (.c (.d (.v (.bool false))))), (10, .one (.c (.ptr 4 0 0))), (11, .one (.c (.ptr 5 0 0))), (12, .one (.c (.sl 3 0 1 0 x.1 none)))],
      [(0, .box [.d (dI 0), .d (dI 0), .nilsl]), (0, .box [.d (dI h), .d (dI l), .mp 2 0]), (0, .map 4 x.2.2.2.2), (0, .arr 1 (x.2.2.2.1.map r1)), (0, .box [.d (dI h), .d (dI l), .mp 2 0]),
        (0, .box [.d (dI (x.2.1.getD 0 0 : Nat)), .d (dI (x.2.1.getD 1 0 : Nat)), .d (dI (x.2.1.getD 2 0 : Nat)), .d (dI (x.2.1.getD 3 0 : Nat))])], _⟩,
    (0, [0, 0, 0, 0], r, [], []), ⟨(fun _ _ _ _ _ _ _ _ _ hl => by cases hl), 0, 0, rk_start hh hl.2 hr⟩, weak_cap.trans (weak_of rfl ?_ rfl (Nat.zero_le _)), ?_⟩
  · (repeat' first | exact rfl | exact trivial | apply And.intro | (simp [getE]; done))
  rintro ⟨i, R, r', L, es⟩ ⟨hes, X, st, hk⟩
  dsimp only at hes hk ⊢
  have him := hk.many hh.2 hl.2
  have hLi := hk.len
  obtain ⟨a, b, c, d, rfl⟩ : ∃ a b c d, R = [a, b, c, d] := ⟨_, _, _, _, four hk.four⟩
  simp only [List.getD_cons_zero, List.getD_cons_succ]
  obtain ⟨y, hy⟩ := Option.isSome_iff_exists.1 hk.at_.free
  have hat := hk.at_
  have hX := hk.le
  conv => whnf
  refine frameN [2] (next_x es hh.2 hat hy (by omega)) rfl (by decide) ⟨rfl, rfl⟩ rfl ?_
  rintro _ _ ⟨rfl, gs, rfl⟩
  refine ⟨[_], gs, rfl, Nat.le_refl _, rfl, ?_⟩
  conv => whnf
  obtain ⟨er, ex⟩ := at_row hat hy
  have hyh := (freeS_spec hy).1
  refine Br.mk (fun hb => ?_) (fun hb => ?_) <;> conv => whnf
  · have hXl : X = l := by simp at hb; omega
    subst hXl
    have hend := rk_end hh.2 hl.2 hk
    have hi0 : 1 ≤ L.length := by
      rcases Nat.eq_zero_or_pos i with e | e
      · exfalso
        have h0 := hk.eq
        rw [e] at h0
        have h1 : ([0, 0, 0, 0] : List Nat) = [a, b, c, d] := congrArg Prod.fst h0
        rw [← h1] at ex
        have : y = 0 ∨ y = 1 ∨ y = 2 ∨ y = 3 := by omega
        rcases this with rfl | rfl | rfl | rfl <;> simp at ex <;> omega
      · omega
    have hf := filled_ok h L hh (by omega) hi0 hk.side
    rw [hend]
    generalize cofL h L = C at hf
    obtain ⟨⟨cw, ch, cl⟩, cb⟩ := C
    have e : i = (L.map r1).length := by simp [hLi]
    rw [e]
    clear e hLi him hk hend hat
    repeat' first
      | exact True.intro
      | (refine draw_mkF ?_ ?_ ?_; (focus (decide +kernel)); (focus (kernel_rfl)); conv => whnf)
      | (refine Both.mk ?_ ?_ <;> conv => whnf)
      | (refine OwnQ.own ?_; conv => whnf)
      | (refine NilQ.mk (fun hnil => ?_) ?_ <;> conv => whnf)
      | (refine draw_mk (by kernel_rfl) ?_; conv => whnf)
      | (refine Br.mk (fun hb => ?_) (fun hb => ?_) <;> conv => whnf)
      | (refine call_sn ?_ (hf) ?_; (focus ((repeat' first | exact snapRow | exact snap_row (by simp; done) | exact rfl | exact trivial | apply And.intro | omega | (simp; done)); done)); conv => whnf)
      | (refine callP_sn ?_ (hf) ?_; (focus ((repeat' first | exact snapRow | exact snap_row (by simp; done) | exact rfl | exact trivial | apply And.intro | omega | (simp; done)); done)); conv => whnf)
      | (refine And.intro ?_ ?_; (focus (first | decide | omega | (simp at *; omega) | (simp_all; done))); conv => whnf)
    exact ⟨⟨⟨rfl, rfl, res_cell (by simp [objAt]) (by simp) r3_flat, trivial⟩, rfl, trivial⟩, by simp [refVs, refCV, refCs]⟩
  have hXl : X < l := by simp at hb; omega
  obtain ⟨s, hp⟩ := pick_ex hh hl.2 hXl hat hy hk.hi
  have hpm := hp.le
  rw [ex] at hpm
  have hs4 : s ≤ h := Nat.le_trans hpm (mst_le hh.2)
  have hr'b : r' ≤ 205891132094649 := by
    have := waysA_Cn hh hl.2 hat
    have := hk.hi
    omega
  refine .inl ⟨Nat × List (List Int × DV), fun x => s - x.1, fun x => x.1 + 1 ≤ s ∧ GoodY h l x.2 ∧ pkI h l [a, b, c, d] y r' x.1 ≤ r',
    fun x => ⟨[(0, .one (.c (vI h))), (1, .one (.c (vI l))), (2, .one (.c (vI (pkI h l [a, b, c, d] y r' x.1)))), (6, .one (.c (.ptr 0 0 0))), (7, .one (.c (.d (.v (.bool false))))), (10, .one (.c (.ptr 4 0 0))), (11, .one (.c (.ptr 5 0 0))), (12, .one (.c (.sl 3 0 1 0 i none))), (14, .one (.c (vI y))), (15, .one (.c (vI (mst h l X [a, b, c, d] y : Nat)))), (16, .one (.c (vI ((x.1 + 1 : Nat) : Int))))],
      [(0, .box [.d (dI 0), .d (dI 0), .nilsl]), (0, .box [.d (dI h), .d (dI l), .mp 2 0]), (0, .map 4 x.2), (0, .arr 1 (L.map r1)), (0, .box [.d (dI h), .d (dI l), .mp 2 0]),
        (0, .box [.d (dI a), .d (dI b), .d (dI c), .d (dI d)])], _⟩,
    (0, es), ⟨hp.pos, hes, Int.le_refl _⟩, weak_of rfl ?_ rfl (Nat.zero_le _), ?_⟩
  · (repeat' first | exact rfl | exact trivial | apply And.intro | (simp [getE]; done))
  clear hes
  rintro ⟨k, es⟩ ⟨hks, hes, hpk⟩
  dsimp only at hks hes hpk ⊢
  conv => whnf
  refine Br.mk (fun hb1 => ?_) (fun hb1 => ?_) <;> conv => whnf
  · have hkm : k + 1 ≤ mst h l X [a, b, c, d] y := by omega
    obtain ⟨X2, st2, l2, s2, n1, hat2, hX2, _⟩ := put_at (1 : Int) 0 (stepV 0) hh.2 hl.2 hX hat hy (by omega) hkm
    obtain ⟨_, _, _, hW, hWb⟩ := put_ways hh hl.2 hX hat hy (by omega) hkm
    obtain ⟨a', b', c', d', hR'⟩ : ∃ a' b' c' d', putR [a, b, c, d] y (k + 1) = [a', b', c', d'] := ⟨_, _, _, _, four (by simp [putR])⟩
    have hyk := (mst_iff hh.2).1 hkm k (by omega)
    have hput := put4_x (by omega) (by have := hyk.1; omega) hat.small hR'
    have hwa : waysA h l (putR [a, b, c, d] y (k + 1)) = IntKind.i64.wrap (Vw 0 h (l - X2) st2) := waysA_eq hh.2 hat2
    have hstep : k + 1 = s → ∃ X' st' p q, nx h (l - X) st y (k + 1) = some (p, q) ∧ RkAt h l r (i + 1) [a', b', c', d'] (pkI h l [a, b, c, d] y r' k) (L ++ [((k + 1 : Nat) : Int)]) X' st' := fun e => by
      have := rk_step hh hl.2 hk hy hp
      rw [← e, hR'] at this
      exact this
    rw [hR'] at hat2
    have hcnt := count_rec hh hl.2 1000 a' b' c' d' X2 st2 es hat2 hX2 (Nat.lt_of_lt_of_le (mu_small hh.2 (by omega)) (by omega)) hes
    have hts := tally_sum h (l - X2) st2
    have htl := Tw_len h (l - X2) st2
    generalize Tw h (l - X2) st2 = T at hcnt hts htl
    obtain ⟨oby, o0, o1, o2, o3, o4⟩ := T
    dsimp only at hts htl
    have hsum := sum_list oby (Nat.le_trans htl (by decide))
    rw [hts, ← hwa] at hsum
    have hpass := hp.pass k
    have hpt : k + 1 = s → pkI h l [a, b, c, d] y r' k < waysA h l (putR [a, b, c, d] y (k + 1)) := fun e => by
      have := hp.take
      rw [← e, Nat.add_sub_cancel] at this
      exact this
    have hpi : pkI h l [a, b, c, d] y r' (k + 1) = pkI h l [a, b, c, d] y r' k - waysA h l (putR [a, b, c, d] y (k + 1)) := rfl
    have hplo := pick_lo hp hk.lo k (by omega)
    generalize waysA h l (putR [a, b, c, d] y (k + 1)) = W at hW hsum hpass hpi hpt
    have hwk : IntKind.i64.wrap (((k + 1 : Nat) : Int) + 1) = ((k + 1 + 1 : Nat) : Int) := by rw [wrap_i64 _ (by omega) (by omega)]; omega
    refine call_sn (by repeat' first | exact rfl | exact trivial | apply And.intro) hput ?_
    conv => whnf
    refine frameN [2] hcnt rfl (by decide) ⟨rfl, rfl⟩ rfl ?_
    rintro _ _ ⟨rfl, es3, gs3, hes3, rfl⟩
    refine ⟨[_], gs3, rfl, Nat.le_refl _, rfl, ?_⟩
    conv => whnf
    refine call_sn (by repeat' first | exact rfl | exact trivial | apply And.intro) hsum ?_
    conv => whnf
    refine Br.mk (fun hb2 => ?_) (fun hb2 => ?_) <;> conv => whnf
    · have hlt : pkI h l [a, b, c, d] y r' k < W := by simpa using hb2
      have hks' : k + 1 = s := by
        rcases Nat.lt_or_ge (k + 1) s with g | g
        · have := hpass g; omega
        · omega
      obtain ⟨X', st', _, _, _, hk'⟩ := hstep hks'
      clear hstep hpass hpi hp hpt hcnt hsum hts htl hput
      repeat' first
        | (refine draw_mkW (by kernel_rfl) ?_; conv => whnf)
        | exact True.intro
        | (refine Both.mk ?_ ?_ <;> conv => whnf)
        | (refine OwnQ.own ?_; conv => whnf)
        | (refine NilQ.mk (fun hnil => ?_) ?_ <;> conv => whnf)
        | (refine Br.mk (fun hb => ?_) (fun hb => ?_) <;> conv => whnf)
        | (refine And.intro ?_ ?_; (focus (first | decide | omega | (simp [contentOK, objRd, objAt, peel, List.length_map, hLi]; done) | (simp [contentOK, objRd, objAt, peel, List.length_map, hLi]; omega) | (simp [contentOK, objRd, objAt, peel, List.length_map, hLi] at *; omega))); conv => whnf)
        | (refine And.intro ?_ ?_ <;> conv => whnf)
      all_goals
        refine ⟨(i + 1, [a', b', c', d'], pkI h l [a, b, c, d] y r' k, L ++ [((k + 1 : Nat) : Int)], es3), ⟨hes3, X', st', hk'⟩, by show 200 - (i + 1) < 200 - i; omega, weak_capver 3 1 0 ?_ ?_ rfl rfl (Nat.zero_le _) (Nat.zero_le _)⟩
        · rw [app_one (f := r1) (v := [dI ((k + 1 : Nat) : Int)]) ((k + 1 : Nat) : Int) hLi.symm rfl]
          rfl
        · (repeat' first | exact rfl | exact trivial | apply And.intro | (simp [getE]; done))
    · have hge : W ≤ pkI h l [a, b, c, d] y r' k := by simpa using hb2
      have hks' : k + 1 < s := by
        rcases Nat.lt_or_ge (k + 1) s with g | g
        · exact g
        · exfalso
          have := hpt (by omega)
          omega
      have hws : IntKind.i64.wrap (pkI h l [a, b, c, d] y r' k - W) = pkI h l [a, b, c, d] y r' (k + 1) := by rw [hpi, wrap_i64 _ (by omega) (by omega)]
      refine ⟨(k + 1, es3), ⟨by show k + 1 + 1 ≤ s; omega, hes3, by show pkI h l [a, b, c, d] y r' (k + 1) ≤ r'; omega⟩, by show s - (k + 1) < s - k; omega, weak_of rfl ?_ rfl (Nat.zero_le _)⟩
      rw [hws, hwk]
      (repeat' first | exact rfl | exact trivial | apply And.intro | (simp [getE]; done))
  · exfalso
    simp at hb1
    omega

end Go.Proofs.Ytmfdkjjhdjkgpaa

namespace Go.Proofs.Ytmfdkjjhdjkgpaa
open Go Go.RowKit
set_option maxRecDepth 10000
set_option maxHeartbeats 4000000
set_option linter.unusedSimpArgs false

theorem stRanked_ok (h l : Nat) (r : Int) (hh : 1 ≤ h ∧ h < 5) (hl : 1 ≤ l ∧ l ≤ 30) (hr : 0 ≤ r ∧ r < (Cn h l 0 : Nat)) :
    Fn G.P 45 [aI h, aI l, aI r] (.one (.c (.list 1 ((ranked h l r).map r1)))) := by
  refine fn_of_body (G := G) Try.func45 rfl (by decide) (Nat.le_of_ble_eq_true rfl) ?_
  conv => whnf
  refine ways_c (h := h) (L := l) (wo := 0) hh hl.2 fun T ht hgt => ?_
  conv => whnf
  refine .inl ⟨Nat × List Nat × Int × List Int × List (List Int) × Nat × Nat, fun x => 200 - x.1 + x.2.2.2.2.2.1,
    fun x => TabL h l x.2.2.2.2.1 ∧ GoodT h 0 x.2.2.2.2.1 ∧ RepS l h x.2.1 x.2.2.2.2.2.1 x.2.2.2.2.2.2 ∧ ∃ X st, RkAt h l r x.1 x.2.1 x.2.2.1 x.2.2.2.1 X st,
    fun x => ⟨[(0, .one (.c (vI h))), (1, .one (.c (vI l))), (2, .one (.c (vI x.2.2.1))), (6, .one (.c .nilsl)), (7, .one (.c (.sl 0 0 1 0 (l + 1) none))), (8, .one (.c (.sl 1 0 1 0 x.1 none))), (9, .one (.c (vI x.2.2.2.2.2.2))), (10, .one (.c (vI x.2.2.2.2.2.1)))],
      [(0, .grid 1 (gx x.2.2.2.2.1)), (0, .arr 1 (x.2.2.2.1.map r1))], _⟩,
    (0, [0, 0, 0, 0], r, [], T, l, 0), ⟨ht, hgt, rep_start hh.2, 0, 0, rk_start hh hl.2 hr⟩,
    weak_cap.trans (weak_nilof (t := [(0, .grid 1 (gx T))]) 1 1 rfl ?_ rfl rfl rfl (Nat.zero_le _) (Nat.zero_le _)), ?_⟩
  · (repeat' first | exact rfl | exact trivial | apply And.intro | (simp [getE]; done))
  clear ht hgt
  rintro ⟨i, R, r', L, T, left, st0⟩ ⟨ht, hgt, hrep, X, st, hk⟩
  dsimp only at ht hgt hrep hk ⊢
  have him := hk.many hh.2 hl.2
  have hLi := hk.len
  have hll := hrep.le
  obtain ⟨y, hy⟩ := Option.isSome_iff_exists.1 hk.at_.free
  have hat := hk.at_
  have hX := hk.le
  obtain ⟨er, ex⟩ := at_row hat hy
  have hyh := (freeS_spec hy).1
  have h256 : st0 < 256 := Nat.lt_of_lt_of_le hrep.lt (pow_le256 hh.2)
  have hfree := stFree_ok st0 h h256 hh.2
  conv => whnf
  refine Br.mk (fun hb0 => ?_) (fun hb0 => ?_) <;> conv => whnf
  · have hl0 : 0 < left := by simp at hb0; omega
    repeat' first
      | exact True.intro
      | (refine draw_mkF ?_ ?_ ?_; (focus (decide +kernel)); (focus (kernel_rfl)); conv => whnf)
      | (refine Both.mk ?_ ?_ <;> conv => whnf)
      | (refine OwnQ.own ?_; conv => whnf)
      | (refine NilQ.mk (fun hnil => ?_) ?_ <;> conv => whnf)
      | (refine draw_mk (by kernel_rfl) ?_; conv => whnf)
      | (refine Br.mk (fun hb => ?_) (fun hb => ?_) <;> conv => whnf)
      | (refine call_sn ?_ (hfree) ?_; (focus ((repeat' first | exact snapRow | exact snap_row (by simp; done) | exact rfl | exact trivial | apply And.intro | omega | (simp; done)); done)); conv => whnf)
      | (refine callP_sn ?_ (hfree) ?_; (focus ((repeat' first | exact snapRow | exact snap_row (by simp; done) | exact rfl | exact trivial | apply And.intro | omega | (simp; done)); done)); conv => whnf)
      | (refine And.intro ?_ ?_; (focus (first | decide | omega | (simp at *; omega) | (simp_all; done))); conv => whnf)
    · have hno : freeS h st0 = none := by
        unfold freeI at hb
        cases hf2 : freeS h st0 with
        | none => rfl
        | some r => rw [hf2] at hb; simp at hb; omega
      obtain ⟨k1, k2, k3⟩ := rep_shift hh hrep hno
      have hsh := stShift_ok st0 h h256 hh.2 k2
      have hwl : IntKind.i64.wrap ((left : Int) - 1) = ((left - 1 : Nat) : Int) := by rw [wrap_i64 _ (by omega) (by omega)]; omega
      repeat' first
        | exact True.intro
        | (refine draw_mkF ?_ ?_ ?_; (focus (decide +kernel)); (focus (kernel_rfl)); conv => whnf)
        | (refine Both.mk ?_ ?_ <;> conv => whnf)
        | (refine OwnQ.own ?_; conv => whnf)
        | (refine NilQ.mk (fun hnil => ?_) ?_ <;> conv => whnf)
        | (refine draw_mk (by kernel_rfl) ?_; conv => whnf)
        | (refine Br.mk (fun hb => ?_) (fun hb => ?_) <;> conv => whnf)
        | (refine call_sn ?_ (hsh) ?_; (focus ((repeat' first | exact snapRow | exact snap_row (by simp; done) | exact rfl | exact trivial | apply And.intro | omega | (simp; done)); done)); conv => whnf)
        | (refine callP_sn ?_ (hsh) ?_; (focus ((repeat' first | exact snapRow | exact snap_row (by simp; done) | exact rfl | exact trivial | apply And.intro | omega | (simp; done)); done)); conv => whnf)
        | (refine And.intro ?_ ?_; (focus (first | decide | omega | (simp at *; omega) | (simp_all; done))); conv => whnf)
      refine ⟨(i, R, r', L, T, left - 1, st0 - onesS 0 h), ⟨ht, hgt, k3, X, st, hk⟩, by show 200 - i + (left - 1) < 200 - i + left; omega, weak_of rfl ?_ rfl (Nat.zero_le _)⟩
      repeat' first
        | exact rfl
        | exact trivial
        | apply And.intro
        | exact congrArg (fun m => SV.one (V1.c (vI m))) hwl
    have hsome : (freeS h st0).isSome = true := by
      unfold freeI at hb
      cases hf2 : freeS h st0 with
      | none => rw [hf2] at hb; simp at hb
      | some r => rfl
    obtain ⟨rfl, rfl⟩ := rep_at hh.2 hrep hsome hat
    have hfy : freeI h st = (y : Int) := by unfold freeI; rw [hy]
    have e1 : l - (l - left) = left := by omega
    rw [hfy]
    obtain ⟨s, hp⟩ := pick_ex hh hl.2 (by omega) hat hy hk.hi
    have hpm := hp.le
    rw [ex] at hpm
    have hs1 := hp.pos
    have hs4 : s ≤ h := Nat.le_trans hpm (mst_le hh.2)
    have hr'b : r' ≤ 205891132094649 := by
      have := waysA_Cn hh hl.2 hat
      have := hk.hi
      omega
    obtain ⟨X', st', p, q, hnx, hk'⟩ := rk_step hh hl.2 hk hy hp
    rw [e1] at hnx
    have hnew := rep_nx hh hrep hy ⟨hs1, hs4⟩ hnx hat.le
    refine .inl ⟨Nat × List (List Int), fun x => s - x.1, fun x => x.1 + 1 ≤ s ∧ TabL h l x.2 ∧ GoodT h 0 x.2 ∧ pkI h l R y r' x.1 ≤ r',
      fun x => ⟨[(0, .one (.c (vI h))), (1, .one (.c (vI l))), (2, .one (.c (vI (pkI h l R y r' x.1)))), (6, .one (.c .nilsl)), (7, .one (.c (.sl 0 0 1 0 (l + 1) none))), (8, .one (.c (.sl 1 0 1 0 i none))), (9, .one (.c (vI st))), (10, .one (.c (vI left))), (11, .one (.c (vI y))), (12, .one (.c (vI ((x.1 + 1 : Nat) : Int))))],
        [(0, .grid 1 (gx x.2)), (0, .arr 1 (L.map r1))], _⟩,
      (0, T), ⟨hs1, ht, hgt, Int.le_refl _⟩, weak_of rfl ?_ rfl (Nat.zero_le _), ?_⟩
    · (repeat' first | exact rfl | exact trivial | apply And.intro | (simp [getE]; done))
    clear ht hgt
    rintro ⟨k, T⟩ ⟨hks, ht, hgt, hpk⟩
    dsimp only at hks ht hgt hpk ⊢
    conv => whnf
    refine Br.mk (fun hb1 => ?_) (fun hb1 => ?_) <;> conv => whnf
    · have hkm : k + 1 ≤ mst h l (l - left) R y := by omega
      have hnv := nxV_ways hh hl.2 hat hll hy (by omega : 1 ≤ k + 1) hkm
      obtain ⟨_, _, _, hW, hWb⟩ := put_ways hh hl.2 hX hat hy (by omega) hkm
      have hpass := hp.pass k
      have hpt : k + 1 = s → pkI h l R y r' k < waysA h l (putR R y (k + 1)) := fun e => by
        have := hp.take
        rw [← e, Nat.add_sub_cancel] at this
        exact this
      have hpi : pkI h l R y r' (k + 1) = pkI h l R y r' k - waysA h l (putR R y (k + 1)) := rfl
      have hplo := pick_lo hp hk.lo k (by omega)
      have hwk : IntKind.i64.wrap (((k + 1 : Nat) : Int) + 1) = ((k + 1 + 1 : Nat) : Int) := by rw [wrap_i64 _ (by omega) (by omega)]; omega
      refine countSide_c (h := h) (L := l) (wo := 0) (left := left) (st := st) (r := y) (side := k + 1) hh hl.2 hll hrep.lt (by omega) (by omega) (by omega) ht hgt rfl fun T' ht' hg' => ?_
      rw [hnv]
      generalize waysA h l (putR R y (k + 1)) = W at hW hpass hpi hpt
      conv => whnf
      refine Br.mk (fun hb2 => ?_) (fun hb2 => ?_) <;> conv => whnf
      · have hge : W ≤ pkI h l R y r' k := by simpa using hb2
        have hks' : k + 1 < s := by
          rcases Nat.lt_or_ge (k + 1) s with g | g
          · exact g
          · exfalso
            have := hpt (by omega)
            omega
        have hws : IntKind.i64.wrap (pkI h l R y r' k - W) = pkI h l R y r' (k + 1) := by rw [hpi, wrap_i64 _ (by omega) (by omega)]
        refine ⟨(k + 1, T'), ⟨by show k + 1 + 1 ≤ s; omega, ht', hg', by show pkI h l R y r' (k + 1) ≤ r'; omega⟩, by show s - (k + 1) < s - k; omega, weak_of rfl ?_ rfl (Nat.zero_le _)⟩
        rw [hws, hwk]
        (repeat' first | exact rfl | exact trivial | apply And.intro | (simp [getE]; done))
      · have hlt : pkI h l R y r' k < W := by simpa using hb2
        have hks' : k + 1 = s := by
          rcases Nat.lt_or_ge (k + 1) s with g | g
          · have := hpass g; omega
          · omega
        clear hpass hpi hpt hnv
        subst hks'
        rw [Nat.add_sub_cancel] at hk'
        have hput := fun (hs3 : k + 1 < 4) => stPut_ok st h left y (k + 1) h256 hh.2 (by omega) (by omega) (by omega) hs3
        have hnx' := hnx
        unfold nx at hnx'
        repeat' first
          | exact True.intro
          | (refine draw_mkF ?_ ?_ ?_; (focus (decide +kernel)); (focus (kernel_rfl)); conv => whnf)
          | (refine Both.mk ?_ ?_ <;> conv => whnf)
          | (refine OwnQ.own ?_; conv => whnf)
          | (refine NilQ.mk (fun hnil => ?_) ?_ <;> conv => whnf)
          | (refine draw_mk (by kernel_rfl) ?_; conv => whnf)
          | (refine Br.mk (fun hb => ?_) (fun hb => ?_) <;> conv => whnf)
          | (refine And.intro ?_ ?_; (focus (first | decide | omega | (simp [contentOK, objRd, objAt, peel, List.length_map, hLi]; done) | (simp [contentOK, objRd, objAt, peel, List.length_map, hLi]; omega) | (simp [contentOK, objRd, objAt, peel, List.length_map, hLi] at *; omega))); conv => whnf)
        · have hs4' : k + 1 = 4 := by simp at hb; omega
          rw [if_pos hs4'] at hnx'
          split at hnx'
          · rename_i hc
            simp only [Option.some.injEq, Prod.mk.injEq] at hnx'
            obtain ⟨rfl, rfl⟩ := hnx'
            have hwl : IntKind.i64.wrap ((left : Int) - 4) = ((left - 4 : Nat) : Int) := by rw [wrap_i64 _ (by omega) (by omega)]; omega
            obtain ⟨hc1, hc2⟩ := hc
            subst hc1
            refine ⟨(i + 1, putR R y (k + 1), pkI h l R y r' k, L ++ [((k + 1 : Nat) : Int)], T', left - 4, 0), ⟨ht', hg', hnew, X', st', hk'⟩, by show 200 - (i + 1) + (left - 4) < 200 - i + left; omega, weak_capver 1 1 0 ?_ ?_ rfl rfl (Nat.zero_le _) (Nat.zero_le _)⟩
            · rw [app_one (f := r1) (v := [dI ((k + 1 : Nat) : Int)]) ((k + 1 : Nat) : Int) hLi.symm rfl]
              rfl
            · rw [hwl]
              (repeat' first | exact rfl | exact trivial | apply And.intro | (simp [getE]; done))
          · cases hnx'
        · have hs4' : k + 1 ≠ 4 := by simp at hb; omega
          rw [if_neg hs4'] at hnx'
          simp only [Option.map_eq_some_iff, Prod.mk.injEq] at hnx'
          obtain ⟨t, ht1, rfl, rfl⟩ := hnx'
          have hput := hput (by omega)
          have hpv : putV h left st y (k + 1) = ((t : Int), true) := by unfold putV; rw [ht1]
          rw [hpv] at hput
          repeat' first
            | exact True.intro
            | (refine draw_mkF ?_ ?_ ?_; (focus (decide +kernel)); (focus (kernel_rfl)); conv => whnf)
            | (refine Both.mk ?_ ?_ <;> conv => whnf)
            | (refine OwnQ.own ?_; conv => whnf)
            | (refine NilQ.mk (fun hnil => ?_) ?_ <;> conv => whnf)
            | (refine draw_mk (by kernel_rfl) ?_; conv => whnf)
            | (refine Br.mk (fun hb => ?_) (fun hb => ?_) <;> conv => whnf)
            | (refine call_sn ?_ (hput) ?_; (focus ((repeat' first | exact snapRow | exact snap_row (by simp; done) | exact rfl | exact trivial | apply And.intro | omega | (simp; done)); done)); conv => whnf)
            | (refine callP_sn ?_ (hput) ?_; (focus ((repeat' first | exact snapRow | exact snap_row (by simp; done) | exact rfl | exact trivial | apply And.intro | omega | (simp; done)); done)); conv => whnf)
            | (refine And.intro ?_ ?_; (focus (first | decide | omega | (simp at *; omega) | (simp_all; done))); conv => whnf)
          refine ⟨(i + 1, putR R y (k + 1), pkI h l R y r' k, L ++ [((k + 1 : Nat) : Int)], T', left, t), ⟨ht', hg', hnew, X', st', hk'⟩, by show 200 - (i + 1) + left < 200 - i + left; omega, weak_capver 1 1 0 ?_ ?_ rfl rfl (Nat.zero_le _) (Nat.zero_le _)⟩
          · rw [app_one (f := r1) (v := [dI ((k + 1 : Nat) : Int)]) ((k + 1 : Nat) : Int) hLi.symm rfl]
            rfl
          · (repeat' first | exact rfl | exact trivial | apply And.intro | (simp [getE]; done))
    · exfalso
      simp at hb1
      omega
  · have hl0 : left = 0 := by simp at hb0; omega
    subst hl0
    have h1 := hrep.row y hyh
    have h2 := hrep.room y hyh
    have hXl : X = l := by omega
    subst hXl
    rw [rk_end hh.2 hl.2 hk]
    exact res_row rfl (by simp [hLi]) r1_flat

end Go.Proofs.Ytmfdkjjhdjkgpaa

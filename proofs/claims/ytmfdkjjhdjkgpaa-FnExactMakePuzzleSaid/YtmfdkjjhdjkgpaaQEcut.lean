/- Cuts: the program's test. -/
import Derived.Test.YtmfdkjjhdjkgpaaQZg
import Derived.Test.YtmfdkjjhdjkgpaaQZe
namespace Go.Proofs.Ytmfdkjjhdjkgpaa
open Go Go.RowKit
set_option maxRecDepth 10000
set_option linter.unusedSimpArgs false

theorem anyOv (w h : Int) (sq l : List (Int × Int × Int)) (x y s : Int) (hs : smallSq (x, y, s)) (hl : ∀ q ∈ l, smallSq q) (hn : l.length ≤ 2 ^ 40) :
    CallX G.P 133 [.c (.d (.list 3 (l.map r3))), .c (.fn 134 [(1, 0, 0)])]
      [(0, .fro false (.box [.d (dI w), .d (dI h), .d (.list 3 (sq.map r3))])), (0, .fro false (.box [.d (dI x), .d (dI y), .d (dI s)]))] (fun sv _ => sv = .one (.c (vB (l.any fun q => ovB (x, y, s) q)))) := by
  refine call_body (G := G) Try.func133 rfl (by decide) (Nat.le_of_ble_eq_true rfl) ?_
  conv => whnf
  repeat' first
    | exact True.intro
    | (refine draw_mkF ?_ ?_ ?_; (focus (decide +kernel)); (focus (kernel_rfl)); conv => whnf)
    | (refine Both.mk ?_ ?_ <;> conv => whnf)
    | (refine OwnQ.own ?_; conv => whnf)
    | (refine NilQ.mk (fun hnil => ?_) ?_ <;> conv => whnf)
    | (refine draw_mk (by kernel_rfl) ?_; conv => whnf)
    | (refine Br.mk (fun hb => ?_) (fun hb => ?_) <;> conv => whnf)
    | (refine call_body (G := G) Try.func137 rfl (by decide) (Nat.le_of_ble_eq_true rfl) ?_; conv => whnf)
    | (refine callP_text (call_body (G := G) Try.func137 rfl (by decide) (Nat.le_of_ble_eq_true rfl) ?_); conv => whnf)
    | (refine And.intro ?_ ?_; (focus (first | decide | omega | (simp at *; omega) | (simp_all; done))); conv => whnf)
  refine .inl ⟨Nat, fun i => l.length - i, fun i => i ≤ l.length ∧ (l.take i).any (fun q => ovB (x, y, s) q) = false,
    fun i => ⟨[(0, .one (.c (.d (.list 3 (l.map r3))))), (1, .one (.c (.fn 134 [(1, 0, 0)]))), (6, .one (.c (.d (.list 3 (l.map r3))))), (7, .one (.c (vI (l.map r3).length))), (8, .one (.c (vI i)))],
    [(0, .fro false (.box [.d (dI w), .d (dI h), .d (.list 3 (sq.map r3))])), (0, .fro false (.box [.d (dI x), .d (dI y), .d (dI s)]))], _⟩, 0, ⟨Nat.zero_le _, rfl⟩, weak_of rfl ?_ rfl (Nat.le_refl _), fun i hi => ?_⟩
  · (repeat' first | exact rfl | exact trivial | apply And.intro | (simp [getE]; done))
  conv => whnf
  repeat' first
    | exact True.intro
    | (refine draw_mkF ?_ ?_ ?_; (focus (decide +kernel)); (focus (kernel_rfl)); conv => whnf)
    | (refine Both.mk ?_ ?_ <;> conv => whnf)
    | (refine OwnQ.own ?_; conv => whnf)
    | (refine NilQ.mk (fun hnil => ?_) ?_ <;> conv => whnf)
    | (refine draw_mk (by kernel_rfl) ?_; conv => whnf)
    | (refine Br.mk (fun hb => ?_) (fun hb => ?_) <;> conv => whnf)
    | (refine El.mk (fun el hel => ?_); obtain ⟨x', y', s', hk, rfl⟩ := r3_get hel; conv => whnf)
    | (refine call_body (G := G) Try.func134 rfl (by decide) (Nat.le_of_ble_eq_true rfl) ?_; conv => whnf)
    | (refine callP_text (call_body (G := G) Try.func134 rfl (by decide) (Nat.le_of_ble_eq_true rfl) ?_); conv => whnf)
    | (refine And.intro ?_ ?_; (focus (first | decide | omega | (simp at *; omega) | (simp_all; done))); conv => whnf)
  · have hk' : l[i]? = some (x', y', s') := by simpa using hk
    have hsq := hl _ (List.mem_of_getElem? hk')
    repeat' first
      | exact True.intro
      | (refine draw_mkF ?_ ?_ ?_; (focus (decide +kernel)); (focus (kernel_rfl)); conv => whnf)
      | (refine Both.mk ?_ ?_ <;> conv => whnf)
      | (refine OwnQ.own ?_; conv => whnf)
      | (refine NilQ.mk (fun hnil => ?_) ?_ <;> conv => whnf)
      | (refine draw_mk (by kernel_rfl) ?_; conv => whnf)
      | (refine Br.mk (fun hb => ?_) (fun hb => ?_) <;> conv => whnf)
      | (refine call_sn ?_ (overlap_ok3 ?_ ?_ ?_ ?_ ?_ ?_ ?_ ?_) ?_; (focus ((repeat' first | exact snapRow | exact snap_row (by simp; done) | exact rfl | exact trivial | apply And.intro | omega | (simp; done)); done)); assumption; assumption; conv => whnf)
      | (refine callP_sn ?_ (overlap_ok3 ?_ ?_ ?_ ?_ ?_ ?_ ?_ ?_) ?_; (focus ((repeat' first | exact snapRow | exact snap_row (by simp; done) | exact rfl | exact trivial | apply And.intro | omega | (simp; done)); done)); assumption; assumption; conv => whnf)
      | (refine And.intro ?_ ?_; (focus (first | decide | omega | (simp at *; omega) | (simp_all; done))); conv => whnf)
    · have : l.any (fun q => ovB (x, y, s) q) = true := List.any_eq_true.2 ⟨_, List.mem_of_getElem? hk', by assumption⟩
      simp [this]
    · rename_i hlt
      simp only [decide_eq_true_eq, List.length_map] at hlt
      refine ⟨i + 1, ⟨by omega, ?_⟩, by simp; omega, weak_of rfl ?_ rfl (Nat.le_refl _)⟩
      · rw [List.take_add_one, hk', List.any_append, hi.2]
        simpa using hb
      · have := wrap_len (n := i + 1) (by omega)
        simp [envOK, getE]
        simpa using this
  · simp at hb
    have := hi.2
    rw [List.take_of_length_le (by omega)] at this
    simp [this]

theorem place_no {w h x y s : Int} (hw : inB w 1 500 = true) (hh : inB h 1 500 = true) (h1 : inB s 1 (if h < w then h else w) = false) : placeB w h (x, y, s) = false := by
  simp only [inB, decide_eq_true_eq, decide_eq_false_iff_not] at hw hh h1
  simp only [placeB, inB, Bool.and_eq_false_imp, decide_eq_true_eq, decide_eq_false_iff_not]
  split at h1 <;> omega

theorem place_side {w h s : Int} (hw : inB w 1 500 = true) (hh : inB h 1 500 = true) (h1 : inB s 1 (if h < w then h else w) = true) : inB s 1 500 = true ∧ IntKind.i64.wrap (w - s) = w - s ∧ IntKind.i64.wrap (h - s) = h - s := by
  simp only [inB, decide_eq_true_eq] at hw hh h1 ⊢
  have : 1 ≤ s ∧ s ≤ 500 := by split at h1 <;> omega
  exact ⟨this, wrap_i64 _ (by omega) (by omega), wrap_i64 _ (by omega) (by omega)⟩

theorem isCut_ok (w h : Int) (sq : List (Int × Int × Int)) (hn : sq.length ≤ 2 ^ 40) : Fn G.P 100 [.agg (dCut w h sq)] (.one (aB (goodCutB w h sq))) := by
  refine fn_of_body (G := G) Try.func100 rfl (by decide) (Nat.le_of_ble_eq_true rfl) ?_
  conv => whnf
  repeat' first
    | exact True.intro
    | (refine draw_mkF ?_ ?_ ?_; (focus (decide +kernel)); (focus (kernel_rfl)); conv => whnf)
    | (refine Both.mk ?_ ?_ <;> conv => whnf)
    | (refine OwnQ.own ?_; conv => whnf)
    | (refine NilQ.mk (fun hnil => ?_) ?_ <;> conv => whnf)
    | (refine draw_mk (by kernel_rfl) ?_; conv => whnf)
    | (refine Br.mk (fun hb => ?_) (fun hb => ?_) <;> conv => whnf)
    | (refine call_sn ?_ (isWide_ok ?_) ?_; (focus ((repeat' first | exact snapRow | exact snap_row (by simp; done) | exact rfl | exact trivial | apply And.intro | omega | (simp; done)); done)); conv => whnf)
    | (refine callP_sn ?_ (isWide_ok ?_) ?_; (focus ((repeat' first | exact snapRow | exact snap_row (by simp; done) | exact rfl | exact trivial | apply And.intro | omega | (simp; done)); done)); conv => whnf)
    | (refine And.intro ?_ ?_; (focus (first | decide | omega | (simp at *; omega) | (simp_all; done))); conv => whnf)
  · simp at hb
    simp [resOK_iff, resVs, resCell, refVs, refCV, goodCutB, hb]
  · simp at hb
    simp [resOK_iff, resVs, resCell, refVs, refCV, goodCutB, hb]
  · have hbig : inB (sq.length : Int) 1 30 = false := by simp at hb; simp [inB]; omega
    simp [resOK_iff, resVs, resCell, refVs, refCV, goodCutB, hbig]
  rename_i hw hh
  have hw' : inB w 1 500 = true := by simpa using hw
  have hh' : inB h 1 500 = true := by simpa using hh
  have hlen : sq.length ≤ 30 := by simp at hb; omega
  clear hb hw hh
  have hwh : 1 ≤ w * h ∧ w * h ≤ 250000 := by
    simp only [inB, decide_eq_true_eq] at hw' hh'
    have h1 : 1 * 1 ≤ w * h := Int.mul_le_mul (by omega) (by omega) (by omega) (by omega)
    have h2 : w * h ≤ 500 * 500 := Int.mul_le_mul (by omega) (by omega) (by omega) (by omega)
    omega
  have hgood : goodCutB w h sq = cutChk w h [] sq 0 := by
    cases sq with
    | nil => simp [goodCutB, cutChk, inB]; omega
    | cons a r =>
      have hl' : inB ((a :: r).length : Int) 1 30 = true := by simp only [inB, decide_eq_true_eq, List.length_cons] at hlen ⊢; omega
      rw [goodCutB, hw', hh', hl', Bool.true_and, Bool.true_and, Bool.true_and]
  rw [hgood]
  clear hgood
  refine .inl ⟨Nat × Int, fun x => sq.length - x.1, fun x => x.1 ≤ sq.length ∧ 0 ≤ x.2 ∧ x.2 ≤ 250000 * x.1 ∧ (∀ q ∈ sq.take x.1, smallSq q) ∧ cutChk w h [] sq 0 = cutChk w h (sq.take x.1) (sq.drop x.1) x.2,
    fun x => ⟨[(1, .one (.c (.ptr 0 0 0))), (3, .one (.c (vI x.2))), (23, .one (.c (.d (.list 3 (sq.map r3))))), (24, .one (.c (vI sq.length))), (25, .one (.c (vI x.1)))],
    [(0, .box [.d (dI w), .d (dI h), .d (.list 3 (sq.map r3))])], _⟩, (0, 0), ⟨Nat.zero_le _, Int.le_refl _, by simp, by simp, by simp⟩, weak_of rfl ?_ rfl (Nat.zero_le _), ?_⟩
  · simp [envOK, getE]
  rintro ⟨i, area⟩ ⟨hi, ha0, ha1, hsm, hchk⟩
  dsimp only at hi ha0 ha1 hsm hchk
  have hwi : IntKind.i64.wrap ((i : Int) - 1) = (i : Int) - 1 := wrap_i64 _ (by omega) (by omega)
  have hcap : ∀ x y s, sq[i]? = some (x, y, s) → cutChk w h [] sq 0 = (okB w h (sq.take i) (x, y, s) && cutChk w h (sq.take (i + 1)) (sq.drop (i + 1)) (area + s * s)) := fun x y s hs => by rw [hchk, chk_step hs]
  have hl0 : List.take (((some (i : Int)).getD ((List.map r3 sq).length : Int)).toNat - ((none : Option Int).getD 0).toNat) (List.drop ((none : Option Int).getD 0).toNat (List.map r3 sq)) = (sq.take i).map r3 := by simp
  have hany : ∀ x y s, smallSq (x, y, s) → CallX G.P 133 [.c (.d (.list 3 (List.take (((some (i : Int)).getD ((List.map r3 sq).length : Int)).toNat - ((none : Option Int).getD 0).toNat) (List.drop ((none : Option Int).getD 0).toNat (List.map r3 sq))))), .c (.fn 134 [(1, 0, 0)])]
      [(0, .fro false (.box [.d (dI w), .d (dI h), .d (.list 3 (sq.map r3))])), (0, .fro false (.box [.d (dI x), .d (dI y), .d (dI s)]))] (fun sv _ => sv = .one (.c (vB ((sq.take i).any fun q => ovB (x, y, s) q)))) := fun x y s hs => by
    rw [hl0]
    exact anyOv w h sq (sq.take i) x y s hs hsm (by simp; omega)
  conv => whnf
  repeat' first
    | exact True.intro
    | (refine draw_mkF ?_ ?_ ?_; (focus (decide +kernel)); (focus (kernel_rfl)); conv => whnf)
    | (refine Both.mk ?_ ?_ <;> conv => whnf)
    | (refine OwnQ.own ?_; conv => whnf)
    | (refine NilQ.mk (fun hnil => ?_) ?_ <;> conv => whnf)
    | (refine draw_mk (by kernel_rfl) ?_; conv => whnf)
    | (refine Br.mk (fun hb => ?_) (fun hb => ?_) <;> conv => whnf)
    | (refine El.mk (fun el hel => ?_); obtain ⟨x, y, s, hk, rfl⟩ := r3_get hel; conv => whnf)
    | (refine call_sn ?_ (within_ok ?_ ?_ ?_) ?_; (focus ((repeat' first | exact snapRow | exact snap_row (by simp; done) | exact rfl | exact trivial | apply And.intro | omega | (simp; done)); done)); conv => whnf)
    | (refine callP_sn ?_ (within_ok ?_ ?_ ?_) ?_; (focus ((repeat' first | exact snapRow | exact snap_row (by simp; done) | exact rfl | exact trivial | apply And.intro | omega | (simp; done)); done)); conv => whnf)
    | (refine And.intro ?_ ?_; (focus (first | decide | omega | (simp; done) | (simp; omega) | (dsimp only at *; omega) | (simp at hb ⊢; omega))); conv => whnf)
  · rw [hcap x y s (by simpa using hk)]
    exact res_false (by simp [okB, place_no hw' hh' (by simpa using hb)])
  · rename_i hs
    obtain ⟨p1, p2, p3⟩ := place_side hw' hh' (by simpa using hs)
    rw [p2] at hb
    rw [hcap x y s (by simpa using hk)]
    exact res_false (by simp at hb; simp [okB, placeB, hb])
  · rename_i hs hx
    obtain ⟨p1, p2, p3⟩ := place_side hw' hh' (by simpa using hs)
    rw [p3] at hb
    rw [hcap x y s (by simpa using hk)]
    exact res_false (by simp at hb; simp [okB, placeB, hb])
  · rename_i x0 y0 s0 hk0 hel0 hs hx hy
    obtain ⟨p1, p2, p3⟩ := place_side hw' hh' (by simpa using hs)
    rw [p2] at hx
    rw [p3] at hy
    have hpl : placeB w h (x0, y0, s0) = true := by simp at hx hy; simp [placeB, p1, hx, hy]
    have hsmall := small_of_place hw' hh' hpl
    have hi0 : 0 < i := by simpa using hb
    have hk' : sq[i]? = some (x0, y0, s0) := by simpa using hk0
    have hkp : (sq.take i)[i - 1]? = some (x, y, s) := by
      rw [List.getElem?_take, if_pos (by omega)]
      have : (IntKind.i64.wrap (((i, area).fst : Int) - 1)).toNat = i - 1 := by show (IntKind.i64.wrap ((i : Int) - 1)).toNat = i - 1; rw [hwi]; omega
      rw [← this]; exact hk
    have hps := hsm _ (List.mem_of_getElem? hkp)
    have hlq : (sq.take i).getLast? = some (x, y, s) := by
      rw [List.getLast?_eq_getElem?, List.length_take, Nat.min_eq_left (by omega)]; exact hkp
    repeat' first
      | exact True.intro
      | (refine draw_mkF ?_ ?_ ?_; (focus (decide +kernel)); (focus (kernel_rfl)); conv => whnf)
      | (refine Both.mk ?_ ?_ <;> conv => whnf)
      | (refine OwnQ.own ?_; conv => whnf)
      | (refine NilQ.mk (fun hnil => ?_) ?_ <;> conv => whnf)
      | (refine draw_mk (by kernel_rfl) ?_; conv => whnf)
      | (refine Br.mk (fun hb => ?_) (fun hb => ?_) <;> conv => whnf)
      | (refine call_sn ?_ (comparePlaces_ok3 ?_ ?_ ?_ ?_ ?_ ?_ ?_ ?_) ?_; (focus ((repeat' first | exact snapRow | exact snap_row (by simp; done) | exact rfl | exact trivial | apply And.intro | omega | (simp; done)); done)); assumption; assumption; conv => whnf)
      | (refine callP_sn ?_ (comparePlaces_ok3 ?_ ?_ ?_ ?_ ?_ ?_ ?_ ?_) ?_; (focus ((repeat' first | exact snapRow | exact snap_row (by simp; done) | exact rfl | exact trivial | apply And.intro | omega | (simp; done)); done)); assumption; assumption; conv => whnf)
      | (refine And.intro ?_ ?_; (focus (first | decide | omega | (simp; done) | (simp; omega) | (dsimp only at *; omega) | (simp at hb ⊢; omega))); conv => whnf)
    · rw [hcap x0 y0 s0 hk']
      refine res_false ?_
      have hl : lastB (sq.take i) (x0, y0, s0) = false := by
        rw [lastB, hlq]
        simp only [decide_eq_true_eq] at hb
        simp only [lessB, Bool.or_eq_false_iff, Bool.and_eq_false_imp, decide_eq_false_iff_not, beq_iff_eq]
        split at hb <;> omega
      simp only [okB, hl, Bool.and_false, Bool.false_and]
    have hlast : lastB (sq.take i) (x0, y0, s0) = true := by
      rw [lastB, hlq]
      simp only [decide_eq_false_iff_not] at hb
      simp only [lessB, Bool.or_eq_true, Bool.and_eq_true, decide_eq_true_eq, beq_iff_eq]
      split at hb <;> omega
    refine callP_frz (hany x0 y0 s0 hsmall) (fun sv objs1 hsv => ⟨by rw [hsv]; rfl, ?_⟩)
    subst hsv
    conv => whnf
    repeat' first
      | exact True.intro
      | (refine draw_mkF ?_ ?_ ?_; (focus (decide +kernel)); (focus (kernel_rfl)); conv => whnf)
      | (refine Both.mk ?_ ?_ <;> conv => whnf)
      | (refine OwnQ.own ?_; conv => whnf)
      | (refine NilQ.mk (fun hnil => ?_) ?_ <;> conv => whnf)
      | (refine draw_mk (by kernel_rfl) ?_; conv => whnf)
      | (refine Br.mk (fun hb => ?_) (fun hb => ?_) <;> conv => whnf)
      | (refine And.intro ?_ ?_; (focus (first | decide | omega | (simp; done) | (simp; omega) | (dsimp only at *; omega) | (simp at hb ⊢; omega))); conv => whnf)
    · rw [hcap x0 y0 s0 hk']
      refine res_false ?_
      have : (sq.take i).all (fun q => !ovB (x0, y0, s0) q) = false := by
        rw [List.all_eq_not_any_not]; simpa using hb
      simp only [okB, this, Bool.false_and, Bool.and_false]
    have hall : (sq.take i).all (fun q => !ovB (x0, y0, s0) q) = true := by
      rw [List.all_eq_not_any_not]; simpa using hb
    have hok : okB w h (sq.take i) (x0, y0, s0) = true := by rw [okB, hpl, hall, hlast]; rfl
    have hss : 0 ≤ s0 * s0 ∧ s0 * s0 ≤ 250000 := by
      simp only [smallSq] at hsmall
      have h1 : 0 * 0 ≤ s0 * s0 := Int.mul_le_mul (by omega) (by omega) (by omega) (by omega)
      have h2 : s0 * s0 ≤ 500 * 500 := Int.mul_le_mul (by omega) (by omega) (by omega) (by omega)
      omega
    have hil : i < sq.length := (List.getElem?_eq_some_iff.1 hk').1
    have w3 : IntKind.i64.wrap (s0 * s0) = s0 * s0 := wrap_i64 _ (by omega) (by omega)
    have w4 : IntKind.i64.wrap (area + s0 * s0) = area + s0 * s0 := wrap_i64 _ (by omega) (by omega)
    refine ⟨(i + 1, area + s0 * s0), ⟨by show i + 1 ≤ sq.length; omega, by show 0 ≤ area + s0 * s0; omega, by show area + s0 * s0 ≤ 250000 * ((i + 1 : Nat) : Int); omega, ?_, by rw [hcap x0 y0 s0 hk', hok, Bool.true_and]⟩, by show sq.length - (i + 1) < sq.length - i; omega, weak_of rfl ?_ rfl (Nat.zero_le _)⟩
    · intro q hq
      rw [List.take_add_one, hk'] at hq
      rcases List.mem_append.1 hq with hq | hq
      · exact hsm q hq
      · simp at hq; subst hq; exact hsmall
    · have := wrap_len (n := i + 1) (by omega)
      simp only [w3, w4]
      simp [envOK, getE, putE]
      simpa using this
  · rename_i hs hx hy
    obtain ⟨p1, p2, p3⟩ := place_side hw' hh' (by simpa using hs)
    rw [p2] at hx
    rw [p3] at hy
    have hpl : placeB w h (x, y, s) = true := by simp at hx hy; simp [placeB, p1, hx, hy]
    have hsmall := small_of_place hw' hh' hpl
    have hi0 : i = 0 := by simpa using hb
    have hk' : sq[i]? = some (x, y, s) := by simpa using hk
    have hlast : lastB (sq.take i) (x, y, s) = true := by rw [hi0]; rfl
    refine callP_frz (hany x y s hsmall) (fun sv objs1 hsv => ⟨by rw [hsv]; rfl, ?_⟩)
    subst hsv
    conv => whnf
    repeat' first
      | exact True.intro
      | (refine draw_mkF ?_ ?_ ?_; (focus (decide +kernel)); (focus (kernel_rfl)); conv => whnf)
      | (refine Both.mk ?_ ?_ <;> conv => whnf)
      | (refine OwnQ.own ?_; conv => whnf)
      | (refine NilQ.mk (fun hnil => ?_) ?_ <;> conv => whnf)
      | (refine draw_mk (by kernel_rfl) ?_; conv => whnf)
      | (refine Br.mk (fun hb => ?_) (fun hb => ?_) <;> conv => whnf)
      | (refine And.intro ?_ ?_; (focus (first | decide | omega | (simp; done) | (simp; omega) | (dsimp only at *; omega) | (simp at hb ⊢; omega))); conv => whnf)
    · rw [hcap x y s hk']
      refine res_false ?_
      have : (sq.take i).all (fun q => !ovB (x, y, s) q) = false := by
        rw [List.all_eq_not_any_not]; simpa using hb
      simp only [okB, this, Bool.false_and, Bool.and_false]
    have hall : (sq.take i).all (fun q => !ovB (x, y, s) q) = true := by
      rw [List.all_eq_not_any_not]; simpa using hb
    have hok : okB w h (sq.take i) (x, y, s) = true := by rw [okB, hpl, hall, hlast]; rfl
    have hss : 0 ≤ s * s ∧ s * s ≤ 250000 := by
      simp only [smallSq] at hsmall
      have h1 : 0 * 0 ≤ s * s := Int.mul_le_mul (by omega) (by omega) (by omega) (by omega)
      have h2 : s * s ≤ 500 * 500 := Int.mul_le_mul (by omega) (by omega) (by omega) (by omega)
      omega
    have hil : i < sq.length := (List.getElem?_eq_some_iff.1 hk').1
    have w3 : IntKind.i64.wrap (s * s) = s * s := wrap_i64 _ (by omega) (by omega)
    have w4 : IntKind.i64.wrap (area + s * s) = area + s * s := wrap_i64 _ (by omega) (by omega)
    refine ⟨(i + 1, area + s * s), ⟨by show i + 1 ≤ sq.length; omega, by show 0 ≤ area + s * s; omega, by show area + s * s ≤ 250000 * ((i + 1 : Nat) : Int); omega, ?_, by rw [hcap x y s hk', hok, Bool.true_and]⟩, by show sq.length - (i + 1) < sq.length - i; omega, weak_of rfl ?_ rfl (Nat.zero_le _)⟩
    · intro q hq
      rw [List.take_add_one, hk'] at hq
      rcases List.mem_append.1 hq with hq | hq
      · exact hsm q hq
      · simp at hq; subst hq; exact hsmall
    · have := wrap_len (n := i + 1) (by omega)
      simp only [w3, w4]
      simp [envOK, getE, putE]
      simpa using this
  · simp at hb
    have hab : area ≤ 250000 * 30 := by omega
    have w1 : IntKind.i64.wrap (w * h) = w * h := wrap_i64 _ (by omega) (by omega)
    rw [hchk, chk_end (by omega), w1]
    simp [resOK_iff, resVs, resCell, refVs, refCV]

end Go.Proofs.Ytmfdkjjhdjkgpaa

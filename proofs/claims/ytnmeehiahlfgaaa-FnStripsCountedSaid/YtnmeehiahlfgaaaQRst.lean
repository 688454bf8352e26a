/- Strips: the whole ones. -/
import Derived.Test.YtnmeehiahlfgaaaQOst
import Derived.Test.YtnmeehiahlfgaaaQZf
namespace Go.Proofs.Ytnmeehiahlfgaaa
open Go Go.RowKit
set_option maxRecDepth 10000
set_option linter.unusedSimpArgs false

theorem tally_x (h l : Nat) (hh : 1 ≤ h ∧ h < 5) (hl : 1 ≤ l ∧ l ≤ 30) : CallX G.P 28 [.c (vI h), .c (vI l)] [] (fun sv _ => sv = .one (dvX (tDV (Tw h l 0)))) := by
  refine call_body (G := G) Try.func28 rfl (by decide) (Nat.le_of_ble_eq_true rfl) ?_
  conv => whnf
  repeat' first
    | exact True.intro
    | (refine draw_mkF ?_ ?_ ?_; (focus (decide +kernel)); (focus (kernel_rfl)); conv => whnf)
    | (refine Both.mk ?_ ?_ <;> conv => whnf)
    | (refine NilQ.mk (fun hnil => ?_) ?_ <;> conv => whnf)
    | (refine draw_mk (by kernel_rfl) ?_; conv => whnf)
    | (refine Br.mk (fun hb => ?_) (fun hb => ?_) <;> conv => whnf)
    | (refine call_body (G := G) Try.func40 rfl (by decide) (Nat.le_of_ble_eq_true rfl) ?_; conv => whnf)
    | (refine callP_text (call_body (G := G) Try.func40 rfl (by decide) (Nat.le_of_ble_eq_true rfl) ?_); conv => whnf)
    | (refine And.intro ?_ ?_; (focus (first | decide | omega | (simp at *; omega) | (simp_all; done))); conv => whnf)
  have hrec := count_rec hh hl.2 1000 0 0 0 0 0 0 [] (at_start hh) (Nat.zero_le _) (Nat.lt_of_lt_of_le (mu_small hh.2 (by omega)) (by omega)) (fun _ _ _ _ _ _ _ _ _ hl => by cases hl)
  rw [Nat.sub_zero] at hrec
  refine frameN [2] hrec rfl (by decide) ⟨rfl, rfl⟩ rfl ?_
  rintro sv objs1 ⟨rfl, es', gs, _, rfl⟩
  refine ⟨[(0, .map 4 es')], gs, rfl, Nat.le_refl _, rfl, ?_⟩
  conv => whnf
  rfl

theorem tally_c {h l : Nat} {objs : Objs} {K : SV → Objs → Prop} (hh : 1 ≤ h ∧ h < 5) (hl : 1 ≤ l ∧ l ≤ 30) (hK : K (.one (dvX (tDV (Tw h l 0)))) objs) : CallX G.P 28 [.c (vI h), .c (vI l)] objs K := by
  refine frameN [] (tally_x h l hh hl) rfl (by decide) rfl rfl ?_
  rintro sv objs1 rfl
  refine ⟨[], objs1, rfl, Nat.le_refl _, rfl, ?_⟩
  show K _ (objs ++ [])
  rw [List.append_nil]
  exact hK

/-- How many ways there are to fill, of each length, from 1 on. -/
noncomputable def alL (h n : Nat) : List Int := (List.range n).map fun i => IntKind.i64.wrap (Vw 0 h (i + 1) 0)

/-- What is left of all when the whole ones of the lengths up to k are taken off. -/
def subK (w a : List Int) (n : Nat) (s : Int) : Nat → Int
  | 0 => s
  | k + 1 => IntKind.i64.wrap (subK w a n s k - IntKind.i64.wrap (w.getD k 0 * a.getD (n - k - 2) 0))

/-- The whole ones, of each length, from 1 on. -/
noncomputable def whL (h : Nat) : Nat → List Int
  | 0 => []
  | n + 1 => whL h n ++ [subK (whL h n) (alL h (n + 1)) (n + 1) (IntKind.i64.wrap (Vw 0 h (n + 1) 0)) n]

theorem whL_len (h : Nat) : ∀ n, (whL h n).length = n
  | 0 => rfl
  | n + 1 => by rw [whL, List.length_append, whL_len h n]; rfl

theorem alL_len (h n : Nat) : (alL h n).length = n := by simp [alL]

theorem alL_succ (h n : Nat) : alL h (n + 1) = alL h n ++ [IntKind.i64.wrap (Vw 0 h (n + 1) 0)] := by simp [alL, List.range_succ]

theorem alL_get {h n i : Nat} (hi : i < n) : (alL h n).getD i 0 = IntKind.i64.wrap (Vw 0 h (i + 1) 0) := by
  simp [alL, List.getD, List.getElem?_map, List.getElem?_range hi]

theorem app1 {xs : List (List DC)} {n : Nat} {d v : DC} (hn : n = xs.length) : List.take n (List.drop 0 xs) ++ List.take 1 (List.drop 0 ((List.replicate 1 [d]).set 0 [v])) = xs ++ [[v]] := by
  subst hn; simp

theorem map_snoc {xs : List Int} {v : Int} : xs.map r1 ++ [[DC.v (Value.int IntKind.i64 v)]] = (xs ++ [v]).map r1 := by simp [r1]

theorem getD_of {l : List Int} {i : Nat} {v : Int} (h : l[i]? = some v) : l.getD i 0 = v := by simp [List.getD, h]

theorem wholeStrips_x (h l : Nat) (hh : 1 ≤ h ∧ h < 5) (hl : 1 ≤ l ∧ l ≤ 30) : CallX G.P 38 [.c (vI h), .c (vI l)] [] (fun sv objs => sv = .one (.c (.sl 1 0 1 0 (l + 1) none)) ∧ objs = [(0, .arr 1 ((1 :: alL h l).map r1)), (0, .arr 1 ((0 :: whL h l).map r1))]) := by
  refine call_body (G := G) Try.func38 rfl (by decide) (Nat.le_of_ble_eq_true rfl) ?_
  conv => whnf
  repeat' first
    | exact True.intro
    | (refine draw_mkF ?_ ?_ ?_; (focus (decide +kernel)); (focus (kernel_rfl)); conv => whnf)
    | (refine Both.mk ?_ ?_ <;> conv => whnf)
    | (refine NilQ.mk (fun hnil => ?_) ?_ <;> conv => whnf)
    | (refine draw_mk (by kernel_rfl) ?_; conv => whnf)
    | (refine Br.mk (fun hb => ?_) (fun hb => ?_) <;> conv => whnf)
    | (refine And.intro ?_ ?_; (focus (first | decide | omega | (simp at *; omega) | (simp_all; done))); conv => whnf)
  refine .inl ⟨Nat, fun i => l - i, fun i => i ≤ l, fun i => ⟨[(0, .one (.c (vI h))), (1, .one (.c (vI l))), (5, .one (.c (.sl 0 0 1 0 (i + 1) (if i = 0 then some 1 else none)))), (6, .one (.c (.sl 1 0 1 0 (i + 1) (if i = 0 then some 1 else none)))), (7, .one (.c (vI ((i + 1 : Nat) : Int))))],
    [(0, .arr 1 ((1 :: alL h i).map r1)), (0, .arr 1 ((0 :: whL h i).map r1))], _⟩, 0, Nat.zero_le _, weak_of rfl ?_ rfl (Nat.zero_le _), fun i hi => ?_⟩
  · (repeat' first | exact rfl | exact trivial | apply And.intro | (simp [getE]; done))
  replace hi : i ≤ l := hi
  conv => whnf
  refine Br.mk (fun hb => ?_) (fun hb => ?_) <;> conv => whnf
  · have hlt : i < l := by simp at hb; omega
    have hs := sum_list (Tw h (i + 1) 0).1 (Nat.le_trans (Tw_len h (i + 1) 0) (by decide))
    rw [tally_sum] at hs
    refine tally_c hh (by omega) ?_
    conv => whnf
    refine call_sn (by repeat' first | exact rfl | exact trivial | apply And.intro) hs ?_
    conv => whnf
    repeat' first
      | exact True.intro
      | (refine draw_mkF ?_ ?_ ?_; (focus (decide +kernel)); (focus (kernel_rfl)); conv => whnf)
      | (refine Both.mk ?_ ?_ <;> conv => whnf)
      | (refine NilQ.mk (fun hnil => ?_) ?_ <;> conv => whnf)
      | (refine draw_mk (by kernel_rfl) ?_; conv => whnf)
      | (refine Br.mk (fun hb => ?_) (fun hb => ?_) <;> conv => whnf)
      | (refine And.intro ?_ ?_; (focus (first | decide | omega | (simp [contentOK, objRd, objAt, peel, alL_len, whL_len]; done) | (simp [contentOK, objRd, objAt, peel, alL_len, whL_len]; omega) | (simp [contentOK, objRd, objAt, peel, alL_len, whL_len] at *; omega))); conv => whnf)
    rw [app1 (by simp [alL_len]), map_snoc, show (1 :: alL h i) ++ [IntKind.i64.wrap (Vw 0 h (i + 1) 0)] = 1 :: alL h (i + 1) by rw [alL_succ]; rfl]
    refine El.get (x := [dI (IntKind.i64.wrap (Vw 0 h (i + 1) 0))]) (by rw [alL_succ]; simp [alL_len, r1]) ?_
    conv => whnf
    have hgo : ∀ k, k < i → IntKind.i64.wrap ((((i + 1 : Nat) : Int)) - ((k + 1 : Nat) : Int)) = ((i - k : Nat) : Int) := by
      intro k hk; rw [wrap_i64 _ (by omega) (by omega)]; omega
    refine .inl ⟨Nat, fun k => i - k, fun k => k ≤ i, fun k => ⟨[(0, .one (.c (vI h))), (1, .one (.c (vI l))), (5, .one (.c (.sl 0 1 1 0 (i + 1 + 1) none))), (6, .one (.c (.sl 1 0 1 0 (i + 1) (if i = 0 then some 1 else none)))), (7, .one (.c (vI ((i + 1 : Nat) : Int)))),
        (8, .one (.c (vI (subK (whL h i) (alL h (i + 1)) (i + 1) (IntKind.i64.wrap (Vw 0 h (i + 1) 0)) k)))), (9, .one (.c (vI ((k + 1 : Nat) : Int))))],
      [(1, .arr 1 ((1 :: alL h (i + 1)).map r1)), (0, .arr 1 ((0 :: whL h i).map r1))], _⟩, 0, Nat.zero_le _, weak_of rfl ?_ rfl (Nat.zero_le _), fun k hk => ?_⟩
    · (repeat' first | exact rfl | exact trivial | apply And.intro | (simp [getE]; done))
    replace hk : k ≤ i := hk
    conv => whnf
    refine Br.mk (fun hb2 => ?_) (fun hb2 => ?_) <;> conv => whnf
    · have hlt2 : k < i := by simp at hb2; omega
      have g1 : (whL h i)[k]? = some ((whL h i).getD k 0) := by
        have : k < (whL h i).length := by rw [whL_len]; exact hlt2
        simp [List.getD, List.getElem?_eq_getElem this]
      have g2 : (alL h (i + 1))[i - k - 1]? = some ((alL h (i + 1)).getD (i - k - 1) 0) := by
        have : i - k - 1 < (alL h (i + 1)).length := by rw [alL_len]; omega
        simp [List.getD, List.getElem?_eq_getElem this]
      have hgo' := hgo k hlt2
      repeat' first
        | exact True.intro
        | (refine draw_mkF ?_ ?_ ?_; (focus (decide +kernel)); (focus (kernel_rfl)); conv => whnf)
        | (refine Both.mk ?_ ?_ <;> conv => whnf)
        | (refine NilQ.mk (fun hnil => ?_) ?_ <;> conv => whnf)
        | (refine draw_mk (by kernel_rfl) ?_; conv => whnf)
        | (refine Br.mk (fun hb => ?_) (fun hb => ?_) <;> conv => whnf)
        | (refine And.intro ?_ ?_; (focus (first | decide | omega | (simp [contentOK, objRd, objAt, peel, alL_len, whL_len]; done) | (simp [contentOK, objRd, objAt, peel, alL_len, whL_len]; omega) | (simp [contentOK, objRd, objAt, peel, alL_len, whL_len] at *; omega))); conv => whnf)
      refine El.get (x := [dI ((whL h i).getD k 0)]) (by rw [Int.toNat_natCast, Nat.zero_add, List.map_cons, List.getElem?_cons_succ, List.getElem?_map, g1]; rfl) ?_
      conv => whnf
      rw [hgo']
      repeat' first
        | exact True.intro
        | (refine draw_mkF ?_ ?_ ?_; (focus (decide +kernel)); (focus (kernel_rfl)); conv => whnf)
        | (refine Both.mk ?_ ?_ <;> conv => whnf)
        | (refine NilQ.mk (fun hnil => ?_) ?_ <;> conv => whnf)
        | (refine draw_mk (by kernel_rfl) ?_; conv => whnf)
        | (refine Br.mk (fun hb => ?_) (fun hb => ?_) <;> conv => whnf)
        | (refine And.intro ?_ ?_; (focus (first | decide | omega | (simp [contentOK, objRd, objAt, peel, alL_len, whL_len]; done) | (simp [contentOK, objRd, objAt, peel, alL_len, whL_len]; omega) | (simp [contentOK, objRd, objAt, peel, alL_len, whL_len] at *; omega))); conv => whnf)
      refine El.get (x := [dI ((alL h (i + 1)).getD (i - k - 1) 0)]) (by
        rw [Int.toNat_natCast, Nat.zero_add, show i - k = (i - k - 1) + 1 by omega, List.map_cons, List.getElem?_cons_succ, List.getElem?_map, g2]; rfl) ?_
      conv => whnf
      have hw := wrap_len (n := k + 1 + 1) (by omega)
      have hw' : IntKind.i64.wrap (((k + 1 : Nat) : Int) + 1) = ((k + 1 + 1 : Nat) : Int) := by rw [← hw]; rfl
      refine ⟨k + 1, hlt2, (by omega : i - (k + 1) < i - k), weak_of rfl ?_ rfl (Nat.zero_le _)⟩
      rw [hw']
      refine ⟨rfl, rfl, rfl, rfl, rfl, ?_, rfl, trivial⟩
      show SV.one (.c (vI _)) = SV.one (.c (vI _))
      rw [subK, show i + 1 - k - 2 = i - k - 1 by omega]
    · have hke : k = i := by simp at hb2; omega
      subst hke
      repeat' first
        | exact True.intro
        | (refine draw_mkF ?_ ?_ ?_; (focus (decide +kernel)); (focus (kernel_rfl)); conv => whnf)
        | (refine Both.mk ?_ ?_ <;> conv => whnf)
        | (refine NilQ.mk (fun hnil => ?_) ?_ <;> conv => whnf)
        | (refine draw_mk (by kernel_rfl) ?_; conv => whnf)
        | (refine Br.mk (fun hb => ?_) (fun hb => ?_) <;> conv => whnf)
        | (refine And.intro ?_ ?_; (focus (first | decide | omega | (simp [contentOK, objRd, objAt, peel, alL_len, whL_len]; done) | (simp [contentOK, objRd, objAt, peel, alL_len, whL_len]; omega) | (simp [contentOK, objRd, objAt, peel, alL_len, whL_len] at *; omega))); conv => whnf)
      have hw := wrap_len (n := k + 1 + 1) (by omega)
      have hw' : IntKind.i64.wrap (((k + 1 : Nat) : Int) + 1) = ((k + 1 + 1 : Nat) : Int) := by rw [← hw]; rfl
      rw [hw', app1 (by simp [whL_len]), map_snoc]
      refine ⟨k + 1, hlt, (by omega : l - (k + 1) < l - k), weak_verof2 0 1 0 1 1 0 rfl ?_ rfl rfl rfl (Nat.zero_le _) (Nat.zero_le _) (Nat.zero_le _)⟩
      (repeat' first | exact rfl | exact trivial | apply And.intro | (simp [getE]; done))
  · have hie : i = l := by simp at hb; omega
    subst hie
    rw [if_neg (by omega)]
    exact ⟨rfl, rfl⟩

theorem implWhole_yes (h l : Nat) (hh : 1 ≤ h ∧ h < 5) (hl : 1 ≤ l ∧ l ≤ 30) : Fn G.P 14 [aI h, aI l] (.tup [aI ((whL h l).getD (l - 1) 0), aB true]) := by
  have hb1 : stripB h l = true := by simp [stripB, inB]; omega
  refine fn_of_body (G := G) Try.func14 rfl (by decide) (Nat.le_of_ble_eq_true rfl) ?_
  conv => whnf
  repeat' first
    | exact True.intro
    | (refine draw_mkF ?_ ?_ ?_; (focus (decide +kernel)); (focus (kernel_rfl)); conv => whnf)
    | (refine Both.mk ?_ ?_ <;> conv => whnf)
    | (refine NilQ.mk (fun hnil => ?_) ?_ <;> conv => whnf)
    | (refine draw_mk (by kernel_rfl) ?_; conv => whnf)
    | (refine Br.mk (fun hb => ?_) (fun hb => ?_) <;> conv => whnf)
    | (refine call_sn ?_ (isStripSize_ok ?_ ?_) ?_; (focus ((repeat' first | exact snapRow | exact snap_row (by simp; done) | exact rfl | exact trivial | apply And.intro | omega | (simp; done)); done)); conv => whnf)
    | (refine callP_sn ?_ (isStripSize_ok ?_ ?_) ?_; (focus ((repeat' first | exact snapRow | exact snap_row (by simp; done) | exact rfl | exact trivial | apply And.intro | omega | (simp; done)); done)); conv => whnf)
    | (refine And.intro ?_ ?_; (focus (first | decide | omega | (simp at *; omega) | (simp_all; done))); conv => whnf)
  · rw [hb1] at hb; cases hb
  · refine frameN [] (wholeStrips_x h l hh hl) rfl (by decide) rfl rfl ?_
    rintro _ _ ⟨rfl, rfl⟩
    refine ⟨_, [], (List.append_nil _).symm, Nat.zero_le _, rfl, ?_⟩
    conv => whnf
    have g1 : (whL h l)[l - 1]? = some ((whL h l).getD (l - 1) 0) := by
      have : l - 1 < (whL h l).length := by rw [whL_len]; omega
      simp [List.getD, List.getElem?_eq_getElem this]
    repeat' first
      | exact True.intro
      | (refine draw_mkF ?_ ?_ ?_; (focus (decide +kernel)); (focus (kernel_rfl)); conv => whnf)
      | (refine Both.mk ?_ ?_ <;> conv => whnf)
      | (refine NilQ.mk (fun hnil => ?_) ?_ <;> conv => whnf)
      | (refine draw_mk (by kernel_rfl) ?_; conv => whnf)
      | (refine Br.mk (fun hb => ?_) (fun hb => ?_) <;> conv => whnf)
      | (refine And.intro ?_ ?_; (focus (first | decide | omega | (simp [contentOK, objRd, objAt, peel, whL_len]; done) | (simp [contentOK, objRd, objAt, peel, whL_len]; omega) | (simp [contentOK, objRd, objAt, peel, whL_len] at *; omega))); conv => whnf)
    refine El.get (x := [dI ((whL h l).getD (l - 1) 0)]) (by
      rw [Int.toNat_natCast, Nat.zero_add, show l = (l - 1) + 1 by omega, List.map_cons, List.getElem?_cons_succ, List.getElem?_map]
      simp only [Nat.add_sub_cancel]
      rw [show l - 1 + 1 = l by omega, g1]; rfl) ?_
    conv => whnf
    exact ⟨⟨rfl, rfl, trivial⟩, by simp [refVs, refCV]⟩

theorem implWhole_no (h l : Int) (hb0 : stripB h l = false) : Fn G.P 14 [aI h, aI l] (.tup [aI 0, aB false]) := by
  refine fn_of_body (G := G) Try.func14 rfl (by decide) (Nat.le_of_ble_eq_true rfl) ?_
  conv => whnf
  repeat' first
    | exact True.intro
    | (refine draw_mkF ?_ ?_ ?_; (focus (decide +kernel)); (focus (kernel_rfl)); conv => whnf)
    | (refine Both.mk ?_ ?_ <;> conv => whnf)
    | (refine NilQ.mk (fun hnil => ?_) ?_ <;> conv => whnf)
    | (refine draw_mk (by kernel_rfl) ?_; conv => whnf)
    | (refine Br.mk (fun hb => ?_) (fun hb => ?_) <;> conv => whnf)
    | (refine call_sn ?_ (isStripSize_ok ?_ ?_) ?_; (focus ((repeat' first | exact snapRow | exact snap_row (by simp; done) | exact rfl | exact trivial | apply And.intro | omega | (simp; done)); done)); conv => whnf)
    | (refine callP_sn ?_ (isStripSize_ok ?_ ?_) ?_; (focus ((repeat' first | exact snapRow | exact snap_row (by simp; done) | exact rfl | exact trivial | apply And.intro | omega | (simp; done)); done)); conv => whnf)
  · exact ⟨⟨rfl, rfl, trivial⟩, by simp [refVs, refCV]⟩
  · simp_all

theorem specWhole_no (h l : Int) (hb0 : stripB h l = false) : Fn G.P 15 [aI h, aI l] (.tup [aI 0, aB false]) := by
  refine fn_of_body (G := G) Try.func15 rfl (by decide) (Nat.le_of_ble_eq_true rfl) ?_
  conv => whnf
  repeat' first
    | exact True.intro
    | (refine draw_mkF ?_ ?_ ?_; (focus (decide +kernel)); (focus (kernel_rfl)); conv => whnf)
    | (refine Both.mk ?_ ?_ <;> conv => whnf)
    | (refine NilQ.mk (fun hnil => ?_) ?_ <;> conv => whnf)
    | (refine draw_mk (by kernel_rfl) ?_; conv => whnf)
    | (refine Br.mk (fun hb => ?_) (fun hb => ?_) <;> conv => whnf)
    | (refine call_sn ?_ (stSize_ok ?_ ?_) ?_; (focus ((repeat' first | exact snapRow | exact snap_row (by simp; done) | exact rfl | exact trivial | apply And.intro | omega | (simp; done)); done)); conv => whnf)
    | (refine callP_sn ?_ (stSize_ok ?_ ?_) ?_; (focus ((repeat' first | exact snapRow | exact snap_row (by simp; done) | exact rfl | exact trivial | apply And.intro | omega | (simp; done)); done)); conv => whnf)
  · exact ⟨⟨rfl, rfl, trivial⟩, by simp [refVs, refCV]⟩
  · simp_all

theorem specWhole_yes (h l : Nat) (hh : 1 ≤ h ∧ h < 5) (hl : 1 ≤ l ∧ l ≤ 30) : Fn G.P 15 [aI h, aI l] (.tup [aI ((whL h l).getD (l - 1) 0), aB true]) := by
  have hb1 : stripB h l = true := by simp [stripB, inB]; omega
  refine fn_of_body (G := G) Try.func15 rfl (by decide) (Nat.le_of_ble_eq_true rfl) ?_
  conv => whnf
  repeat' first
    | exact True.intro
    | (refine draw_mkF ?_ ?_ ?_; (focus (decide +kernel)); (focus (kernel_rfl)); conv => whnf)
    | (refine Both.mk ?_ ?_ <;> conv => whnf)
    | (refine NilQ.mk (fun hnil => ?_) ?_ <;> conv => whnf)
    | (refine draw_mk (by kernel_rfl) ?_; conv => whnf)
    | (refine Br.mk (fun hb => ?_) (fun hb => ?_) <;> conv => whnf)
    | (refine call_sn ?_ (stSize_ok ?_ ?_) ?_; (focus ((repeat' first | exact snapRow | exact snap_row (by simp; done) | exact rfl | exact trivial | apply And.intro | omega | (simp; done)); done)); conv => whnf)
    | (refine callP_sn ?_ (stSize_ok ?_ ?_) ?_; (focus ((repeat' first | exact snapRow | exact snap_row (by simp; done) | exact rfl | exact trivial | apply And.intro | omega | (simp; done)); done)); conv => whnf)
    | (refine And.intro ?_ ?_; (focus (first | decide | omega | (simp at *; omega) | (simp_all; done))); conv => whnf)
  · rw [hb1] at hb; cases hb
  refine .inl ⟨Nat, fun i => l - i, fun i => i ≤ l, fun i => ⟨[(0, .one (.c (vI h))), (1, .one (.c (vI l))), (6, .one (.c (.sl 0 0 1 0 i none))), (7, .one (.c (.sl 1 0 1 0 i none))), (8, .one (.c (vI ((i + 1 : Nat) : Int))))],
    [(0, .arr 1 ((whL h i).map r1)), (0, .arr 1 ((alL h i).map r1))], _⟩, 0, Nat.zero_le _, weak_nilof2 0 1 1 (t := []) (t1 := []) rfl rfl ?_ rfl rfl rfl rfl rfl (Nat.zero_le _) (Nat.zero_le _), fun i hi => ?_⟩
  · (repeat' first | exact rfl | exact trivial | apply And.intro | (simp [getE]; done))
  replace hi : i ≤ l := hi
  conv => whnf
  refine Br.mk (fun hb => ?_) (fun hb => ?_) <;> conv => whnf
  · have hlt : i < l := by simp at hb; omega
    refine ways_c (h := h) (L := i + 1) (wo := 0) hh (by omega) fun T1 ht hg => ?_
    conv => whnf
    refine count_c (h := h) (L := i + 1) (wo := 0) (l0 := i + 1) (st := 0) (o := 2) (ver := 0) (objs := [(0, .arr 1 ((whL h i).map r1)), (0, .arr 1 ((alL h i).map r1)), (0, .grid 1 (gx T1))]) hh (by omega) (by omega) (Nat.pow_pos (by omega)) ht hg rfl fun T2 ht hg => ?_
    conv => whnf
    have hi1 : IntKind.i64.wrap (((i + 1 : Nat) : Int) - 1) = ((i : Nat) : Int) := by rw [wrap_i64 _ (by omega) (by omega)]; omega
    repeat' first
      | exact True.intro
      | (refine draw_mkF ?_ ?_ ?_; (focus (decide +kernel)); (focus (kernel_rfl)); conv => whnf)
      | (refine Both.mk ?_ ?_ <;> conv => whnf)
      | (refine NilQ.mk (fun hnil => ?_) ?_ <;> conv => whnf)
      | (refine draw_mk (by kernel_rfl) ?_; conv => whnf)
      | (refine Br.mk (fun hb => ?_) (fun hb => ?_) <;> conv => whnf)
      | (refine And.intro ?_ ?_; (focus (first | decide | omega | (simp [contentOK, objRd, objAt, peel, alL_len, whL_len]; done) | (simp [contentOK, objRd, objAt, peel, alL_len, whL_len]; omega) | (simp [contentOK, objRd, objAt, peel, alL_len, whL_len] at *; omega))); conv => whnf)
    rw [app1 (by simp [alL_len]), map_snoc, ← alL_succ]
    rw [hi1]
    repeat' first
      | exact True.intro
      | (refine draw_mkF ?_ ?_ ?_; (focus (decide +kernel)); (focus (kernel_rfl)); conv => whnf)
      | (refine Both.mk ?_ ?_ <;> conv => whnf)
      | (refine NilQ.mk (fun hnil => ?_) ?_ <;> conv => whnf)
      | (refine draw_mk (by kernel_rfl) ?_; conv => whnf)
      | (refine Br.mk (fun hb => ?_) (fun hb => ?_) <;> conv => whnf)
      | (refine And.intro ?_ ?_; (focus (first | decide | omega | (simp [contentOK, objRd, objAt, peel, alL_len, whL_len]; done) | (simp [contentOK, objRd, objAt, peel, alL_len, whL_len]; omega) | (simp [contentOK, objRd, objAt, peel, alL_len, whL_len] at *; omega))); conv => whnf)
    refine El.get (x := [dI (IntKind.i64.wrap (Vw 0 h (i + 1) 0))]) (by rw [alL_succ]; simp [alL_len, r1]) ?_
    conv => whnf
    refine .inl ⟨Nat, fun k => i - k, fun k => k ≤ i, fun k => ⟨[(0, .one (.c (vI h))), (1, .one (.c (vI l))), (6, .one (.c (.sl 0 0 1 0 i none))), (7, .one (.c (.sl 1 1 1 0 (i + 1) none))), (8, .one (.c (vI ((i + 1 : Nat) : Int)))),
        (9, .one (.c (vI (subK (whL h i) (alL h (i + 1)) (i + 1) (IntKind.i64.wrap (Vw 0 h (i + 1) 0)) k)))), (10, .one (.c (vI ((k + 1 : Nat) : Int))))],
      [(0, .arr 1 ((whL h i).map r1)), (1, .arr 1 ((alL h (i + 1)).map r1))], _⟩, 0, Nat.zero_le _, weak_of rfl ?_ rfl (Nat.zero_le _), fun k hk => ?_⟩
    · (repeat' first | exact rfl | exact trivial | apply And.intro | (simp [getE]; done))
    replace hk : k ≤ i := hk
    conv => whnf
    refine Br.mk (fun hb2 => ?_) (fun hb2 => ?_) <;> conv => whnf
    · have hlt2 : k < i := by simp at hb2; omega
      have g1 : (whL h i)[k]? = some ((whL h i).getD k 0) := by
        have : k < (whL h i).length := by rw [whL_len]; exact hlt2
        simp [List.getD, List.getElem?_eq_getElem this]
      have g2 : (alL h (i + 1))[i - k - 1]? = some ((alL h (i + 1)).getD (i - k - 1) 0) := by
        have : i - k - 1 < (alL h (i + 1)).length := by rw [alL_len]; omega
        simp [List.getD, List.getElem?_eq_getElem this]
      have hgo : IntKind.i64.wrap (((k + 1 : Nat) : Int) - 1) = ((k : Nat) : Int) := by rw [wrap_i64 _ (by omega) (by omega)]; omega
      have hgo2 : IntKind.i64.wrap (IntKind.i64.wrap (((i + 1 : Nat) : Int) - ((k + 1 : Nat) : Int)) - 1) = ((i - k - 1 : Nat) : Int) := by rw [wrap_i64 (((i + 1 : Nat) : Int) - ((k + 1 : Nat) : Int)) (by omega) (by omega), wrap_i64 _ (by omega) (by omega)]; omega
      refine draw_mk (by kernel_rfl) ?_
      conv => whnf
      rw [hgo]
      repeat' first
        | exact True.intro
        | (refine draw_mkF ?_ ?_ ?_; (focus (decide +kernel)); (focus (kernel_rfl)); conv => whnf)
        | (refine Both.mk ?_ ?_ <;> conv => whnf)
        | (refine NilQ.mk (fun hnil => ?_) ?_ <;> conv => whnf)
        | (refine draw_mk (by kernel_rfl) ?_; conv => whnf)
        | (refine Br.mk (fun hb => ?_) (fun hb => ?_) <;> conv => whnf)
        | (refine And.intro ?_ ?_; (focus (first | decide | omega | (simp [contentOK, objRd, objAt, peel, alL_len, whL_len]; done) | (simp [contentOK, objRd, objAt, peel, alL_len, whL_len]; omega) | (simp [contentOK, objRd, objAt, peel, alL_len, whL_len] at *; omega))); conv => whnf)
      refine El.get (x := [dI ((whL h i).getD k 0)]) (by rw [Int.toNat_natCast, Nat.zero_add, List.getElem?_map, g1]; rfl) ?_
      conv => whnf
      rw [hgo2]
      repeat' first
        | exact True.intro
        | (refine draw_mkF ?_ ?_ ?_; (focus (decide +kernel)); (focus (kernel_rfl)); conv => whnf)
        | (refine Both.mk ?_ ?_ <;> conv => whnf)
        | (refine NilQ.mk (fun hnil => ?_) ?_ <;> conv => whnf)
        | (refine draw_mk (by kernel_rfl) ?_; conv => whnf)
        | (refine Br.mk (fun hb => ?_) (fun hb => ?_) <;> conv => whnf)
        | (refine And.intro ?_ ?_; (focus (first | decide | omega | (simp [contentOK, objRd, objAt, peel, alL_len, whL_len]; done) | (simp [contentOK, objRd, objAt, peel, alL_len, whL_len]; omega) | (simp [contentOK, objRd, objAt, peel, alL_len, whL_len] at *; omega))); conv => whnf)
      refine El.get (x := [dI ((alL h (i + 1)).getD (i - k - 1) 0)]) (by rw [Int.toNat_natCast, Nat.zero_add, List.getElem?_map, g2]; rfl) ?_
      conv => whnf
      have hw := wrap_len (n := k + 1 + 1) (by omega)
      have hw' : IntKind.i64.wrap (((k + 1 : Nat) : Int) + 1) = ((k + 1 + 1 : Nat) : Int) := by rw [← hw]; rfl
      refine ⟨k + 1, hlt2, (by omega : i - (k + 1) < i - k), weak_of rfl ?_ rfl (Nat.zero_le _)⟩
      rw [hw']
      refine ⟨rfl, rfl, rfl, rfl, rfl, ?_, rfl, trivial⟩
      show SV.one (.c (vI _)) = SV.one (.c (vI _))
      rw [subK, show i + 1 - k - 2 = i - k - 1 by omega]
    · have hke : k = i := by simp at hb2; omega
      subst hke
      repeat' first
        | exact True.intro
        | (refine draw_mkF ?_ ?_ ?_; (focus (decide +kernel)); (focus (kernel_rfl)); conv => whnf)
        | (refine Both.mk ?_ ?_ <;> conv => whnf)
        | (refine NilQ.mk (fun hnil => ?_) ?_ <;> conv => whnf)
        | (refine draw_mk (by kernel_rfl) ?_; conv => whnf)
        | (refine Br.mk (fun hb => ?_) (fun hb => ?_) <;> conv => whnf)
        | (refine And.intro ?_ ?_; (focus (first | decide | omega | (simp [contentOK, objRd, objAt, peel, alL_len, whL_len]; done) | (simp [contentOK, objRd, objAt, peel, alL_len, whL_len]; omega) | (simp [contentOK, objRd, objAt, peel, alL_len, whL_len] at *; omega))); conv => whnf)
      have hw := wrap_len (n := k + 1 + 1) (by omega)
      have hw' : IntKind.i64.wrap (((k + 1 : Nat) : Int) + 1) = ((k + 1 + 1 : Nat) : Int) := by rw [← hw]; rfl
      rw [hw', app1 (by simp [whL_len]), map_snoc]
      refine ⟨k + 1, hlt, (by omega : l - (k + 1) < l - k), weak_verof2 0 1 0 1 1 0 rfl ?_ rfl rfl rfl (Nat.zero_le _) (Nat.zero_le _) (Nat.zero_le _)⟩
      (repeat' first | exact rfl | exact trivial | apply And.intro | (simp [getE]; done))
  · have hie : i = l := by simp at hb; omega
    subst hie
    have g1 : (whL h i)[i - 1]? = some ((whL h i).getD (i - 1) 0) := by
      have : i - 1 < (whL h i).length := by rw [whL_len]; omega
      simp [List.getD, List.getElem?_eq_getElem this]
    have hgo : IntKind.i64.wrap ((i : Int) - 1) = ((i - 1 : Nat) : Int) := by rw [wrap_i64 _ (by omega) (by omega)]; omega
    rw [hgo]
    repeat' first
      | exact True.intro
      | (refine draw_mkF ?_ ?_ ?_; (focus (decide +kernel)); (focus (kernel_rfl)); conv => whnf)
      | (refine Both.mk ?_ ?_ <;> conv => whnf)
      | (refine NilQ.mk (fun hnil => ?_) ?_ <;> conv => whnf)
      | (refine draw_mk (by kernel_rfl) ?_; conv => whnf)
      | (refine Br.mk (fun hb => ?_) (fun hb => ?_) <;> conv => whnf)
      | (refine And.intro ?_ ?_; (focus (first | decide | omega | (simp [contentOK, objRd, objAt, peel, alL_len, whL_len]; done) | (simp [contentOK, objRd, objAt, peel, alL_len, whL_len]; omega) | (simp [contentOK, objRd, objAt, peel, alL_len, whL_len] at *; omega))); conv => whnf)
    refine El.get (x := [dI ((whL h i).getD (i - 1) 0)]) (by rw [Int.toNat_natCast, Nat.zero_add, List.getElem?_map, g1]; rfl) ?_
    conv => whnf
    exact ⟨⟨rfl, rfl, trivial⟩, by simp [refVs, refCV]⟩

noncomputable def wholeR (h l : Int) : Int × Bool := if stripB h l then ((whL h.toNat l.toNat).getD (l.toNat - 1) 0, true) else (0, false)

theorem specWhole (h l : Int) : Fn G.P 15 [aI h, aI l] (.tup [aI (wholeR h l).1, aB (wholeR h l).2]) := by
  unfold wholeR
  by_cases hb : stripB h l = true
  · rw [if_pos hb]
    obtain ⟨a, b, rfl, rfl, h1, h2, h3, h4⟩ := strip_nat hb
    exact specWhole_yes a b ⟨h1, h2⟩ ⟨h3, h4⟩
  · rw [if_neg hb]
    exact specWhole_no h l (by simpa using hb)

theorem implWhole (h l : Int) : Fn G.P 14 [aI h, aI l] (.tup [aI (wholeR h l).1, aB (wholeR h l).2]) := by
  unfold wholeR
  by_cases hb : stripB h l = true
  · rw [if_pos hb]
    obtain ⟨a, b, rfl, rfl, h1, h2, h3, h4⟩ := strip_nat hb
    exact implWhole_yes a b ⟨h1, h2⟩ ⟨h3, h4⟩
  · rw [if_neg hb]
    exact implWhole_no h l (by simpa using hb)

end Go.Proofs.Ytnmeehiahlfgaaa

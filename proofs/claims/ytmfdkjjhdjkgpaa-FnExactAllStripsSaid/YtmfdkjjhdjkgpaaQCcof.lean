/- Filling by a list of sides: the reference's walk. -/
import Derived.Test.YtmfdkjjhdjkgpaaQZt
import Derived.Test.YtmfdkjjhdjkgpaaQPcof
namespace Go.Proofs.Ytmfdkjjhdjkgpaa
open Go Go.RowKit
set_option maxRecDepth 10000
set_option maxHeartbeats 4000000
set_option linter.unusedSimpArgs false

/-- What the reference's filling gives. -/
noncomputable def stF (h : Nat) (S : List Int) : (Int × Int × List S3) × Bool :=
  match stA h S S.length with
  | none => ((0, 0, []), false)
  | some (R, sq) => ((cofR (R.getD 0 0 : Nat) h sq).1, (cofR (R.getD 0 0 : Nat) h sq).2 && decide ((cofR (R.getD 0 0 : Nat) h sq).1.1 ≤ 30))

/-- The rows as the reference keeps them. -/
def rowsD (h : Nat) (R : List Nat) : List (List DC) := (R.take h).map fun n : Nat => [dI n]

theorem rowsD_len {h : Nat} {R : List Nat} (hR : R.length = 4) (hh : h < 5) : (rowsD h R).length = h := by simp [rowsD]; omega

theorem rowsD_at {h : Nat} {R : List Nat} (hR : R.length = 4) (hh : h < 5) {i : Nat} (hi : i < h) : (rowsD h R)[i]? = some [dI (R.getD i 0 : Nat)] := by
  unfold rowsD
  rw [List.getElem?_map, List.getElem?_take_of_lt hi, List.getD_eq_getElem?_getD, List.getElem?_eq_getElem (by omega)]
  rfl

theorem stF_stop {h : Nat} {S : List Int} {i : Nat} (h1 : stA h S i = none) (hi : i ≤ S.length) : stF h S = ((0, 0, []), false) := by
  have := stA_none h1 (S.length - i)
  rw [show i + (S.length - i) = S.length by omega] at this
  unfold stF
  rw [this]

/-- Rows while a square is put. -/
def putM (R : List Nat) (y m v : Nat) : List Nat := (List.range 4).map fun i => if y ≤ i ∧ i < y + m then v else R.getD i 0

theorem putM_zero {R : List Nat} (hR : R.length = 4) (y v : Nat) : putM R y 0 v = R := by
  match R, hR with
  | [a, b, c, d], _ =>
    unfold putM
    rw [List.map_congr_left (g := fun i => [a, b, c, d].getD i 0) fun i _ => if_neg (by omega)]
    rfl

theorem putM_end {R : List Nat} {y s v : Nat} (hv : ∀ k, k < s → R.getD (y + k) 0 + s = v) : putM R y s v = putR R y s := by
  unfold putM putR
  refine List.map_congr_left fun i _ => ?_
  by_cases c : y ≤ i ∧ i < y + s
  · rw [if_pos c, if_pos c]
    have := hv (i - y) (by omega)
    rw [show y + (i - y) = i by omega] at this
    exact this.symm
  · rw [if_neg c, if_neg c]; rfl

theorem putM_get {R : List Nat} {y m v i : Nat} (hi : i < 4) : (putM R y m v).getD i 0 = if y ≤ i ∧ i < y + m then v else R.getD i 0 := by
  unfold putM
  simp only [List.getD_eq_getElem?_getD, List.getElem?_map, List.getElem?_range hi, Option.map_some, Option.getD_some]

theorem putM_set {h : Nat} {R : List Nat} {y m v : Nat} (hh : h < 5) (hy : y + m < h) : (rowsD h (putM R y m v)).set (y + m) [dI (v : Nat)] = rowsD h (putM R y (m + 1) v) := by
  have l1 : ∀ m, (rowsD h (putM R y m v)).length = h := fun m => rowsD_len (by simp [putM]) hh
  refine List.ext_getElem? fun i => ?_
  rw [List.getElem?_set]
  by_cases c : i < h
  · by_cases e : y + m = i
    · rw [if_pos e, if_pos (by rw [l1]; omega), rowsD_at (by simp [putM]) hh c, putM_get (by omega), if_pos (by omega)]
    · rw [if_neg e, rowsD_at (by simp [putM]) hh c, rowsD_at (by simp [putM]) hh c, putM_get (by omega), putM_get (by omega)]
      by_cases f : y ≤ i ∧ i < y + m
      · rw [if_pos f, if_pos (by omega)]
      · rw [if_neg f, if_neg (by omega)]
  · rw [if_neg (by omega), List.getElem?_eq_none (by rw [l1]; omega), List.getElem?_eq_none (by rw [l1]; omega)]

theorem wrap_over {x : Int} (h1 : 2 ^ 63 ≤ x) (h2 : x < 2 ^ 64) : IntKind.i64.wrap x = x - 2 ^ 64 := by
  simp [IntKind.wrap, IntKind.bits, IntKind.signed]
  omega

theorem stF_end {h : Nat} {S : List Int} {R : List Nat} {sq : List S3} (h1 : stA h S S.length = some (R, sq)) : stF h S = ((cofR (R.getD 0 0 : Nat) h sq).1, (cofR (R.getD 0 0 : Nat) h sq).2 && decide ((cofR (R.getD 0 0 : Nat) h sq).1.1 ≤ 30)) := by
  unfold stF
  rw [h1]

theorem stFill_ok (h : Nat) (S : List Int) (hh : 1 ≤ h ∧ h < 5) (hn : S.length ≤ 120) (hi : ∀ s ∈ S, s ≤ 2 ^ 63 - 1 ∧ - 2 ^ 63 ≤ s) : Fn G.P 44 [aI h, .c (.list 1 (S.map r1))] (.tup [.agg (dCut (stF h S).1.1 (stF h S).1.2.1 (stF h S).1.2.2), aB (stF h S).2]) := by
  refine fn_of_body (G := G) Try.func44 rfl (by decide) (Nat.le_of_ble_eq_true rfl) ?_
  conv => whnf
  repeat' first
    | exact True.intro
    | (refine draw_mkF ?_ ?_ ?_; (focus (decide +kernel)); (focus (kernel_rfl)); conv => whnf)
    | (refine Both.mk ?_ ?_ <;> conv => whnf)
    | (refine OwnQ.own ?_; conv => whnf)
    | (refine NilQ.mk (fun hnil => ?_) ?_ <;> conv => whnf)
    | (refine draw_mk (by kernel_rfl) ?_; conv => whnf)
    | (refine Br.mk (fun hb => ?_) (fun hb => ?_) <;> conv => whnf)
    | (refine And.intro ?_ ?_; (focus (first | decide | omega | (simp [contentOK, objRd, objAt, peel, List.length_map]; done) | (simp [contentOK, objRd, objAt, peel, List.length_map]; omega) | (simp [contentOK, objRd, objAt, peel, List.length_map] at *; omega))); conv => whnf)
  have e0 : List.replicate ((h : Int)).toNat [DC.v (.int .i64 0)] = rowsD h [0, 0, 0, 0] := by
    rw [Int.toNat_natCast]
    have : h = 1 ∨ h = 2 ∨ h = 3 ∨ h = 4 := by omega
    rcases this with rfl | rfl | rfl | rfl <;> rfl
  rw [e0, Int.toNat_natCast]
  refine .inl ⟨Nat × List Nat × List S3, fun x => S.length - x.1, fun x => x.1 ≤ S.length ∧ stA h S x.1 = some x.2 ∧ x.2.1.length = 4 ∧ x.2.2.length = x.1 ∧ ∀ r, x.2.1.getD r 0 ≤ 4 * x.1,
    fun x => ⟨[(0, .one (.c (vI h))), (4, .one (.c (.ptr 0 0 0))), (5, .one (.c (.d (.v (.bool false))))), (6, .one (.c (.sl 1 0 1 0 h none))), (7, .one (.c (.sl 2 0 3 0 x.1 none))), (19, .one (.c (.d (.list 1 (S.map r1))))), (20, .one (.c (vI S.length))), (21, .one (.c (vI x.1)))],
      [(0, .box [.d (dI 0), .d (dI 0), .nilsl]), (0, .arr 1 (rowsD h x.2.1)), (0, .arr 3 (x.2.2.map r3))], _⟩, (0, [0, 0, 0, 0], []), ⟨Nat.zero_le _, rfl, rfl, rfl, fun r => ?_⟩,
    weak_cap.trans (weak_nilof (t := [(0, .box [.d (dI 0), .d (dI 0), .nilsl]), (0, .arr 1 (rowsD h [0, 0, 0, 0]))]) 2 3 rfl ?_ rfl rfl rfl (Nat.zero_le _) (Nat.zero_le _)), ?_⟩
  · match r with
    | 0 => exact Nat.zero_le _
    | 1 => exact Nat.zero_le _
    | 2 => exact Nat.zero_le _
    | 3 => exact Nat.zero_le _
    | r + 4 => exact Nat.zero_le _
  · rw [List.length_map]
    (repeat' first | exact rfl | exact trivial | apply And.intro | (simp [getE]; done))
  rintro ⟨i, R, sq⟩ ⟨h1, h2, h3, h4, h5⟩
  dsimp only at h1 h2 h3 h4 h5 ⊢
  conv => whnf
  have hrl := rowsD_len h3 hh.2
  have hel0 : (rowsD h R)[0 + Int.toNat 0]? = some [dI (R.getD 0 0 : Nat)] := rowsD_at h3 hh.2 hh.1
  have hmk := cuMake_ok (R.getD 0 0 : Nat) h sq (by omega)
  repeat' first
    | (refine El.get hel0 ?_; conv => whnf)
    | exact True.intro
    | (refine draw_mkF ?_ ?_ ?_; (focus (decide +kernel)); (focus (kernel_rfl)); conv => whnf)
    | (refine Both.mk ?_ ?_ <;> conv => whnf)
    | (refine OwnQ.own ?_; conv => whnf)
    | (refine NilQ.mk (fun hnil => ?_) ?_ <;> conv => whnf)
    | (refine draw_mk (by kernel_rfl) ?_; conv => whnf)
    | (refine Br.mk (fun hb => ?_) (fun hb => ?_) <;> conv => whnf)
    | (refine El.mk (fun el hel => ?_); obtain ⟨s, hk, rfl⟩ := r1_get hel; conv => whnf)
    | (refine call_sn ?_ (hmk) ?_; (focus ((repeat' first | exact snapRow | exact snap_row (by simp; done) | exact rfl | exact trivial | apply And.intro | omega | (simp; done)); done)); conv => whnf)
    | (refine callP_sn ?_ (hmk) ?_; (focus ((repeat' first | exact snapRow | exact snap_row (by simp; done) | exact rfl | exact trivial | apply And.intro | omega | (simp; done)); done)); conv => whnf)
    | (refine And.intro ?_ ?_; (focus (first | decide | omega | (simp [contentOK, objRd, objAt, peel, List.length_map, hrl]; done) | (simp [contentOK, objRd, objAt, peel, List.length_map, hrl]; omega) | (simp [contentOK, objRd, objAt, peel, List.length_map, hrl] at *; omega))); conv => whnf)
  · have hk' : S[i]? = some s := by simpa using hk
    have hiS : i < S.length := (List.getElem?_eq_some_iff.1 hk').1
    have hsi := hi s (List.mem_of_getElem? hk')
    obtain ⟨f1, f2, f3⟩ := rowI_facts R h
    refine .inl ⟨Nat, fun j => h - j, fun j => j ≤ h,
      fun j => ⟨[(0, .one (.c (vI h))), (4, .one (.c (.ptr 0 0 0))), (5, .one (.c (.d (.v (.bool false))))), (6, .one (.c (.sl 1 0 1 0 h none))), (7, .one (.c (.sl 2 0 3 0 i none))), (9, .one (.c (vI s))), (10, .one (.c (vI (rowI R j : Nat)))), (19, .one (.c (.d (.list 1 (S.map r1))))), (20, .one (.c (vI S.length))), (21, .one (.c (vI i))),
          (25, .one (.c (.sl 1 0 1 0 h none))), (26, .one (.c (vI h))), (27, .one (.c (vI j)))],
        [(0, .box [.d (dI 0), .d (dI 0), .nilsl]), (0, .arr 1 (rowsD h R)), (0, .arr 3 (sq.map r3))], _⟩, 0, Nat.zero_le _, weak_of rfl ?_ rfl (Nat.zero_le _), fun j hj => ?_⟩
    · (repeat' first | exact rfl | exact trivial | apply And.intro | (simp [getE]; done))
    replace hj : j ≤ h := hj
    have hrj := (rowI_facts R j).1
    conv => whnf
    refine Br.mk (fun hb => ?_) (fun hb => ?_) <;> conv => whnf
    · have hjh : j < h := by simp at hb; omega
      have he1 : (rowsD h R)[0 + ((j : Int)).toNat]? = some [dI (R.getD j 0 : Nat)] := by rw [Nat.zero_add, Int.toNat_natCast]; exact rowsD_at h3 hh.2 hjh
      have he2 : (rowsD h R)[0 + ((rowI R j : Nat) : Int).toNat]? = some [dI (R.getD (rowI R j) 0 : Nat)] := by rw [Nat.zero_add, Int.toNat_natCast]; exact rowsD_at h3 hh.2 (by omega)
      have hwj : IntKind.i64.wrap ((j : Int) + 1) = ((j + 1 : Nat) : Int) := by rw [wrap_i64 _ (by omega) (by omega)]; omega
      repeat' first
        | (refine El.get he2 ?_; conv => whnf)
        | (refine El.get he1 ?_; conv => whnf)
        | exact True.intro
        | (refine draw_mkF ?_ ?_ ?_; (focus (decide +kernel)); (focus (kernel_rfl)); conv => whnf)
        | (refine Both.mk ?_ ?_ <;> conv => whnf)
        | (refine OwnQ.own ?_; conv => whnf)
        | (refine NilQ.mk (fun hnil => ?_) ?_ <;> conv => whnf)
        | (refine draw_mk (by kernel_rfl) ?_; conv => whnf)
        | (refine Br.mk (fun hb => ?_) (fun hb => ?_) <;> conv => whnf)
        | (refine And.intro ?_ ?_; (focus (first | decide | omega | (simp [contentOK, objRd, objAt, peel, hrl]; done) | (simp [contentOK, objRd, objAt, peel, hrl]; omega) | (simp [contentOK, objRd, objAt, peel, hrl] at *; omega))); conv => whnf)
      · have e : rowI R (j + 1) = j := by rw [rowI, if_pos (by simpa using hb)]
        refine ⟨j + 1, (by omega : j + 1 ≤ h), (by omega : h - (j + 1) < h - j), weak_of rfl ?_ rfl (Nat.zero_le _)⟩
        rw [e, hwj]
        (repeat' first | exact rfl | exact trivial | apply And.intro | (simp [getE]; done))
      · have e : rowI R (j + 1) = rowI R j := by rw [rowI, if_neg (by simpa using hb)]
        refine ⟨j + 1, (by omega : j + 1 ≤ h), (by omega : h - (j + 1) < h - j), weak_of rfl ?_ rfl (Nat.zero_le _)⟩
        rw [e, hwj]
        (repeat' first | exact rfl | exact trivial | apply And.intro | (simp [getE]; done))
    · obtain rfl : h = j := by simp at hb; omega
      have he2 : (rowsD h R)[0 + ((rowI R h : Nat) : Int).toNat]? = some [dI (R.getD (rowI R h) 0 : Nat)] := by rw [Nat.zero_add, Int.toNat_natCast]; exact rowsD_at h3 hh.2 (by omega)
      have hstop : s < 1 ∨ (h < rowI R h + s ∧ rowI R h + s < 2 ^ 63) → stF h S = ((0, 0, []), false) := fun hc => stF_stop (stA_no h2 hk' (fun ⟨g1, g2, _⟩ => by omega) (by omega)) (by omega)
      repeat' first
        | (refine El.get he2 ?_; conv => whnf)
        | exact True.intro
        | (refine draw_mkF ?_ ?_ ?_; (focus (decide +kernel)); (focus (kernel_rfl)); conv => whnf)
        | (refine Both.mk ?_ ?_ <;> conv => whnf)
        | (refine OwnQ.own ?_; conv => whnf)
        | (refine NilQ.mk (fun hnil => ?_) ?_ <;> conv => whnf)
        | (refine draw_mk (by kernel_rfl) ?_; conv => whnf)
        | (refine Br.mk (fun hb => ?_) (fun hb => ?_) <;> conv => whnf)
        | (refine And.intro ?_ ?_; (focus (first | decide | omega | (simp [contentOK, objRd, objAt, peel, hrl]; done) | (simp [contentOK, objRd, objAt, peel, hrl]; omega) | (simp [contentOK, objRd, objAt, peel, hrl] at *; omega))); conv => whnf)
      · rw [hstop (.inl (by simp at hb; omega))]
        simp [resOK_iff, resVs, resCell, resCells, refVs, refCV, refCs, dCut]
      · rw [hstop (.inr ?_)]
        · simp [resOK_iff, resVs, resCell, resCells, refVs, refCV, refCs, dCut]
        · simp at hb
          by_cases c : ((rowI R h : Nat) : Int) + s < 2 ^ 63
          · rw [wrap_i64 _ (by omega) (by omega)] at hb
            exact ⟨hb, c⟩
          · rw [wrap_over (by omega) (by omega)] at hb
            omega
      have hs1 : 1 ≤ s := Int.not_lt.1 (of_decide_eq_false (show decide (s < 1) = false by assumption))
      have hpass : rowI R h + s ≤ h ∨ 2 ^ 63 ≤ rowI R h + s := by
        simp at hb
        by_cases c : ((rowI R h : Nat) : Int) + s < 2 ^ 63
        · rw [wrap_i64 _ (by omega) (by omega)] at hb
          exact .inl hb
        · exact .inr (by omega)
      have hx := h5 (rowI R h)
      refine .inl ⟨Nat, fun m => s.toNat - m, fun m => (m : Int) ≤ s ∧ (m = 0 ∨ rowI R h + s ≤ h) ∧ ∀ k, k < m → R.getD (rowI R h + k) 0 = R.getD (rowI R h) 0,
        fun m => ⟨[(0, .one (.c (vI h))), (4, .one (.c (.ptr 0 0 0))), (5, .one (.c (.d (.v (.bool false))))), (6, .one (.c (.sl 1 0 1 0 h none))), (7, .one (.c (.sl 2 0 3 0 i none))), (9, .one (.c (vI s))), (10, .one (.c (vI (rowI R h : Nat)))), (13, .one (.c (vI (R.getD (rowI R h) 0 : Nat)))), (14, .one (.c (vI (rowI R h + m : Nat)))), (19, .one (.c (.d (.list 1 (S.map r1))))), (20, .one (.c (vI S.length))), (21, .one (.c (vI i)))],
          [(0, .box [.d (dI 0), .d (dI 0), .nilsl]), (0, .arr 1 (rowsD h (putM R (rowI R h) m (R.getD (rowI R h) 0 + s.toNat)))), (0, .arr 3 (sq.map r3))], _⟩, 0, ⟨by show (0 : Int) ≤ s; omega, .inl rfl, fun k hk => by omega⟩, weak_of (by rw [putM_zero h3]; rfl) ?_ rfl (Nat.zero_le _), ?_⟩
      · (repeat' first | exact rfl | exact trivial | apply And.intro | (simp [getE]; done))
      rintro m ⟨m1, m2, m3⟩
      conv => whnf
      have hlm : (rowsD h (putM R (rowI R h) m (R.getD (rowI R h) 0 + s.toNat))).length = h := rowsD_len (by simp [putM]) hh.2
      refine Br.mk (fun hb1 => ?_) (fun hb1 => ?_) <;> conv => whnf
      · have hfit : rowI R h + s ≤ h ∧ (m : Int) < s := by
          simp at hb1
          rcases hpass with g | g
          · rw [wrap_i64 _ (by omega) (by omega)] at hb1
            omega
          · rw [wrap_over (by omega) (by omega)] at hb1
            omega
        have hem : (rowsD h (putM R (rowI R h) m (R.getD (rowI R h) 0 + s.toNat)))[0 + ((rowI R h + m : Nat) : Int).toNat]? = some [dI (R.getD (rowI R h + m) 0 : Nat)] := by
          rw [Nat.zero_add, Int.toNat_natCast, rowsD_at (by simp [putM]) hh.2 (by omega), putM_get (by omega), if_neg (by omega)]
        have hwx : IntKind.i64.wrap (((R.getD (rowI R h) 0 : Nat) : Int) + s) = ((R.getD (rowI R h) 0 + s.toNat : Nat) : Int) := by rw [wrap_i64 _ (by omega) (by omega)]; omega
        have hwk : IntKind.i64.wrap (((rowI R h + m : Nat) : Int) + 1) = ((rowI R h + (m + 1) : Nat) : Int) := by rw [wrap_i64 _ (by omega) (by omega)]; omega
        repeat' first
          | (refine El.get hem ?_; conv => whnf)
          | exact True.intro
          | (refine draw_mkF ?_ ?_ ?_; (focus (decide +kernel)); (focus (kernel_rfl)); conv => whnf)
          | (refine Both.mk ?_ ?_ <;> conv => whnf)
          | (refine OwnQ.own ?_; conv => whnf)
          | (refine NilQ.mk (fun hnil => ?_) ?_ <;> conv => whnf)
          | (refine draw_mk (by kernel_rfl) ?_; conv => whnf)
          | (refine Br.mk (fun hb => ?_) (fun hb => ?_) <;> conv => whnf)
          | (refine And.intro ?_ ?_; (focus (first | decide | omega | (simp [contentOK, objRd, objAt, peel, hlm]; done) | (simp [contentOK, objRd, objAt, peel, hlm]; omega) | (simp [contentOK, objRd, objAt, peel, hlm] at *; omega))); conv => whnf)
        · have hne : R.getD (rowI R h + m) 0 ≠ R.getD (rowI R h) 0 := by intro e; rw [e] at hb; simp at hb
          rw [stF_stop (stA_no h2 hk' (fun ⟨_, _, g3⟩ => hne (g3 m (by omega))) (by omega)) (by omega)]
          simp [resOK_iff, resVs, resCell, resCells, refVs, refCV, refCs, dCut]
        · have heq : R.getD (rowI R h + m) 0 = R.getD (rowI R h) 0 := by simp at hb; simp only [List.getD_eq_getElem?_getD]; omega
          refine ⟨m + 1, ⟨by show ((m + 1 : Nat) : Int) ≤ s; omega, .inr hfit.1, fun k hk => ?_⟩, by show s.toNat - (m + 1) < s.toNat - m; omega, weak_of ?_ ?_ rfl (Nat.zero_le _)⟩
          · rcases Nat.lt_or_ge k m with g | g
            · exact m3 k g
            · rw [show k = m by omega]; exact heq
          · have := putM_set (R := R) (v := R.getD (rowI R h) 0 + s.toNat) hh.2 (show rowI R h + m < h by omega)
            rw [hwx, Nat.zero_add, Int.toNat_natCast]
            exact congrArg (fun z => [(0, OB.box [.d (dI 0), .d (dI 0), .nilsl]), (0, OB.arr 1 z), (0, OB.arr 3 (sq.map r3))]) this
          · rw [hwk]
            (repeat' first | exact rfl | exact trivial | apply And.intro | (simp [getE]; done))
      · have hend : (rowI R h + s ≤ h ∧ (m : Int) = s) ∨ (m = 0 ∧ 2 ^ 63 ≤ rowI R h + s) := by
          simp at hb1
          rcases hpass with g | g
          · rw [wrap_i64 _ (by omega) (by omega)] at hb1
            exact .inl ⟨g, by omega⟩
          · rcases m2 with g2 | g2
            · exact .inr ⟨g2, g⟩
            · omega
        have hst : stA h S (i + 1) = some (putM R (rowI R h) m (R.getD (rowI R h) 0 + s.toNat), sq ++ [(((R.getD (rowI R h) 0 : Nat) : Int), ((rowI R h : Nat) : Int), s)]) := by
          rcases hend with ⟨g1, g2⟩ | ⟨g1, g2⟩
          · have hsn : s = (m : Int) := g2.symm
            subst hsn
            rw [Int.toNat_natCast, putM_end (fun k hk => by rw [m3 k hk])]
            exact stA_yes h2 hk' ⟨by omega, by omega, fun k hk => m3 k hk⟩
          · rw [g1, putM_zero h3]
            exact stA_over h2 hk' (fun ⟨g3, g4, _⟩ => by omega) g2
        have hbd : ∀ r, (putM R (rowI R h) m (R.getD (rowI R h) 0 + s.toNat)).getD r 0 ≤ 4 * (i + 1) := by
          intro r
          rcases Nat.lt_or_ge r 4 with g | g
          · rw [putM_get g]
            have := h5 r
            split <;> omega
          · rw [List.getD_eq_getElem?_getD, List.getElem?_eq_none (by simp [putM]; omega)]
            exact Nat.zero_le _
        have hlen : (putM R (rowI R h) m (R.getD (rowI R h) 0 + s.toNat)).length = 4 := by simp [putM]
        generalize putM R (rowI R h) m (R.getD (rowI R h) 0 + s.toNat) = R' at hst hbd hlen hlm
        have hwi := wrap_len (n := i + 1) (by omega)
        repeat' first
          | exact True.intro
          | (refine draw_mkF ?_ ?_ ?_; (focus (decide +kernel)); (focus (kernel_rfl)); conv => whnf)
          | (refine Both.mk ?_ ?_ <;> conv => whnf)
          | (refine OwnQ.own ?_; conv => whnf)
          | (refine NilQ.mk (fun hnil => ?_) ?_ <;> conv => whnf)
          | (refine draw_mk (by kernel_rfl) ?_; conv => whnf)
          | (refine Br.mk (fun hb => ?_) (fun hb => ?_) <;> conv => whnf)
          | (refine And.intro ?_ ?_; (focus (first | decide | omega | (simp [contentOK, objRd, objAt, peel, List.length_map, h4]; done) | (simp [contentOK, objRd, objAt, peel, List.length_map, h4]; omega) | (simp [contentOK, objRd, objAt, peel, List.length_map, h4] at *; omega))); conv => whnf)
        refine ⟨(i + 1, R', sq ++ [(((R.getD (rowI R h) 0 : Nat) : Int), ((rowI R h : Nat) : Int), s)]), ⟨by show i + 1 ≤ S.length; omega, hst, hlen, by simp [h4], hbd⟩, by show S.length - (i + 1) < S.length - i; omega, weak_capver 2 1 0 ?_ ?_ rfl rfl (Nat.zero_le _) (Nat.zero_le _)⟩
        · rw [app_one (f := r3) (v := [dI (R.getD (rowI R h) 0 : Nat), dI (rowI R h : Nat), dI s]) (((R.getD (rowI R h) 0 : Nat) : Int), ((rowI R h : Nat) : Int), s) h4.symm rfl]
          rfl
        · repeat' first
          | exact rfl
          | exact trivial
          | apply And.intro
          | exact congrArg (fun m => SV.one (V1.c (vI m))) hwi
  · have e : i = (sq.map r3).length := by simp [h4]
    have hin : i = S.length := by simp at hb; omega
    rw [e]
    repeat' first
      | exact True.intro
      | (refine Both.mk ?_ ?_ <;> conv => whnf)
      | (refine OwnQ.own ?_; conv => whnf)
      | (refine NilQ.mk (fun hnil => ?_) ?_ <;> conv => whnf)
      | (refine Br.mk (fun hb => ?_) (fun hb => ?_) <;> conv => whnf)
      | (refine call_sn ?_ (hmk) ?_; (focus ((repeat' first | exact snapRow | exact snap_row (by simp; done) | exact rfl | exact trivial | apply And.intro | omega | (simp; done)); done)); conv => whnf)
      | (refine callP_sn ?_ (hmk) ?_; (focus ((repeat' first | exact snapRow | exact snap_row (by simp; done) | exact rfl | exact trivial | apply And.intro | omega | (simp; done)); done)); conv => whnf)
      | (refine And.intro ?_ ?_; (focus (first | decide | omega | (simp [contentOK, objRd, objAt, peel, List.length_map, hrl]; done) | (simp [contentOK, objRd, objAt, peel, List.length_map, hrl]; omega) | (simp [contentOK, objRd, objAt, peel, List.length_map, hrl] at *; omega))); conv => whnf)
    subst hin
    rw [stF_end h2]
    clear e hmk h1 h4 hb
    generalize cofR (R.getD 0 0 : Nat) h sq = C
    obtain ⟨⟨cw, ch, cl⟩, cb⟩ := C
    cases cb
    all_goals
      repeat' first
        | (refine draw_mkW (by kernel_rfl) ?_; conv => whnf)
        | exact True.intro
        | (refine Both.mk ?_ ?_ <;> conv => whnf)
        | (refine OwnQ.own ?_; conv => whnf)
        | (refine NilQ.mk (fun hnil => ?_) ?_ <;> conv => whnf)
        | (refine Br.mk (fun hb => ?_) (fun hb => ?_) <;> conv => whnf)
        | (refine And.intro ?_ ?_; (focus (first | decide | omega | (simp at *; omega) | (simp_all; done))); conv => whnf)
        | (refine And.intro ?_ ?_ <;> conv => whnf)
      all_goals exact ⟨⟨⟨rfl, rfl, res_cell (by simp [objAt]) (by simp) r3_flat, trivial⟩, rfl, trivial⟩, by simp [refVs, refCV, refCs]⟩

end Go.Proofs.Ytmfdkjjhdjkgpaa

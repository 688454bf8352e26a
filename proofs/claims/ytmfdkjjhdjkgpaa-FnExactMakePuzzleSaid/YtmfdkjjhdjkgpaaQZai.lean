/- What clues tell of cuts: turned cuts, the longest line, what the program tells. -/
import Derived.Test.YtmfdkjjhdjkgpaaQZah
import Derived.Test.YtmfdkjjhdjkgpaaQZf
import Derived.Test.YtmfdkjjhdjkgpaaQZt
import Derived.Test.YtmfdkjjhdjkgpaaQCclue
namespace Go.Proofs.Ytmfdkjjhdjkgpaa
open Go Go.RowKit
set_option maxRecDepth 10000
set_option maxHeartbeats 1000000
set_option linter.unusedSimpArgs false

theorem turned0_x {w h : Nat} {sq : List (Int × Int × Int)} (ht : Tiled w h sq) (hw : 1 ≤ w ∧ w ≤ 500) (hh : 1 ≤ h ∧ h ≤ 500) (hn : 1 ≤ sq.length ∧ sq.length ≤ 30) :
    CallX G.P 139 [.agg [.d (dI w), .d (dI h), .d (.list 3 (sq.map r3))]] [] (fun sv objs' => ∃ ys : List (Int × Int × Int), ys.Perm (sq.map (turnQ h)) ∧ sv = .one (.agg [.d (dI h), .d (dI w), .sl 5 0 3 0 sq.length none]) ∧
      ∃ b0 b1 b2 b3 b4 gs, objs' = b0 :: b1 :: b2 :: b3 :: b4 :: (0, .arr 3 (ys.map r3)) :: gs) := by
  have hs := ht.small hw.2 hh.2
  refine call_body (G := G) Try.func139 rfl (by decide) (Nat.le_of_ble_eq_true rfl) ?_
  conv => whnf
  repeat' first
    | exact True.intro
    | (refine draw_mkF ?_ ?_ ?_; (focus (decide +kernel)); (focus (kernel_rfl)); conv => whnf)
    | (refine Both.mk ?_ ?_ <;> conv => whnf)
    | (refine OwnQ.own ?_; conv => whnf)
    | (refine NilQ.mk (fun hnil => ?_) ?_ <;> conv => whnf)
    | (refine draw_mk (by kernel_rfl) ?_; conv => whnf)
    | (refine Br.mk (fun hb => ?_) (fun hb => ?_) <;> conv => whnf)
    | (refine call_body (G := G) Try.func148 rfl (by decide) (Nat.le_of_ble_eq_true rfl) ?_; conv => whnf)
    | (refine callP_text (call_body (G := G) Try.func148 rfl (by decide) (Nat.le_of_ble_eq_true rfl) ?_); conv => whnf)
    | (refine And.intro ?_ ?_; (focus (first | decide | omega | (simp at *; omega) | (simp_all; done))); conv => whnf)
  refine .inl ⟨Nat, fun i => sq.length - i, fun i => i ≤ sq.length, fun i => ⟨[(3, .one (.c (.fn 149 [(0, 0, 0)]))), (8, .one (.c (.ptr 3 0 0))), (9, .one (.c (.ptr 4 0 0))), (16, .one (.c (.d (.list 3 (sq.map r3))))), (17, .one (.c (vI (sq.map r3).length))), (18, .one (.c (vI i)))],
    [(0, .box [.d (dI w), .d (dI h), .d (.list 3 (sq.map r3))]), (0, .box [.d (dI 0), .d (dI 0), .nilsl]), (0, .box [.d (dI w), .d (dI h), .d (.list 3 (sq.map r3))]), (0, .box [.d (dI 0), .d (dI 0), .nilsl]), (0, .box [.d (dI h), .d (dI w), .sl 5 0 3 0 i none]),
      (0, .arr 3 (((sq.take i).map (turnQ h)).map r3))], _⟩, 0, Nat.zero_le _, weak_cap.trans (weak_nilof (t := [(0, .box [.d (dI w), .d (dI h), .d (.list 3 (sq.map r3))]), (0, .box [.d (dI 0), .d (dI 0), .nilsl]), (0, .box [.d (dI w), .d (dI h), .d (.list 3 (sq.map r3))]), (0, .box [.d (dI 0), .d (dI 0), .nilsl]), (0, .box [.d (dI h), .d (dI w), .sl 5 0 3 0 0 none])]) 5 3 rfl ?_ rfl rfl rfl (Nat.le_of_ble_eq_true rfl) (Nat.le_of_ble_eq_true rfl)), fun i hi => ?_⟩
  · (repeat' first | exact rfl | exact trivial | apply And.intro | (simp [getE]; done))
  replace hi : i ≤ sq.length := hi
  dsimp only
  have hlen : (((sq.take i).map (turnQ h)).map r3).length = i := by simp; omega
  conv => whnf
  refine Br.mk (fun hb => ?_) (fun hb => ?_) <;> conv => whnf
  · have hlt : i < sq.length := by simp at hb; omega
    obtain ⟨⟨x, y, s⟩, hc⟩ : ∃ q, sq[i]? = some q := ⟨_, List.getElem?_eq_getElem hlt⟩
    have hsm := hs _ (List.mem_of_getElem? hc)
    have hg : (sq.map r3)[((i : Int)).toNat]? = some [dI x, dI y, dI s] := by rw [Int.toNat_natCast, List.getElem?_map, hc]; rfl
    have ht1 : sq.take (i + 1) = sq.take i ++ [(x, y, s)] := take_next hc
    have e1 : IntKind.i64.wrap ((h : Int) - y) = h - y := by simp only [smallSq] at hsm; exact wrap_i64 _ (by omega) (by omega)
    have e2 : IntKind.i64.wrap ((h : Int) - y - s) = h - y - s := by simp only [smallSq] at hsm; exact wrap_i64 _ (by omega) (by omega)
    have hwi : IntKind.i64.wrap ((i : Int) + 1) = ((i + 1 : Nat) : Int) := by rw [wrap_i64 _ (by omega) (by omega)]; omega
    clear hb
    have hrow : ((sq.take (i + 1)).map (turnQ h)).map r3 = ((sq.take i).map (turnQ h) ++ [turnQ h (x, y, s)]).map r3 := by rw [ht1, List.map_append]; rfl
    repeat' first
      | (refine draw_mkW (by kernel_rfl) ?_; conv => whnf)
      | (refine El.get hg ?_; conv => whnf)
      | exact True.intro
      | (refine Both.mk ?_ ?_ <;> conv => whnf)
      | (refine OwnQ.own ?_; conv => whnf)
      | (refine NilQ.mk (fun hnil => ?_) ?_ <;> conv => whnf)
      | (refine Br.mk (fun hb => ?_) (fun hb => ?_) <;> conv => whnf)
      | (refine call_body (G := G) Try.func149 rfl (by decide) (Nat.le_of_ble_eq_true rfl) ?_; conv => whnf)
      | (refine callP_text (call_body (G := G) Try.func149 rfl (by decide) (Nat.le_of_ble_eq_true rfl) ?_); conv => whnf)
      | (refine And.intro ?_ ?_; (focus (first | decide | omega | (simp [contentOK, objRd, objAt, peel, hlen, List.length_set, List.length_replicate]; done) | (simp [contentOK, objRd, objAt, peel, hlen, List.length_set, List.length_replicate]; omega) | (simp [contentOK, objRd, objAt, peel, hlen, List.length_set, List.length_replicate] at *; omega))); conv => whnf)
    all_goals
      refine ⟨i + 1, by omega, by omega, ?_⟩
      rw [hwi, hrow, e1, e2, ← app_one (n := i) (z := [dI 0, dI 0, dI 0]) (turnQ h (x, y, s)) (by simp; omega) rfl]
      exact weak_capver 5 1 0 rfl (by (repeat' first | exact rfl | exact trivial | apply And.intro | (simp [getE]; done))) rfl rfl (Nat.le_of_ble_eq_true rfl) (Nat.le_of_ble_eq_true rfl)
  · have hie : i = sq.length := by simp at hb; omega
    subst hie
    rw [List.take_length]
    clear hb
    repeat' first
      | exact True.intro
      | (refine draw_mkF ?_ ?_ ?_; (focus (decide +kernel)); (focus (kernel_rfl)); conv => whnf)
      | (refine Both.mk ?_ ?_ <;> conv => whnf)
      | (refine OwnQ.own ?_; conv => whnf)
      | (refine NilQ.mk (fun hnil => ?_) ?_ <;> conv => whnf)
      | (refine draw_mk (by kernel_rfl) ?_; conv => whnf)
      | (refine Br.mk (fun hb => ?_) (fun hb => ?_) <;> conv => whnf)
      | (refine And.intro ?_ ?_; (focus (first | decide | omega | (simp at *; omega) | (simp_all; done))); conv => whnf)
    have hok : ∀ q ∈ sq.map (turnQ h), okSq q := by
      intro q hq
      obtain ⟨p, hp, rfl⟩ := List.mem_map.1 hq
      have := hs p hp
      simp only [smallSq] at this
      simp only [okSq, turnQ]
      omega
    refine frameN [5] (sortYX_min (sq.map (turnQ h)) hok (by rw [List.length_map]; omega) (by rw [List.length_map]; omega) sq.length none (List.length_map _).symm) rfl (by decide) ⟨rfl, rfl⟩ rfl ?_
    rintro _ _ ⟨rfl, ys, hp, _, gs, rfl⟩
    refine ⟨[_], gs, rfl, Nat.le_refl _, rfl, ?_⟩
    conv => whnf
    repeat' first
      | exact True.intro
      | (refine draw_mkF ?_ ?_ ?_; (focus (decide +kernel)); (focus (kernel_rfl)); conv => whnf)
      | (refine Both.mk ?_ ?_ <;> conv => whnf)
      | (refine OwnQ.own ?_; conv => whnf)
      | (refine NilQ.mk (fun hnil => ?_) ?_ <;> conv => whnf)
      | (refine draw_mk (by kernel_rfl) ?_; conv => whnf)
      | (refine Br.mk (fun hb => ?_) (fun hb => ?_) <;> conv => whnf)
      | (refine And.intro ?_ ?_; (focus (first | decide | omega | (simp at *; omega) | (simp_all; done))); conv => whnf)
    exact ⟨ys, hp, rfl, _, _, _, _, _, _, rfl⟩

/-- The same, with the squares as data. -/
theorem turned_x {w h : Nat} {sq : List (Int × Int × Int)} (ht : Tiled w h sq) (hw : 1 ≤ w ∧ w ≤ 500) (hh : 1 ≤ h ∧ h ≤ 500) (hn : 1 ≤ sq.length ∧ sq.length ≤ 30) :
    CallX G.P 139 [.agg [.d (dI w), .d (dI h), .d (.list 3 (sq.map r3))]] [] (fun sv objs' => ∃ ys : List (Int × Int × Int), ys.Perm (sq.map (turnQ h)) ∧ sv = .one (.agg [.d (dI h), .d (dI w), .d (.list 3 (ys.map r3))]) ∧ objs' = []) := by
  have h1 := (turned0_x ht hw hh hn).freeze (K' := fun sv objs' => ∃ ys : List (Int × Int × Int), ys.Perm (sq.map (turnQ h)) ∧ sv = .one (.agg [.d (dI h), .d (dI w), .d (.list 3 (ys.map r3))])) ?_
  · refine callX_tail h1 ?_
    rintro sv objs1 ⟨ys, hp, rfl⟩
    exact ⟨[], objs1, rfl, Nat.le_refl _, rfl, ys, hp, rfl, rfl⟩
  · rintro sv objs1 ⟨ys, hp, rfl, b0, b1, b2, b3, b4, gs, rfl⟩
    have hl : (ys.map r3).length = sq.length := by rw [List.length_map, hp.length_eq, List.length_map]
    have hd : ((ys.map r3).drop 0).take sq.length = ys.map r3 := by rw [List.drop_zero, List.take_of_length_le (by omega)]
    refine ⟨_, .agg [dI h, dI w, .list 3 (ys.map r3)], b0 :: b1 :: b2 :: b3 :: b4 :: (0, .fro true (.arr 3 (ys.map r3))) :: gs, rfl, ⟨trivial, trivial, ?_, trivial⟩, ?_, ys, hp, rfl⟩
    · show 0 + sq.length ≤ (ys.map r3).length
      omega
    · show some (DV.agg [dI h, dI w, .list 3 (((ys.map r3).drop 0).take sq.length)], b0 :: b1 :: b2 :: b3 :: b4 :: (0, OB.fro true (.arr 3 (ys.map r3))) :: gs) = _
      rw [hd]

/-- A line, as data. -/
def dln (l : L3) : List DC := [.list 1 [[dI l.1], [dI l.2.1], [dI l.2.2]]]

theorem lines_d {w h : Nat} {sq : List (Int × Int × Int)} (ht : Tiled w h sq) (hw : w ≤ 500) (hh : h ≤ 500) (hn : sq.length ≤ 30) :
    CallX G.P 140 [.agg [.d (dI w), .d (dI h), .d (.list 3 (sq.map r3))]] [] (fun sv objs' => sv = .one (.c (.d (.list 1 ((lnAll (edgeB sq) w (h + 1)).map dln)))) ∧ objs' = []) := by
  have h0 := linesAcross_x ht hw hh hn
  generalize lnAll (edgeB sq) w (h + 1) = L at h0
  cases L with
  | nil =>
    have h1 := h0.freeze (K' := fun sv _ => sv = .one (.c (.d (.list 1 (([] : List L3).map dln))))) ?_
    · exact callX_tail h1 fun sv objs1 e => ⟨[], objs1, rfl, Nat.le_refl _, by rw [e]; rfl, e, rfl⟩
    · rintro sv objs1 ⟨rfl, b, gs, rfl⟩
      exact ⟨_, .c (.list 1 []), (0, .box b) :: (0, .fro true (.arr 1 [])) :: gs, rfl, Nat.le_refl _, rfl, rfl⟩
  | cons l L =>
    have h1 := h0.freezeG (K' := fun sv _ => sv = .one (.c (.d (.list 1 ((l :: L).map dln))))) ?_
    · exact callX_tail h1 fun sv objs1 e => ⟨[], objs1, rfl, Nat.le_refl _, by rw [e]; rfl, e, rfl⟩
    · rintro sv objs1 ⟨rfl, b, gs, rfl⟩
      exact ⟨1, 0, 1, _, none, (l :: L).map gln, rfl, rfl, (List.length_map _).symm, by rw [List.map_map]; rfl⟩

def lnB (h w : Nat) (l : L3) : Prop := 0 ≤ l.1 ∧ l.1 ≤ h ∧ 0 ≤ l.2.1 ∧ l.2.1 ≤ w ∧ 0 ≤ l.2.2 ∧ l.2.2 ≤ w

theorem lnRow_b {h w : Nat} {p : Nat → Bool} {y : Nat} {L : List L3} (hy : y ≤ h) (hL : ∀ l ∈ L, lnB h w l) : ∀ x, x ≤ w → ∀ l ∈ lnRow p y L x, lnB h w l
  | 0, _ => hL
  | x + 1, hx => by
    have ih := lnRow_b hy hL (p := p) x (by omega)
    intro l hl
    unfold lnRow at hl
    split at hl
    · split at hl
      · unfold setLast at hl
        rcases List.mem_or_eq_of_mem_set hl with hl | rfl
        · exact ih l hl
        · cases hg : (lnRow p y L x).getLast? with
          | none => simp only [lnB, Option.getD_none]; omega
          | some q =>
            have := ih q (List.mem_of_getLast? hg)
            simp only [lnB, Option.getD_some] at this ⊢
            omega
      · rcases List.mem_append.1 hl with hl | hl
        · exact ih l hl
        · rw [List.mem_singleton.1 hl]
          simp only [lnB]
          omega
    · exact ih l hl

theorem lnAll_b {h w : Nat} {p : Nat → Nat → Bool} : ∀ n, n ≤ h + 1 → ∀ l ∈ lnAll p w n, lnB h w l
  | 0, _ => by simp [lnAll]
  | n + 1, hn => lnRow_b (by omega) (lnAll_b n (by omega)) w (Nat.le_refl _)

theorem lnMax_snoc (h : Int) (L : List L3) (l : L3) (m : Nat) : lnMax h (L ++ [l]) m = if 1 ≤ l.1 ∧ l.1 ≤ h - 1 then max (lnMax h L m) (l.2.2 - l.2.1).toNat else lnMax h L m := by simp [lnMax]

theorem lnMax_le {h : Int} {H w : Nat} : ∀ {L : List L3} {m : Nat}, (∀ l ∈ L, lnB H w l) → m ≤ 500 → w ≤ 500 → lnMax h L m ≤ 500
  | [], _, _, hm, _ => hm
  | l :: r, m, hl, hm, hw => by
    have h1 := hl l (by simp)
    simp only [lnB] at h1
    refine lnMax_le (L := r) (m := if 1 ≤ l.1 ∧ l.1 ≤ h - 1 then max m (l.2.2 - l.2.1).toNat else m) (fun q hq => hl q (by simp [hq])) ?_ hw
    split
    · omega
    · exact hm

theorem longestLine_ok {w h : Nat} {sq : List (Int × Int × Int)} (ht : Tiled w h sq) (hw : 1 ≤ w ∧ w ≤ 500) (hh : 1 ≤ h ∧ h ≤ 500) (hn : 1 ≤ sq.length ∧ sq.length ≤ 30) :
    Fn G.P 107 [.agg (dCut w h sq)] (.one (aI (longN w h sq))) := by
  have hs := ht.small hw.2 hh.2
  have hturn := turned_x ht hw hh hn
  have hlines := lines_d ht hw.2 hh.2 hn.2
  refine fn_of_body (G := G) Try.func107 rfl (by decide) (Nat.le_of_ble_eq_true rfl) ?_
  conv => whnf
  repeat' first
    | exact True.intro
    | (refine draw_mkF ?_ ?_ ?_; (focus (decide +kernel)); (focus (kernel_rfl)); conv => whnf)
    | (refine Both.mk ?_ ?_ <;> conv => whnf)
    | (refine OwnQ.own ?_; conv => whnf)
    | (refine NilQ.mk (fun hnil => ?_) ?_ <;> conv => whnf)
    | (refine draw_mk (by kernel_rfl) ?_; conv => whnf)
    | (refine Br.mk (fun hb => ?_) (fun hb => ?_) <;> conv => whnf)
    | (refine And.intro ?_ ?_; (focus (first | decide | omega | (simp at *; omega) | (simp_all; done))); conv => whnf)
  refine callP_data hturn rfl rfl ?_
  rintro _ _ ⟨ys, hp, rfl, rfl⟩
  refine ⟨rfl, rfl, rfl, ?_⟩
  conv => whnf
  repeat' first
    | exact True.intro
    | (refine draw_mkF ?_ ?_ ?_; (focus (decide +kernel)); (focus (kernel_rfl)); conv => whnf)
    | (refine Both.mk ?_ ?_ <;> conv => whnf)
    | (refine OwnQ.frz ?_; conv => whnf)
    | (refine NilQ.mk (fun hnil => ?_) ?_ <;> conv => whnf)
    | (refine draw_mk (by kernel_rfl) ?_; conv => whnf)
    | (refine Br.mk (fun hb => ?_) (fun hb => ?_) <;> conv => whnf)
    | (refine And.intro (show freezePsOK _ _ from ?_) ?_; (focus ((conv => whnf); (repeat' first | exact True.intro | (apply And.intro <;> (conv => whnf)) | exact Nat.le_of_ble_eq_true rfl | (show (_ : Nat) ≤ _; simp; done) | (show (_ : Nat) ≤ _; simp; omega)))); conv => whnf)
    | (refine And.intro ?_ ?_; (focus (first | decide | omega | (simp at *; omega) | (simp_all; done))); conv => whnf)
  have hlines2 := lines_d (ht.turn.perm hp) hh.2 hw.2 (by rw [hp.length_eq, List.length_map]; exact hn.2)
  have hlong := long_eq ht hp
  refine .inr ⟨3, ?_⟩
  conv => whnf
  repeat' first
    | exact True.intro
    | (refine draw_mkF ?_ ?_ ?_; (focus (decide +kernel)); (focus (kernel_rfl)); conv => whnf)
    | (refine Both.mk ?_ ?_ <;> conv => whnf)
    | (refine OwnQ.own ?_; conv => whnf)
    | (refine NilQ.mk (fun hnil => ?_) ?_ <;> conv => whnf)
    | (refine draw_mk (by kernel_rfl) ?_; conv => whnf)
    | (refine Br.mk (fun hb => ?_) (fun hb => ?_) <;> conv => whnf)
    | (refine El.get rfl ?_; conv => whnf)
    | (refine And.intro ?_ ?_; (focus (first | decide | omega | (simp at *; omega) | (simp_all; done))); conv => whnf)
  refine frameN [] hlines rfl (by decide) rfl rfl ?_
  rintro _ _ ⟨rfl, rfl⟩
  refine ⟨[], [], rfl, Nat.zero_le _, rfl, ?_⟩
  conv => whnf
  repeat' first
    | exact True.intro
    | (refine draw_mkF ?_ ?_ ?_; (focus (decide +kernel)); (focus (kernel_rfl)); conv => whnf)
    | (refine Both.mk ?_ ?_ <;> conv => whnf)
    | (refine OwnQ.own ?_; conv => whnf)
    | (refine NilQ.mk (fun hnil => ?_) ?_ <;> conv => whnf)
    | (refine draw_mk (by kernel_rfl) ?_; conv => whnf)
    | (refine Br.mk (fun hb => ?_) (fun hb => ?_) <;> conv => whnf)
    | (refine And.intro ?_ ?_; (focus (first | decide | omega | (simp at *; omega) | (simp_all; done))); conv => whnf)
  have hb1 : ∀ l ∈ lnAll (edgeB sq) w (h + 1), lnB h w l := lnAll_b (h + 1) (Nat.le_refl _)
  have hb2 : ∀ l ∈ lnAll (edgeB ys) h (w + 1), lnB w h l := lnAll_b (w + 1) (Nat.le_refl _)
  have hn1 := Nat.le_trans (lnAll_len (edgeB sq) w (h + 1)) (Nat.mul_le_mul (show h + 1 ≤ 501 by omega) hw.2)
  have hn2 := Nat.le_trans (lnAll_len (edgeB ys) h (w + 1)) (Nat.mul_le_mul (show w + 1 ≤ 501 by omega) hh.2)
  generalize lnAll (edgeB sq) w (h + 1) = L1 at hb1 hn1 hlong
  generalize lnAll (edgeB ys) h (w + 1) = L2 at hb2 hn2 hlong hlines2
  refine .inl ⟨Nat, fun i => L1.length - i, fun i => i ≤ L1.length, fun i => ⟨[(1, .one (.c (.ptr 0 0 0))), (3, .one (.c (vI (lnMax (h : Int) (L1.take i) 0)))), (5, .one (.c (.ptr 2 0 0))), (11, .one (.c (.sl 1 0 3 0 2 none))), (12, .one (.c (vI 2))), (13, .one (.c (vI 0))),
      (18, .one (.c (.d (.list 1 (L1.map dln))))), (19, .one (.c (vI (L1.map dln).length))), (20, .one (.c (vI i)))], [(0, .box [.d (dI w), .d (dI h), .d (.list 3 (sq.map r3))]), (0, .arr 3 [[dI w, dI h, .list 3 (sq.map r3)], [dI h, dI w, .list 3 (ys.map r3)]]), (0, .box [.d (dI w), .d (dI h), .d (.list 3 (sq.map r3))])], _⟩, 0, Nat.zero_le _, weak_capof rfl ?_ rfl (Nat.zero_le _), fun i hi => ?_⟩
  · (repeat' first | exact rfl | exact trivial | apply And.intro | (simp [getE]; done))
  replace hi : i ≤ L1.length := hi
  dsimp only
  conv => whnf
  refine Br.mk (fun hb => ?_) (fun hb => ?_) <;> conv => whnf
  · have hlt : i < L1.length := by simp at hb; omega
    obtain ⟨⟨a, b, d⟩, hc⟩ : ∃ q, L1[i]? = some q := ⟨_, List.getElem?_eq_getElem hlt⟩
    have hbd := hb1 _ (List.mem_of_getElem? hc)
    simp only [lnB] at hbd
    have hg : (L1.map dln)[((i : Int)).toNat]? = some [.list 1 [[dI a], [dI b], [dI d]]] := by rw [Int.toNat_natCast, List.getElem?_map, hc]; rfl
    have hll : (L1.map dln).length = L1.length := List.length_map _
    have ht1 : L1.take (i + 1) = L1.take i ++ [(a, b, d)] := take_next hc
    have hms := lnMax_snoc (h : Int) (L1.take i) (a, b, d) 0
    have hml : lnMax (h : Int) (L1.take i) 0 ≤ 500 := lnMax_le (fun l hl => hb1 l (List.mem_of_mem_take hl)) (by omega) (by omega)
    have e1 : IntKind.i64.wrap (d - b) = d - b := wrap_i64 _ (by omega) (by omega)
    have e2 : IntKind.i64.wrap ((h : Int) - 1) = (h : Int) - 1 := wrap_i64 _ (by omega) (by omega)
    have hwi : IntKind.i64.wrap ((i : Int) + 1) = ((i + 1 : Nat) : Int) := by rw [wrap_i64 _ (by omega) (by omega)]; omega
    have hwn := within_ok a 1 (IntKind.i64.wrap ((h : Int) - 1))
    clear hb
    repeat' first
      | (refine El.get hg ?_; conv => whnf)
      | exact True.intro
      | (refine draw_mkF ?_ ?_ ?_; (focus (decide +kernel)); (focus (kernel_rfl)); conv => whnf)
      | (refine Both.mk ?_ ?_ <;> conv => whnf)
      | (refine OwnQ.own ?_; conv => whnf)
      | (refine NilQ.mk (fun hnil => ?_) ?_ <;> conv => whnf)
      | (refine draw_mk (by kernel_rfl) ?_; conv => whnf)
      | (refine Br.mk (fun hb => ?_) (fun hb => ?_) <;> conv => whnf)
      | (refine El.get rfl ?_; conv => whnf)
      | (refine call_sn ?_ (hwn) ?_; (focus ((repeat' first | exact snapRow | exact snap_row (by simp; done) | exact rfl | exact trivial | apply And.intro | omega | (simp; done)); done)); conv => whnf)
      | (refine callP_sn ?_ (hwn) ?_; (focus ((repeat' first | exact snapRow | exact snap_row (by simp; done) | exact rfl | exact trivial | apply And.intro | omega | (simp; done)); done)); conv => whnf)
      | (refine And.intro ?_ ?_; (focus (first | decide | omega | (simp [contentOK, objRd, objAt, peel, hll]; done) | (simp [contentOK, objRd, objAt, peel, hll]; omega) | (simp [contentOK, objRd, objAt, peel, hll] at *; omega))); conv => whnf)
    all_goals
      refine ⟨i + 1, by omega, by omega, ?_⟩
      rw [ht1, hms, hwi]
      dsimp only
      rw [e2] at hb
      simp only [inB, decide_eq_true_eq, decide_eq_false_iff_not] at hb
      first
        | (rw [if_pos hb, e1]
           have hmx : ((max (lnMax (h : Int) (L1.take i) 0) (d - b).toNat : Nat) : Int) = (if d - b > (lnMax (h : Int) (L1.take i) 0 : Nat) then d - b else (lnMax (h : Int) (L1.take i) 0 : Nat)) := by split <;> omega
           rw [hmx]
           exact weak_of rfl (by (repeat' first | exact rfl | exact trivial | apply And.intro | (simp [getE]; done))) rfl (Nat.zero_le _))
        | (rw [if_neg hb]
           exact weak_of rfl (by (repeat' first | exact rfl | exact trivial | apply And.intro | (simp [getE]; done))) rfl (Nat.zero_le _))
  have hie : i = L1.length := by simp at hb; omega
  subst hie
  rw [List.take_length]
  clear hb
  repeat' first
    | exact True.intro
    | (refine draw_mkF ?_ ?_ ?_; (focus (decide +kernel)); (focus (kernel_rfl)); conv => whnf)
    | (refine Both.mk ?_ ?_ <;> conv => whnf)
    | (refine OwnQ.own ?_; conv => whnf)
    | (refine NilQ.mk (fun hnil => ?_) ?_ <;> conv => whnf)
    | (refine draw_mk (by kernel_rfl) ?_; conv => whnf)
    | (refine Br.mk (fun hb => ?_) (fun hb => ?_) <;> conv => whnf)
    | (refine El.get rfl ?_; conv => whnf)
    | (refine And.intro ?_ ?_; (focus (first | decide | omega | (simp at *; omega) | (simp_all; done))); conv => whnf)
  have w01 : IntKind.i64.wrap (0 + 1) = 1 := by decide
  refine ⟨by rw [w01]; simp, ?_⟩
  conv => whnf
  refine El.get (x := [dI h, dI w, .list 3 (ys.map r3)]) (by rw [w01]; rfl) ?_
  conv => whnf
  repeat' first
    | exact True.intro
    | (refine draw_mkF ?_ ?_ ?_; (focus (decide +kernel)); (focus (kernel_rfl)); conv => whnf)
    | (refine Both.mk ?_ ?_ <;> conv => whnf)
    | (refine OwnQ.own ?_; conv => whnf)
    | (refine NilQ.mk (fun hnil => ?_) ?_ <;> conv => whnf)
    | (refine draw_mk (by kernel_rfl) ?_; conv => whnf)
    | (refine Br.mk (fun hb => ?_) (fun hb => ?_) <;> conv => whnf)
    | (refine El.get rfl ?_; conv => whnf)
    | (refine And.intro ?_ ?_; (focus (first | decide | omega | (simp at *; omega) | (simp_all; done))); conv => whnf)
  refine frameN [] hlines2 rfl (by decide) rfl rfl ?_
  rintro _ _ ⟨rfl, rfl⟩
  refine ⟨[], [], rfl, Nat.zero_le _, rfl, ?_⟩
  conv => whnf
  repeat' first
    | exact True.intro
    | (refine draw_mkF ?_ ?_ ?_; (focus (decide +kernel)); (focus (kernel_rfl)); conv => whnf)
    | (refine Both.mk ?_ ?_ <;> conv => whnf)
    | (refine OwnQ.own ?_; conv => whnf)
    | (refine NilQ.mk (fun hnil => ?_) ?_ <;> conv => whnf)
    | (refine draw_mk (by kernel_rfl) ?_; conv => whnf)
    | (refine Br.mk (fun hb => ?_) (fun hb => ?_) <;> conv => whnf)
    | (refine And.intro ?_ ?_; (focus (first | decide | omega | (simp at *; omega) | (simp_all; done))); conv => whnf)
  have hm1 : lnMax (h : Int) L1 0 ≤ 500 := lnMax_le hb1 (by omega) (by omega)
  refine .inl ⟨Nat, fun i => L2.length - i, fun i => i ≤ L2.length, fun i => ⟨[(1, .one (.c (.ptr 0 0 0))), (3, .one (.c (vI (lnMax (w : Int) (L2.take i) (lnMax h L1 0))))), (5, .one (.c (.ptr 3 0 0))), (11, .one (.c (.sl 1 0 3 0 2 none))), (12, .one (.c (vI 2))), (13, .one (.c (vI (IntKind.i64.wrap (0 + 1))))),
      (18, .one (.c (.d (.list 1 (L2.map dln))))), (19, .one (.c (vI (L2.map dln).length))), (20, .one (.c (vI i)))], [(0, .box [.d (dI w), .d (dI h), .d (.list 3 (sq.map r3))]), (0, .arr 3 [[dI w, dI h, .list 3 (sq.map r3)], [dI h, dI w, .list 3 (ys.map r3)]]), (0, .box [.d (dI w), .d (dI h), .d (.list 3 (sq.map r3))]), (0, .box [.d (dI h), .d (dI w), .d (.list 3 (ys.map r3))])], _⟩, 0, Nat.zero_le _, weak_capof rfl ?_ rfl (Nat.zero_le _), fun i hi => ?_⟩
  · (repeat' first | exact rfl | exact trivial | apply And.intro | (simp [getE]; done))
  replace hi : i ≤ L2.length := hi
  dsimp only
  conv => whnf
  refine Br.mk (fun hb => ?_) (fun hb => ?_) <;> conv => whnf
  · have hlt : i < L2.length := by simp at hb; omega
    obtain ⟨⟨a, b, d⟩, hc⟩ : ∃ q, L2[i]? = some q := ⟨_, List.getElem?_eq_getElem hlt⟩
    have hbd := hb2 _ (List.mem_of_getElem? hc)
    simp only [lnB] at hbd
    have hg : (L2.map dln)[((i : Int)).toNat]? = some [.list 1 [[dI a], [dI b], [dI d]]] := by rw [Int.toNat_natCast, List.getElem?_map, hc]; rfl
    have hll : (L2.map dln).length = L2.length := List.length_map _
    have ht1 : L2.take (i + 1) = L2.take i ++ [(a, b, d)] := take_next hc
    have hms := lnMax_snoc (w : Int) (L2.take i) (a, b, d) (lnMax h L1 0)
    have hml : lnMax (w : Int) (L2.take i) (lnMax h L1 0) ≤ 500 := lnMax_le (fun l hl => hb2 l (List.mem_of_mem_take hl)) hm1 (by omega)
    have e1 : IntKind.i64.wrap (d - b) = d - b := wrap_i64 _ (by omega) (by omega)
    have e2 : IntKind.i64.wrap ((w : Int) - 1) = (w : Int) - 1 := wrap_i64 _ (by omega) (by omega)
    have hwi : IntKind.i64.wrap ((i : Int) + 1) = ((i + 1 : Nat) : Int) := by rw [wrap_i64 _ (by omega) (by omega)]; omega
    have hwn := within_ok a 1 (IntKind.i64.wrap ((w : Int) - 1))
    clear hb
    repeat' first
      | (refine El.get hg ?_; conv => whnf)
      | exact True.intro
      | (refine draw_mkF ?_ ?_ ?_; (focus (decide +kernel)); (focus (kernel_rfl)); conv => whnf)
      | (refine Both.mk ?_ ?_ <;> conv => whnf)
      | (refine OwnQ.own ?_; conv => whnf)
      | (refine NilQ.mk (fun hnil => ?_) ?_ <;> conv => whnf)
      | (refine draw_mk (by kernel_rfl) ?_; conv => whnf)
      | (refine Br.mk (fun hb => ?_) (fun hb => ?_) <;> conv => whnf)
      | (refine El.get rfl ?_; conv => whnf)
      | (refine call_sn ?_ (hwn) ?_; (focus ((repeat' first | exact snapRow | exact snap_row (by simp; done) | exact rfl | exact trivial | apply And.intro | omega | (simp; done)); done)); conv => whnf)
      | (refine callP_sn ?_ (hwn) ?_; (focus ((repeat' first | exact snapRow | exact snap_row (by simp; done) | exact rfl | exact trivial | apply And.intro | omega | (simp; done)); done)); conv => whnf)
      | (refine And.intro ?_ ?_; (focus (first | decide | omega | (simp [contentOK, objRd, objAt, peel, hll]; done) | (simp [contentOK, objRd, objAt, peel, hll]; omega) | (simp [contentOK, objRd, objAt, peel, hll] at *; omega))); conv => whnf)
    all_goals
      refine ⟨i + 1, by omega, by omega, ?_⟩
      rw [ht1, hms, hwi]
      dsimp only
      rw [e2] at hb
      simp only [inB, decide_eq_true_eq, decide_eq_false_iff_not] at hb
      first
        | (rw [if_pos hb, e1]
           have hmx : ((max (lnMax (w : Int) (L2.take i) (lnMax h L1 0)) (d - b).toNat : Nat) : Int) = (if d - b > (lnMax (w : Int) (L2.take i) (lnMax h L1 0) : Nat) then d - b else (lnMax (w : Int) (L2.take i) (lnMax h L1 0) : Nat)) := by split <;> omega
           rw [hmx]
           exact weak_of rfl (by (repeat' first | exact rfl | exact trivial | apply And.intro | (simp [getE]; done))) rfl (Nat.zero_le _))
        | (rw [if_neg hb]
           exact weak_of rfl (by (repeat' first | exact rfl | exact trivial | apply And.intro | (simp [getE]; done))) rfl (Nat.zero_le _))
  have hie : i = L2.length := by simp at hb; omega
  subst hie
  rw [List.take_length]
  clear hb
  rw [hlong]
  repeat' first
    | exact True.intro
    | (refine draw_mkF ?_ ?_ ?_; (focus (decide +kernel)); (focus (kernel_rfl)); conv => whnf)
    | (refine Both.mk ?_ ?_ <;> conv => whnf)
    | (refine OwnQ.own ?_; conv => whnf)
    | (refine NilQ.mk (fun hnil => ?_) ?_ <;> conv => whnf)
    | (refine draw_mk (by kernel_rfl) ?_; conv => whnf)
    | (refine Br.mk (fun hb => ?_) (fun hb => ?_) <;> conv => whnf)
    | (refine And.intro ?_ ?_; (focus (first | decide | omega | (simp at *; omega) | (simp_all; done))); conv => whnf)
  all_goals first
    | exact ⟨⟨rfl, trivial⟩, by simp [refVs, refCV]⟩
    | (exfalso; revert hb; decide)
    | (exfalso; simp at *; done)

end Go.Proofs.Ytmfdkjjhdjkgpaa

namespace Go.Proofs.Ytmfdkjjhdjkgpaa
open Go Go.RowKit
set_option maxRecDepth 10000
set_option maxHeartbeats 1000000
set_option linter.unusedSimpArgs false

/-- The side of the square that a cell is in. -/
def sideAt (x y : Nat) (sq : List (Int × Int × Int)) : Int := ((sq.find? fun q => inSq q x y).getD (0, 0, 0)).2.2

theorem sideAt_eq {x y k : Nat} {sq : List (Int × Int × Int)} {q : Int × Int × Int} {w h : Nat} (ht : Tiled w h sq) (hk : sq[k]? = some q) (hq : inSq q x y = true) : sideAt x y sq = q.2.2 := by
  unfold sideAt
  cases hf : sq.find? (fun q => inSq q x y) with
  | none =>
    rw [List.find?_eq_none] at hf
    exact absurd hq (hf q (List.mem_of_getElem? hk))
  | some r =>
    have h1 := List.find?_some hf
    have h2 := List.mem_of_find?_eq_some hf
    rw [ht.one r h2 q (List.mem_of_getElem? hk) x y h1 hq]
    rfl

/-- What a clue of a kind tells of a cut. -/
def tellI (kind a : Int) (w h : Nat) (sq : List (Int × Int × Int)) : Int :=
  if kind = 0 then sq.length else if kind = 1 then (sq.filter fun s => s.2.2 == a).length else if kind = 2 then sideAt (a.toNat % w) (a.toNat / w) sq
  else if kind = 3 then edge1 w h sq a.toNat else if kind = 4 then crossN sq else longN w h sq

/-- A kind, and what it asks of its number. -/
def tellOK (kind a : Int) (w h : Nat) : Prop := (0 ≤ kind ∧ kind ≤ 5) ∧ (kind = 2 → 0 ≤ a ∧ a < ((w * h : Nat) : Int)) ∧ (kind = 3 → 0 ≤ a ∧ a ≤ 3)

theorem cell_in {w h k : Nat} (hw : 1 ≤ w) (hk : k < w * h) : k % w < w ∧ k / w < h :=
  ⟨Nat.mod_lt _ (by omega), by rw [Nat.div_lt_iff_lt_mul (by omega), Nat.mul_comm]; exact hk⟩

theorem told_ok {kind a : Int} {w h : Nat} {sq : List (Int × Int × Int)} (ht : Tiled w h sq) (hw : 1 ≤ w ∧ w ≤ 500) (hh : 1 ≤ h ∧ h ≤ 500) (hn : 1 ≤ sq.length ∧ sq.length ≤ 30) (hk : tellOK kind a w h) :
    Fn G.P 66 [aI kind, aI a, .agg (dCut w h sq)] (.one (aI (tellI kind a w h sq))) := by
  obtain ⟨hk0, hk2, hk3⟩ := hk
  have hcases : kind = 0 ∨ kind = 1 ∨ kind = 2 ∨ kind = 3 ∨ kind = 4 ∨ kind = 5 := by omega
  rcases hcases with rfl | rfl | rfl | rfl | rfl | rfl
  · show Fn G.P _ _ (.one (aI (sq.length : Nat)))
    refine fn_of_body (G := G) Try.func66 rfl (by decide) (Nat.le_of_ble_eq_true rfl) ?_
    conv => whnf
    repeat' first
      | exact True.intro
      | (refine draw_mkF ?_ ?_ ?_; (focus (decide +kernel)); (focus (kernel_rfl)); conv => whnf)
      | (refine Both.mk ?_ ?_ <;> conv => whnf)
      | (refine OwnQ.own ?_; conv => whnf)
      | (refine NilQ.mk (fun hnil => ?_) ?_ <;> conv => whnf)
      | (refine draw_mk (by kernel_rfl) ?_; conv => whnf)
      | (refine Br.mk (fun hb => ?_) (fun hb => ?_) <;> conv => whnf)
      | (refine And.intro ?_ ?_; (focus (first | decide | omega | (simp at *; omega) | (simp_all; done))); conv => whnf)
    rw [List.length_map]
    exact ⟨⟨rfl, trivial⟩, by simp [refVs, refCV]⟩
  · show Fn G.P _ _ (.one (aI ((sq.filter fun s => s.2.2 == a).length : Nat)))
    have hs := ht.small hw.2 hh.2
    have hfl : ∀ l : List (Int × Int × Int), (l.filter fun s => s.2.2 == a).length ≤ l.length := fun l => List.length_filter_le _ _
    refine fn_of_body (G := G) Try.func66 rfl (by decide) (Nat.le_of_ble_eq_true rfl) ?_
    conv => whnf
    repeat' first
      | exact True.intro
      | (refine draw_mkF ?_ ?_ ?_; (focus (decide +kernel)); (focus (kernel_rfl)); conv => whnf)
      | (refine Both.mk ?_ ?_ <;> conv => whnf)
      | (refine OwnQ.own ?_; conv => whnf)
      | (refine NilQ.mk (fun hnil => ?_) ?_ <;> conv => whnf)
      | (refine draw_mk (by kernel_rfl) ?_; conv => whnf)
      | (refine Br.mk (fun hb => ?_) (fun hb => ?_) <;> conv => whnf)
      | (refine And.intro ?_ ?_; (focus (first | decide | omega | (simp at *; omega) | (simp_all; done))); conv => whnf)
    refine .inl ⟨Nat, fun i => sq.length - i, fun i => i ≤ sq.length, fun i => ⟨[(1, .one (.c (vI a))), (7, .one (.c (vI ((sq.take i).filter fun s => s.2.2 == a).length))), (19, .one (.c (.d (.list 3 (sq.map r3))))), (20, .one (.c (vI (sq.map r3).length))), (21, .one (.c (vI i)))],
      [(0, .box [.d (dI w), .d (dI h), .d (.list 3 (sq.map r3))])], _⟩, 0, Nat.zero_le _, weak_of rfl ?_ rfl (Nat.zero_le _), fun i hi => ?_⟩
    · (repeat' first | exact rfl | exact trivial | apply And.intro | (simp [getE]; done))
    replace hi : i ≤ sq.length := hi
    dsimp only
    conv => whnf
    refine Br.mk (fun hb => ?_) (fun hb => ?_) <;> conv => whnf
    · have hlt : i < sq.length := by simp at hb; omega
      obtain ⟨⟨x, y, s⟩, hc⟩ : ∃ q, sq[i]? = some q := ⟨_, List.getElem?_eq_getElem hlt⟩
      have hg : (sq.map r3)[((i : Int)).toNat]? = some [dI x, dI y, dI s] := by rw [Int.toNat_natCast, List.getElem?_map, hc]; rfl
      have ht1 : sq.take (i + 1) = sq.take i ++ [(x, y, s)] := take_next hc
      have hbit := bit_ok (s == a)
      have hfi := hfl (sq.take i)
      rw [List.length_take] at hfi
      have hadd : ((sq.take (i + 1)).filter fun s => s.2.2 == a).length = ((sq.take i).filter fun s => s.2.2 == a).length + if (s == a) = true then 1 else 0 := by
        rw [ht1, List.filter_append, List.length_append, List.filter_cons]
        congr 1
        dsimp only
        cases (s == a) <;> rfl
      have hwr : IntKind.i64.wrap ((((sq.take i).filter fun s => s.2.2 == a).length : Int) + if (s == a) = true then 1 else 0) = ((((sq.take i).filter fun s => s.2.2 == a).length + (if (s == a) = true then 1 else 0) : Nat) : Int) := by
        rw [wrap_i64 _ (by split <;> omega) (by split <;> omega)]
        split <;> omega
      have hwi : IntKind.i64.wrap ((i : Int) + 1) = ((i + 1 : Nat) : Int) := by rw [wrap_i64 _ (by omega) (by omega)]; omega
      clear hb
      repeat' first
        | (refine El.get hg ?_; conv => whnf)
        | exact True.intro
        | (refine draw_mkF ?_ ?_ ?_; (focus (decide +kernel)); (focus (kernel_rfl)); conv => whnf)
        | (refine Both.mk ?_ ?_ <;> conv => whnf)
        | (refine OwnQ.own ?_; conv => whnf)
        | (refine NilQ.mk (fun hnil => ?_) ?_ <;> conv => whnf)
        | (refine draw_mk (by kernel_rfl) ?_; conv => whnf)
        | (refine Br.mk (fun hb => ?_) (fun hb => ?_) <;> conv => whnf)
        | (refine call_sn ?_ (hbit) ?_; (focus ((repeat' first | exact snapRow | exact snap_row (by simp; done) | exact rfl | exact trivial | apply And.intro | omega | (simp; done)); done)); conv => whnf)
        | (refine callP_sn ?_ (hbit) ?_; (focus ((repeat' first | exact snapRow | exact snap_row (by simp; done) | exact rfl | exact trivial | apply And.intro | omega | (simp; done)); done)); conv => whnf)
        | (refine And.intro ?_ ?_; (focus (first | decide | omega | (simp at *; omega) | (simp_all; done))); conv => whnf)
      refine ⟨i + 1, by omega, by omega, ?_⟩
      rw [hadd, hwi, hwr]
      exact weak_of rfl (by (repeat' first | exact rfl | exact trivial | apply And.intro | (simp [getE]; done))) rfl (Nat.zero_le _)
    · have hie : i = sq.length := by simp at hb; omega
      subst hie
      rw [List.take_length]
      exact ⟨⟨rfl, trivial⟩, by simp [refVs, refCV]⟩
  · obtain ⟨k, rfl⟩ : ∃ k : Nat, a = k := ⟨a.toNat, by have := hk2 rfl; omega⟩
    have hkl : k < w * h := by have := hk2 rfl; omega
    obtain ⟨c1, c2⟩ := cell_in hw.1 hkl
    obtain ⟨q, hq, hin⟩ := ht.cover _ _ c1 c2
    obtain ⟨j, hj⟩ := List.getElem?_of_mem hq
    have hat := at_ok ht hw.2 hh.2 hn.2 c1 c2 hj hin
    show Fn G.P _ _ (.one (aI (sideAt ((k : Int).toNat % w) ((k : Int).toNat / w) sq)))
    rw [Int.toNat_natCast, sideAt_eq ht hj hin]
    have e1 : (k : Int).tmod w = ((k % w : Nat) : Int) := by rw [Int.tmod_eq_emod_of_nonneg (by omega)]; norm_cast
    have e2 : IntKind.i64.wrap ((k : Int).tdiv w) = ((k / w : Nat) : Int) := by
      have e0 : (k : Int).tdiv w = ((k / w : Nat) : Int) := by rw [Int.tdiv_eq_ediv_of_nonneg (by omega)]; norm_cast
      rw [e0]
      have c3 := c2
      generalize k / w = z at c3
      exact wrap_i64 _ (by omega) (by omega)
    rw [← e1, ← e2] at hat
    have hg : (sq.map r3)[((j : Int)).toNat]? = some (r3 q) := by rw [Int.toNat_natCast, List.getElem?_map, hj]; rfl
    have hjl : (j : Int) < (sq.map r3).length := by rw [List.length_map]; have := (List.getElem?_eq_some_iff.1 hj).1; omega
    refine fn_of_body (G := G) Try.func66 rfl (by decide) (Nat.le_of_ble_eq_true rfl) ?_
    conv => whnf
    repeat' first
      | (refine El.get hg ?_; conv => whnf)
      | exact True.intro
      | (refine draw_mkF ?_ ?_ ?_; (focus (decide +kernel)); (focus (kernel_rfl)); conv => whnf)
      | (refine Both.mk ?_ ?_ <;> conv => whnf)
      | (refine OwnQ.own ?_; conv => whnf)
      | (refine NilQ.mk (fun hnil => ?_) ?_ <;> conv => whnf)
      | (refine draw_mk (by kernel_rfl) ?_; conv => whnf)
      | (refine Br.mk (fun hb => ?_) (fun hb => ?_) <;> conv => whnf)
      | (refine call_sn ?_ (hat) ?_; (focus ((repeat' first | exact snapRow | exact snap_row (by simp; done) | exact rfl | exact trivial | apply And.intro | omega | (simp; done)); done)); conv => whnf)
      | (refine callP_sn ?_ (hat) ?_; (focus ((repeat' first | exact snapRow | exact snap_row (by simp; done) | exact rfl | exact trivial | apply And.intro | omega | (simp; done)); done)); conv => whnf)
      | (refine And.intro ?_ ?_; (focus (first | decide | omega | (simp at *; omega) | (simp_all; done))); conv => whnf)
    exact ⟨⟨rfl, trivial⟩, by simp [refVs, refCV]⟩
  · have ha := hk3 rfl
    show Fn G.P _ _ (.one (aI (edge1 w h sq a.toNat : Nat)))
    have hed := atEdges_ok ht hw.2 hh.2 hn.2
    refine fn_of_body (G := G) Try.func66 rfl (by decide) (Nat.le_of_ble_eq_true rfl) ?_
    conv => whnf
    repeat' first
      | exact True.intro
      | (refine draw_mkF ?_ ?_ ?_; (focus (decide +kernel)); (focus (kernel_rfl)); conv => whnf)
      | (refine Both.mk ?_ ?_ <;> conv => whnf)
      | (refine OwnQ.own ?_; conv => whnf)
      | (refine NilQ.mk (fun hnil => ?_) ?_ <;> conv => whnf)
      | (refine draw_mk (by kernel_rfl) ?_; conv => whnf)
      | (refine Br.mk (fun hb => ?_) (fun hb => ?_) <;> conv => whnf)
      | (refine call_sn ?_ (hed) ?_; (focus ((repeat' first | exact snapRow | exact snap_row (by simp; done) | exact rfl | exact trivial | apply And.intro | omega | (simp; done)); done)); conv => whnf)
      | (refine callP_sn ?_ (hed) ?_; (focus ((repeat' first | exact snapRow | exact snap_row (by simp; done) | exact rfl | exact trivial | apply And.intro | omega | (simp; done)); done)); conv => whnf)
      | (refine And.intro ?_ ?_; (focus (first | decide | omega | (simp at *; omega) | (simp_all; done))); conv => whnf)
    obtain ⟨k, rfl⟩ : ∃ k : Nat, a = k := ⟨a.toNat, by omega⟩
    have hk4 : k < 4 := by omega
    refine ⟨by simp [edgeRow]; omega, ?_⟩
    conv => whnf
    have hgk : (edgeRow w h sq)[0 + k]? = some [dI (edge1 w h sq k)] := by
      rw [Nat.zero_add]
      have : k = 0 ∨ k = 1 ∨ k = 2 ∨ k = 3 := by omega
      rcases this with rfl | rfl | rfl | rfl <;> rfl
    rw [Int.toNat_natCast]
    repeat' first
      | (refine El.get hgk ?_; conv => whnf)
      | exact True.intro
      | (refine draw_mkF ?_ ?_ ?_; (focus (decide +kernel)); (focus (kernel_rfl)); conv => whnf)
      | (refine Both.mk ?_ ?_ <;> conv => whnf)
      | (refine OwnQ.own ?_; conv => whnf)
      | (refine NilQ.mk (fun hnil => ?_) ?_ <;> conv => whnf)
      | (refine draw_mk (by kernel_rfl) ?_; conv => whnf)
      | (refine Br.mk (fun hb => ?_) (fun hb => ?_) <;> conv => whnf)
      | (refine And.intro ?_ ?_; (focus (first | decide | omega | (simp [contentOK, objRd, objAt, peel, edgeRow, hk4]; done) | (simp [contentOK, objRd, objAt, peel, edgeRow, hk4]; omega) | (simp [contentOK, objRd, objAt, peel, edgeRow, hk4] at *; omega))); conv => whnf)
    exact ⟨⟨rfl, trivial⟩, by simp [refVs, refCV]⟩
  · show Fn G.P _ _ (.one (aI (crossN sq : Nat)))
    have hcr := crosses_d ht hw.2 hh.2 hn.2
    refine fn_of_body (G := G) Try.func66 rfl (by decide) (Nat.le_of_ble_eq_true rfl) ?_
    conv => whnf
    repeat' first
      | exact True.intro
      | (refine draw_mkF ?_ ?_ ?_; (focus (decide +kernel)); (focus (kernel_rfl)); conv => whnf)
      | (refine Both.mk ?_ ?_ <;> conv => whnf)
      | (refine OwnQ.own ?_; conv => whnf)
      | (refine NilQ.mk (fun hnil => ?_) ?_ <;> conv => whnf)
      | (refine draw_mk (by kernel_rfl) ?_; conv => whnf)
      | (refine Br.mk (fun hb => ?_) (fun hb => ?_) <;> conv => whnf)
      | (refine And.intro ?_ ?_; (focus (first | decide | omega | (simp at *; omega) | (simp_all; done))); conv => whnf)
    refine frameN [] hcr rfl (by decide) rfl rfl ?_
    rintro _ _ ⟨⟨xs, hxs, rfl⟩, rfl⟩
    refine ⟨[], [], rfl, Nat.zero_le _, rfl, ?_⟩
    conv => whnf
    repeat' first
      | exact True.intro
      | (refine draw_mkF ?_ ?_ ?_; (focus (decide +kernel)); (focus (kernel_rfl)); conv => whnf)
      | (refine Both.mk ?_ ?_ <;> conv => whnf)
      | (refine OwnQ.own ?_; conv => whnf)
      | (refine NilQ.mk (fun hnil => ?_) ?_ <;> conv => whnf)
      | (refine draw_mk (by kernel_rfl) ?_; conv => whnf)
      | (refine Br.mk (fun hb => ?_) (fun hb => ?_) <;> conv => whnf)
      | (refine And.intro ?_ ?_; (focus (first | decide | omega | (simp at *; omega) | (simp_all; done))); conv => whnf)
    rw [hxs]
    exact ⟨⟨rfl, trivial⟩, by simp [refVs, refCV]⟩
  · show Fn G.P _ _ (.one (aI (longN w h sq : Nat)))
    have hlo := longestLine_ok ht hw hh hn
    refine fn_of_body (G := G) Try.func66 rfl (by decide) (Nat.le_of_ble_eq_true rfl) ?_
    conv => whnf
    repeat' first
      | exact True.intro
      | (refine draw_mkF ?_ ?_ ?_; (focus (decide +kernel)); (focus (kernel_rfl)); conv => whnf)
      | (refine Both.mk ?_ ?_ <;> conv => whnf)
      | (refine OwnQ.own ?_; conv => whnf)
      | (refine NilQ.mk (fun hnil => ?_) ?_ <;> conv => whnf)
      | (refine draw_mk (by kernel_rfl) ?_; conv => whnf)
      | (refine Br.mk (fun hb => ?_) (fun hb => ?_) <;> conv => whnf)
      | (refine call_sn ?_ (hlo) ?_; (focus ((repeat' first | exact snapRow | exact snap_row (by simp; done) | exact rfl | exact trivial | apply And.intro | omega | (simp; done)); done)); conv => whnf)
      | (refine callP_sn ?_ (hlo) ?_; (focus ((repeat' first | exact snapRow | exact snap_row (by simp; done) | exact rfl | exact trivial | apply And.intro | omega | (simp; done)); done)); conv => whnf)
      | (refine And.intro ?_ ?_; (focus (first | decide | omega | (simp at *; omega) | (simp_all; done))); conv => whnf)
    exact ⟨⟨rfl, trivial⟩, by simp [refVs, refCV]⟩

end Go.Proofs.Ytmfdkjjhdjkgpaa

namespace Go.Proofs.Ytmfdkjjhdjkgpaa
open Go Go.RowKit
set_option maxRecDepth 10000
set_option maxHeartbeats 1000000
set_option linter.unusedSimpArgs false

theorem cuCorners_ok {w h : Nat} {sq : List (Int × Int × Int)} (hs : ∀ q ∈ sq, smallSq q) (hn : sq.length ≤ 30) (x y : Int) :
    Fn G.P 121 [.agg (dCut w h sq), aI x, aI y] (.one (aI (cornN x y sq))) := by
  have hcn : ∀ l : List (Int × Int × Int), cornN x y l ≤ l.length := fun l => List.length_filter_le _ _
  refine fn_of_body (G := G) Try.func121 rfl (by decide) (Nat.le_of_ble_eq_true rfl) ?_
  conv => whnf
  repeat' first
    | exact True.intro
    | (refine draw_mkF ?_ ?_ ?_; (focus (decide +kernel)); (focus (kernel_rfl)); conv => whnf)
    | (refine Both.mk ?_ ?_ <;> conv => whnf)
    | (refine OwnQ.own ?_; conv => whnf)
    | (refine NilQ.mk (fun hnil => ?_) ?_ <;> conv => whnf)
    | (refine draw_mk (by kernel_rfl) ?_; conv => whnf)
    | (refine Br.mk (fun hb => ?_) (fun hb => ?_) <;> conv => whnf)
    | (refine And.intro ?_ ?_; (focus (first | decide | omega | (simp at *; omega) | (simp_all; done))); conv => whnf)
  refine .inl ⟨Nat, fun i => sq.length - i, fun i => i ≤ sq.length, fun i => ⟨[(1, .one (.c (vI x))), (2, .one (.c (vI y))), (7, .one (.c (vI (cornN x y (sq.take i))))), (11, .one (.c (.d (.list 3 (sq.map r3))))), (12, .one (.c (vI (sq.map r3).length))), (13, .one (.c (vI i)))],
    [(0, .box [.d (dI w), .d (dI h), .d (.list 3 (sq.map r3))])], _⟩, 0, Nat.zero_le _, weak_of rfl ?_ rfl (Nat.zero_le _), fun i hi => ?_⟩
  · (repeat' first | exact rfl | exact trivial | apply And.intro | (simp [getE]; done))
  replace hi : i ≤ sq.length := hi
  dsimp only
  conv => whnf
  refine Br.mk (fun hb => ?_) (fun hb => ?_) <;> conv => whnf
  · have hlt : i < sq.length := by simp at hb; omega
    obtain ⟨⟨x', y', s'⟩, hc⟩ : ∃ q, sq[i]? = some q := ⟨_, List.getElem?_eq_getElem hlt⟩
    have hsm := hs _ (List.mem_of_getElem? hc)
    have hg : (sq.map r3)[((i : Int)).toNat]? = some [dI x', dI y', dI s'] := by rw [Int.toNat_natCast, List.getElem?_map, hc]; rfl
    have ht1 : sq.take (i + 1) = sq.take i ++ [(x', y', s')] := take_next hc
    have e1 : IntKind.i64.wrap (x' + s') = x' + s' := by simp only [smallSq] at hsm; exact wrap_i64 _ (by omega) (by omega)
    have e2 : IntKind.i64.wrap (y' + s') = y' + s' := by simp only [smallSq] at hsm; exact wrap_i64 _ (by omega) (by omega)
    have hci := hcn (sq.take i)
    rw [List.length_take] at hci
    have hadd : cornN x y (sq.take (i + 1)) = cornN x y (sq.take i) + if cornB x y (x', y', s') = true then 1 else 0 := by
      rw [ht1]
      unfold cornN
      rw [List.filter_append, List.length_append, List.filter_cons]
      congr 1
      generalize cornB x y (x', y', s') = b
      cases b <;> rfl
    have hwi : IntKind.i64.wrap ((i : Int) + 1) = ((i + 1 : Nat) : Int) := by rw [wrap_i64 _ (by omega) (by omega)]; omega
    have hw1 : IntKind.i64.wrap ((cornN x y (sq.take i) : Int) + 1) = ((cornN x y (sq.take i) + 1 : Nat) : Int) := by rw [wrap_i64 _ (by omega) (by omega)]; omega
    clear hb
    repeat' first
      | (refine El.get hg ?_; conv => whnf)
      | exact True.intro
      | (refine draw_mkF ?_ ?_ ?_; (focus (decide +kernel)); (focus (kernel_rfl)); conv => whnf)
      | (refine Both.mk ?_ ?_ <;> conv => whnf)
      | (refine OwnQ.own ?_; conv => whnf)
      | (refine NilQ.mk (fun hnil => ?_) ?_ <;> conv => whnf)
      | (refine draw_mk (by kernel_rfl) ?_; conv => whnf)
      | (refine Br.mk (fun hb => ?_) (fun hb => ?_) <;> conv => whnf)
      | (refine And.intro ?_ ?_; (focus (first | decide | omega | (simp at *; omega) | (simp_all; done))); conv => whnf)
    all_goals
      refine ⟨i + 1, by omega, by omega, ?_⟩
      rw [hadd, hwi]
      simp only [e1, e2, beq_iff_eq, beq_eq_false_iff_ne, ne_eq] at *
      first
        | (have hcb : cornB x y (x', y', s') = true := by (simp only [cornB, Bool.and_eq_true, Bool.or_eq_true, beq_iff_eq]; omega)
           rw [if_pos hcb, ← hw1]
           exact weak_of rfl (by (repeat' first | exact rfl | exact trivial | apply And.intro | (simp [getE]; done))) rfl (Nat.zero_le _))
        | (have hcb : ¬ cornB x y (x', y', s') = true := by (simp only [cornB, Bool.and_eq_true, Bool.or_eq_true, beq_iff_eq]; omega)
           rw [if_neg hcb]
           exact weak_of rfl (by (repeat' first | exact rfl | exact trivial | apply And.intro | (simp [getE]; done))) rfl (Nat.zero_le _))
  · have hie : i = sq.length := by simp at hb; omega
    subst hie
    rw [List.take_length]
    exact ⟨⟨rfl, trivial⟩, by simp [refVs, refCV]⟩

theorem squareAt_ok {w h : Nat} {sq : List (Int × Int × Int)} (hg : goodCutB w h sq = true) {x y k : Nat} {q : Int × Int × Int} (hx : x < w) (hy : y < h) (hk : sq[k]? = some q) (hq : inSq q x y = true) :
    Fn G.P 116 [.agg (dCut w h sq), aI x, aI y] (.tup [aI k, aB true]) := by
  have hcg := cuGood_ok w h sq (by have := good_chk hg; omega)
  rw [hg] at hcg
  obtain ⟨⟨g1, g2⟩, ⟨g3, g4⟩, ⟨g5, g6⟩, _⟩ := good_chk hg
  have ht := tiled_of_good hg
  have hs := ht.small (by omega) (by omega)
  have hkl := (List.getElem?_eq_some_iff.1 hk).1
  have hx1 := l1In_ok x 0 (IntKind.i64.wrap ((w : Int) - 1))
  have hy1 := l1In_ok y 0 (IntKind.i64.wrap ((h : Int) - 1))
  rw [show inB (x : Int) 0 (IntKind.i64.wrap ((w : Int) - 1)) = true by rw [wrap_i64 _ (by omega) (by omega)]; simp only [inB, decide_eq_true_eq]; omega] at hx1
  rw [show inB (y : Int) 0 (IntKind.i64.wrap ((h : Int) - 1)) = true by rw [wrap_i64 _ (by omega) (by omega)]; simp only [inB, decide_eq_true_eq]; omega] at hy1
  refine fn_of_body (G := G) Try.func116 rfl (by decide) (Nat.le_of_ble_eq_true rfl) ?_
  conv => whnf
  repeat' first
    | exact True.intro
    | (refine draw_mkF ?_ ?_ ?_; (focus (decide +kernel)); (focus (kernel_rfl)); conv => whnf)
    | (refine Both.mk ?_ ?_ <;> conv => whnf)
    | (refine OwnQ.own ?_; conv => whnf)
    | (refine NilQ.mk (fun hnil => ?_) ?_ <;> conv => whnf)
    | (refine draw_mk (by kernel_rfl) ?_; conv => whnf)
    | (refine Br.mk (fun hb => (by exfalso; first | (simp [not_true_eq_false] at hb; done) | (simp [not_true_eq_false] at hb; omega))) (fun hb => ?_); clear hb; conv => whnf)
    | (refine Br.mk (fun hb => ?_) (fun hb => (by exfalso; first | (simp [not_true_eq_false] at hb; done) | (simp [not_true_eq_false] at hb; omega))); clear hb; conv => whnf)
    | (refine Br.mk (fun hb => ?_) (fun hb => ?_) <;> conv => whnf)
    | (refine call_sn ?_ (hcg) ?_; (focus ((repeat' first | exact snapRow | exact snap_row (by simp; done) | exact rfl | exact trivial | apply And.intro | omega | (simp; done)); done)); conv => whnf)
    | (refine callP_sn ?_ (hcg) ?_; (focus ((repeat' first | exact snapRow | exact snap_row (by simp; done) | exact rfl | exact trivial | apply And.intro | omega | (simp; done)); done)); conv => whnf)
    | (refine call_sn ?_ (hx1) ?_; (focus ((repeat' first | exact snapRow | exact snap_row (by simp; done) | exact rfl | exact trivial | apply And.intro | omega | (simp; done)); done)); conv => whnf)
    | (refine callP_sn ?_ (hx1) ?_; (focus ((repeat' first | exact snapRow | exact snap_row (by simp; done) | exact rfl | exact trivial | apply And.intro | omega | (simp; done)); done)); conv => whnf)
    | (refine call_sn ?_ (hy1) ?_; (focus ((repeat' first | exact snapRow | exact snap_row (by simp; done) | exact rfl | exact trivial | apply And.intro | omega | (simp; done)); done)); conv => whnf)
    | (refine callP_sn ?_ (hy1) ?_; (focus ((repeat' first | exact snapRow | exact snap_row (by simp; done) | exact rfl | exact trivial | apply And.intro | omega | (simp; done)); done)); conv => whnf)
    | (refine And.intro ?_ ?_; (focus (first | decide | omega | (simp at *; omega) | (simp_all; done))); conv => whnf)
  refine .inl ⟨Nat, fun i => k - i, fun i => i ≤ k, fun i => ⟨[(1, .one (.c (vI x))), (2, .one (.c (vI y))), (30, .one (.c (.d (.list 3 (sq.map r3))))), (31, .one (.c (vI (sq.map r3).length))), (32, .one (.c (vI i)))],
    [(0, .box [.d (dI w), .d (dI h), .d (.list 3 (sq.map r3))])], _⟩, 0, Nat.zero_le _, weak_of rfl ?_ rfl (Nat.zero_le _), fun i hi => ?_⟩
  · (repeat' first | exact rfl | exact trivial | apply And.intro | (simp [getE]; done))
  replace hi : i ≤ k := hi
  dsimp only
  conv => whnf
  refine Br.mk (fun hb => ?_) (fun hb => by simp at hb; omega)
  conv => whnf
  have hlt : i < sq.length := by omega
  obtain ⟨⟨x', y', s'⟩, hc⟩ : ∃ q, sq[i]? = some q := ⟨_, List.getElem?_eq_getElem hlt⟩
  have hsm := hs _ (List.mem_of_getElem? hc)
  have hgt : (sq.map r3)[((i : Int)).toNat]? = some [dI x', dI y', dI s'] := by rw [Int.toNat_natCast, List.getElem?_map, hc]; rfl
  have e1 : IntKind.i64.wrap (IntKind.i64.wrap (x' + s') - 1) = x' + s' - 1 := by simp only [smallSq] at hsm; rw [wrap_i64 (x' + s') (by omega) (by omega), wrap_i64 _ (by omega) (by omega)]
  have e2 : IntKind.i64.wrap (IntKind.i64.wrap (y' + s') - 1) = y' + s' - 1 := by simp only [smallSq] at hsm; rw [wrap_i64 (y' + s') (by omega) (by omega), wrap_i64 _ (by omega) (by omega)]
  have hat : inSq (x', y', s') x y = decide (i = k) := by
    by_cases e : i = k
    · subst e
      rw [hk] at hc
      cases hc
      rw [hq]; simp
    · cases hin : inSq (x', y', s') x y with
      | false => simp [e]
      | true =>
        have := ht.one _ (List.mem_of_getElem? hc) _ (List.mem_of_getElem? hk) x y hin hq
        have hnd := ht.nodup
        rw [List.Nodup, List.pairwise_iff_getElem] at hnd
        have q1 := (List.getElem?_eq_some_iff.1 hc).2
        have q2 := (List.getElem?_eq_some_iff.1 hk).2
        exact absurd (by rw [q1, q2]; exact this) (hnd i k hlt hkl (by omega))
  have hwi : IntKind.i64.wrap ((i : Int) + 1) = ((i + 1 : Nat) : Int) := by rw [wrap_i64 _ (by omega) (by omega)]; omega
  have hx2 := l1In_ok x x' (IntKind.i64.wrap (IntKind.i64.wrap (x' + s') - 1))
  have hy2 := l1In_ok y y' (IntKind.i64.wrap (IntKind.i64.wrap (y' + s') - 1))
  have hinx : inB (x : Int) x' (IntKind.i64.wrap (IntKind.i64.wrap (x' + s') - 1)) = inI x' s' x := by rw [e1, Bool.eq_iff_iff, inI_iff]; simp only [inB, decide_eq_true_eq]; omega
  have hiny : inB (y : Int) y' (IntKind.i64.wrap (IntKind.i64.wrap (y' + s') - 1)) = inI y' s' y := by rw [e2, Bool.eq_iff_iff, inI_iff]; simp only [inB, decide_eq_true_eq]; omega
  rw [hinx] at hx2
  rw [hiny] at hy2
  have hand : (inI x' s' x && inI y' s' y) = decide (i = k) := hat
  clear hb hinx hiny
  generalize inI x' s' x = bx at hx2 hand
  generalize inI y' s' y = by' at hy2 hand
  cases bx <;> cases by'
  all_goals
    simp only [Bool.and_false, Bool.false_and, Bool.and_self] at hand
    repeat' first
      | (refine El.get hgt ?_; conv => whnf)
      | exact True.intro
      | (refine draw_mkF ?_ ?_ ?_; (focus (decide +kernel)); (focus (kernel_rfl)); conv => whnf)
      | (refine Both.mk ?_ ?_ <;> conv => whnf)
      | (refine OwnQ.own ?_; conv => whnf)
      | (refine NilQ.mk (fun hnil => ?_) ?_ <;> conv => whnf)
      | (refine draw_mk (by kernel_rfl) ?_; conv => whnf)
      | (refine Br.mk (fun hb => ?_) (fun hb => ?_) <;> conv => whnf)
      | (refine call_sn ?_ (hx2) ?_; (focus ((repeat' first | exact snapRow | exact snap_row (by simp; done) | exact rfl | exact trivial | apply And.intro | omega | (simp; done)); done)); conv => whnf)
      | (refine callP_sn ?_ (hx2) ?_; (focus ((repeat' first | exact snapRow | exact snap_row (by simp; done) | exact rfl | exact trivial | apply And.intro | omega | (simp; done)); done)); conv => whnf)
      | (refine call_sn ?_ (hy2) ?_; (focus ((repeat' first | exact snapRow | exact snap_row (by simp; done) | exact rfl | exact trivial | apply And.intro | omega | (simp; done)); done)); conv => whnf)
      | (refine callP_sn ?_ (hy2) ?_; (focus ((repeat' first | exact snapRow | exact snap_row (by simp; done) | exact rfl | exact trivial | apply And.intro | omega | (simp; done)); done)); conv => whnf)
      | (refine And.intro ?_ ?_; (focus (first | decide | omega | (simp at *; omega) | (simp_all; done))); conv => whnf)
  all_goals first
    | (have hne : i ≠ k := of_decide_eq_false hand.symm
       refine ⟨i + 1, by omega, by omega, ?_⟩
       rw [hwi]
       exact weak_of rfl (by (repeat' first | exact rfl | exact trivial | apply And.intro | (simp [getE]; done))) rfl (Nat.zero_le _))
    | (have he : i = k := of_decide_eq_true hand.symm
       subst he
       exact ⟨⟨rfl, rfl, trivial⟩, by simp [refVs, refCV]⟩)

theorem squaresAtEdges_ok {w h : Nat} {sq : List (Int × Int × Int)} (hg : goodCutB w h sq = true) :
    Fn G.P 117 [.agg (dCut w h sq)] (.tup [.c (.list 1 (edgeRow w h sq)), aB true]) := by
  have hcg := cuGood_ok w h sq (by have := good_chk hg; omega)
  rw [hg] at hcg
  obtain ⟨⟨g1, g2⟩, ⟨g3, g4⟩, ⟨g5, g6⟩, _⟩ := good_chk hg
  have ht := tiled_of_good hg
  have hs := ht.small (by omega) (by omega)
  refine fn_of_body (G := G) Try.func117 rfl (by decide) (Nat.le_of_ble_eq_true rfl) ?_
  conv => whnf
  repeat' first
    | exact True.intro
    | (refine draw_mkF ?_ ?_ ?_; (focus (decide +kernel)); (focus (kernel_rfl)); conv => whnf)
    | (refine Both.mk ?_ ?_ <;> conv => whnf)
    | (refine OwnQ.own ?_; conv => whnf)
    | (refine NilQ.mk (fun hnil => ?_) ?_ <;> conv => whnf)
    | (refine draw_mk (by kernel_rfl) ?_; conv => whnf)
    | (refine Br.mk (fun hb => (by exfalso; first | (simp [not_true_eq_false] at hb; done) | (simp [not_true_eq_false] at hb; omega))) (fun hb => ?_); clear hb; conv => whnf)
    | (refine Br.mk (fun hb => ?_) (fun hb => (by exfalso; first | (simp [not_true_eq_false] at hb; done) | (simp [not_true_eq_false] at hb; omega))); clear hb; conv => whnf)
    | (refine Br.mk (fun hb => ?_) (fun hb => ?_) <;> conv => whnf)
    | (refine call_sn ?_ (hcg) ?_; (focus ((repeat' first | exact snapRow | exact snap_row (by simp; done) | exact rfl | exact trivial | apply And.intro | omega | (simp; done)); done)); conv => whnf)
    | (refine callP_sn ?_ (hcg) ?_; (focus ((repeat' first | exact snapRow | exact snap_row (by simp; done) | exact rfl | exact trivial | apply And.intro | omega | (simp; done)); done)); conv => whnf)
    | (refine And.intro ?_ ?_; (focus (first | decide | omega | (simp at *; omega) | (simp_all; done))); conv => whnf)
  refine .inl ⟨Nat, fun i => sq.length - i, fun i => i ≤ sq.length, fun i => ⟨[(1, .one (.c (.ptr 0 0 0))), (4, .one (.c (.sl 1 0 1 0 4 (some 4)))), (12, .one (.c (.d (.list 3 (sq.map r3))))), (13, .one (.c (vI (sq.map r3).length))), (14, .one (.c (vI i)))],
    [(0, .box [.d (dI w), .d (dI h), .d (.list 3 (sq.map r3))]), (0, .arr 1 (edgeRow w h (sq.take i)))], _⟩, 0, Nat.zero_le _, weak_of rfl ?_ rfl (Nat.zero_le _), fun i hi => ?_⟩
  · (repeat' first | exact rfl | exact trivial | apply And.intro | (simp [getE]; done))
  replace hi : i ≤ sq.length := hi
  dsimp only
  conv => whnf
  refine Br.mk (fun hb => ?_) (fun hb => ?_) <;> conv => whnf
  · have hlt : i < sq.length := by simp at hb; omega
    obtain ⟨⟨x, y, s⟩, hc⟩ : ∃ q, sq[i]? = some q := ⟨_, List.getElem?_eq_getElem hlt⟩
    have hsm := hs _ (List.mem_of_getElem? hc)
    have hgt : (sq.map r3)[((i : Int)).toNat]? = some [dI x, dI y, dI s] := by rw [Int.toNat_natCast, List.getElem?_map, hc]; rfl
    have e1 : IntKind.i64.wrap (x + s) = x + s := by simp only [smallSq] at hsm; exact wrap_i64 _ (by omega) (by omega)
    have e2 : IntKind.i64.wrap (y + s) = y + s := by simp only [smallSq] at hsm; exact wrap_i64 _ (by omega) (by omega)
    have ht1 : sq.take (i + 1) = sq.take i ++ [(x, y, s)] := take_next hc
    have hed : ∀ k, edge1 w h (sq.take i) k ≤ 30 := fun k => Nat.le_trans (edge1_le _ _ _ _) (by rw [List.length_take]; omega)
    have hwr : ∀ k : Nat, IntKind.i64.wrap ((edge1 w h (sq.take i) k : Int) + 1) = ((edge1 w h (sq.take i) k + 1 : Nat) : Int) := fun k => by
      have := hed k
      rw [wrap_i64 _ (by omega) (by omega)]; omega
    have hwi : IntKind.i64.wrap ((i : Int) + 1) = ((i + 1 : Nat) : Int) := by rw [wrap_i64 _ (by omega) (by omega)]; omega
    have k0 : edge1 w h (sq.take (i + 1)) 0 = edge1 w h (sq.take i) 0 + if y = 0 then 1 else 0 := by rw [ht1, edge1_snoc]; simp
    have k1 : edge1 w h (sq.take (i + 1)) 1 = edge1 w h (sq.take i) 1 + if x + s = (w : Int) then 1 else 0 := by rw [ht1, edge1_snoc]; simp
    have k2 : edge1 w h (sq.take (i + 1)) 2 = edge1 w h (sq.take i) 2 + if y + s = (h : Int) then 1 else 0 := by rw [ht1, edge1_snoc]; simp
    have k3 : edge1 w h (sq.take (i + 1)) 3 = edge1 w h (sq.take i) 3 + if x = 0 then 1 else 0 := by rw [ht1, edge1_snoc]; simp
    clear hb
    repeat' first
      | (refine El.get hgt ?_; conv => whnf)
      | exact True.intro
      | (refine draw_mkF ?_ ?_ ?_; (focus (decide +kernel)); (focus (kernel_rfl)); conv => whnf)
      | (refine Both.mk ?_ ?_ <;> conv => whnf)
      | (refine OwnQ.own ?_; conv => whnf)
      | (refine NilQ.mk (fun hnil => ?_) ?_ <;> conv => whnf)
      | (refine draw_mk (by kernel_rfl) ?_; conv => whnf)
      | (refine Br.mk (fun hb => ?_) (fun hb => ?_) <;> conv => whnf)
      | (refine El.get rfl ?_; conv => whnf)
      | (refine And.intro ?_ ?_; (focus (first | decide | omega | (simp [contentOK, objRd, objAt, peel, edgeRow]; done) | (simp [contentOK, objRd, objAt, peel, edgeRow]; omega) | (simp [contentOK, objRd, objAt, peel, edgeRow] at *; omega))); conv => whnf)
    all_goals
      refine ⟨i + 1, by omega, by omega, ?_⟩
      rw [hwi]
      refine weak_of ?_ (by (repeat' first | exact rfl | exact trivial | apply And.intro | (simp [getE]; done))) rfl (Nat.zero_le _)
      have hwr' := fun k => (hwr k).symm
      clear hwr hed hgt ht1 hwi hc hsm
      simp only [e1, e2, beq_iff_eq, beq_eq_false_iff_ne, ne_eq] at *
      unfold edgeRow
      first | rw [if_pos (by assumption)] at k0 | rw [if_neg (by assumption)] at k0
      first | rw [if_pos (by assumption)] at k1 | rw [if_neg (by assumption)] at k1
      first | rw [if_pos (by assumption)] at k2 | rw [if_neg (by assumption)] at k2
      first | rw [if_pos (by assumption)] at k3 | rw [if_neg (by assumption)] at k3
      rw [k0, k1, k2, k3]
      simp only [hwr', Nat.add_zero]
      rfl
  · have hie : i = sq.length := by simp at hb; omega
    subst hie
    rw [List.take_length]
    exact ⟨⟨⟨rfl, rfl, by simp [edgeRow], by simp [edgeRow], by simp [edgeRow, flatDC]⟩, rfl, trivial⟩, by simp [refVs, refCV]⟩

theorem cuTurn_ok {w h : Nat} {sq : List (Int × Int × Int)} (hs : ∀ q ∈ sq, smallSq q) (hh : h ≤ 500) (hn : sq.length ≤ 30) :
    Fn G.P 120 [.agg (dCut w h sq)] (.one (.agg (dCut h w (sortI lessB (sq.map (turnQ h)))))) := by
  have hso := cuSorted_ok (sq.map (turnQ h)) (by rw [List.length_map]; omega)
  refine fn_of_body (G := G) Try.func120 rfl (by decide) (Nat.le_of_ble_eq_true rfl) ?_
  conv => whnf
  repeat' first
    | exact True.intro
    | (refine draw_mkF ?_ ?_ ?_; (focus (decide +kernel)); (focus (kernel_rfl)); conv => whnf)
    | (refine Both.mk ?_ ?_ <;> conv => whnf)
    | (refine OwnQ.own ?_; conv => whnf)
    | (refine NilQ.mk (fun hnil => ?_) ?_ <;> conv => whnf)
    | (refine draw_mk (by kernel_rfl) ?_; conv => whnf)
    | (refine Br.mk (fun hb => ?_) (fun hb => ?_) <;> conv => whnf)
    | (refine And.intro ?_ ?_; (focus (first | decide | omega | (simp at *; omega) | (simp_all; done))); conv => whnf)
  refine .inl ⟨Nat, fun i => sq.length - i, fun i => i ≤ sq.length, fun i => ⟨[(1, .one (.c (.ptr 0 0 0))), (2, .one (.c (.ptr 1 0 0))), (3, .one (.c (.sl 2 0 3 0 i none))), (7, .one (.c (.d (.list 3 (sq.map r3))))), (8, .one (.c (vI (sq.map r3).length))), (9, .one (.c (vI i)))],
    [(0, .box [.d (dI w), .d (dI h), .d (.list 3 (sq.map r3))]), (0, .box [.d (dI 0), .d (dI 0), .nilsl]), (0, .arr 3 (((sq.take i).map (turnQ h)).map r3))], _⟩, 0, Nat.zero_le _,
      weak_cap.trans (weak_nilof (t := [(0, .box [.d (dI w), .d (dI h), .d (.list 3 (sq.map r3))]), (0, .box [.d (dI 0), .d (dI 0), .nilsl])]) 2 3 rfl ?_ rfl rfl rfl (Nat.zero_le _) (Nat.zero_le _)), fun i hi => ?_⟩
  · (repeat' first | exact rfl | exact trivial | apply And.intro | (simp [getE]; done))
  replace hi : i ≤ sq.length := hi
  dsimp only
  have hlen : (((sq.take i).map (turnQ h)).map r3).length = i := by simp; omega
  conv => whnf
  refine Br.mk (fun hb => ?_) (fun hb => ?_) <;> conv => whnf
  · have hlt : i < sq.length := by simp at hb; omega
    obtain ⟨⟨x, y, s⟩, hc⟩ : ∃ q, sq[i]? = some q := ⟨_, List.getElem?_eq_getElem hlt⟩
    have hsm := hs _ (List.mem_of_getElem? hc)
    have hg : (sq.map r3)[((i : Int)).toNat]? = some [dI x, dI y, dI s] := by rw [Int.toNat_natCast, List.getElem?_map, hc]; rfl
    have ht1 : sq.take (i + 1) = sq.take i ++ [(x, y, s)] := take_next hc
    have e1 : IntKind.i64.wrap ((h : Int) - y) = h - y := by simp only [smallSq] at hsm; exact wrap_i64 _ (by omega) (by omega)
    have e2 : IntKind.i64.wrap ((h : Int) - y - s) = h - y - s := by simp only [smallSq] at hsm; exact wrap_i64 _ (by omega) (by omega)
    have hwi : IntKind.i64.wrap ((i : Int) + 1) = ((i + 1 : Nat) : Int) := by rw [wrap_i64 _ (by omega) (by omega)]; omega
    have hrow : ((sq.take (i + 1)).map (turnQ h)).map r3 = ((sq.take i).map (turnQ h) ++ [turnQ h (x, y, s)]).map r3 := by rw [ht1, List.map_append]; rfl
    clear hb
    repeat' first
      | (refine El.get hg ?_; conv => whnf)
      | exact True.intro
      | (refine draw_mkF ?_ ?_ ?_; (focus (decide +kernel)); (focus (kernel_rfl)); conv => whnf)
      | (refine Both.mk ?_ ?_ <;> conv => whnf)
      | (refine OwnQ.own ?_; conv => whnf)
      | (refine NilQ.mk (fun hnil => ?_) ?_ <;> conv => whnf)
      | (refine draw_mk (by kernel_rfl) ?_; conv => whnf)
      | (refine Br.mk (fun hb => ?_) (fun hb => ?_) <;> conv => whnf)
      | (refine And.intro ?_ ?_; (focus (first | decide | omega | (simp [contentOK, objRd, objAt, peel, hlen, List.length_set, List.length_replicate]; done) | (simp [contentOK, objRd, objAt, peel, hlen, List.length_set, List.length_replicate]; omega) | (simp [contentOK, objRd, objAt, peel, hlen, List.length_set, List.length_replicate] at *; omega))); conv => whnf)
    all_goals
      refine ⟨i + 1, by omega, by omega, ?_⟩
      rw [hwi, hrow, e1, e2, ← app_one (n := i) (z := [dI 0, dI 0, dI 0]) (turnQ h (x, y, s)) (by simp; omega) rfl]
      exact weak_capver 2 1 0 rfl (by (repeat' first | exact rfl | exact trivial | apply And.intro | (simp [getE]; done))) rfl rfl (Nat.zero_le _) (Nat.zero_le _)
  · have hie : i = sq.length := by simp at hb; omega
    subst hie
    rw [List.take_length]
    clear hb
    repeat' first
      | exact True.intro
      | (refine draw_mkF ?_ ?_ ?_; (focus (decide +kernel)); (focus (kernel_rfl)); conv => whnf)
      | (refine Both.mk ?_ ?_ <;> conv => whnf)
      | (refine OwnQ.own ?_; conv => whnf)
      | (refine NilQ.mk (fun hnil => ?_) ?_ <;> conv => whnf)
      | (refine draw_mk (by kernel_rfl) ?_; conv => whnf)
      | (refine Br.mk (fun hb => ?_) (fun hb => ?_) <;> conv => whnf)
      | (refine call_sn ?_ (hso) ?_; (focus ((repeat' first | exact snapRow | exact snap_row (by simp; done) | exact rfl | exact trivial | apply And.intro | omega | (simp; done)); done)); conv => whnf)
      | (refine callP_sn ?_ (hso) ?_; (focus ((repeat' first | exact snapRow | exact snap_row (by simp; done) | exact rfl | exact trivial | apply And.intro | omega | (simp; done)); done)); conv => whnf)
      | (refine And.intro ?_ ?_; (focus (first | decide | omega | (simp at *; omega) | (simp_all; done))); conv => whnf)
    exact ⟨⟨⟨rfl, rfl, res_cell (by simp [objAt]) rfl r3_flat, trivial⟩, trivial⟩, by simp [refVs, refCs, refCV]⟩

theorem l1Most_ok (a b : Int) : Fn G.P 118 [aI a, aI b] (.one (aI (if a > b then a else b))) := by
  refine fn_of_body (G := G) Try.func118 rfl (by decide) (Nat.le_of_ble_eq_true rfl) ?_
  conv => whnf
  repeat' first
    | exact True.intro
    | (refine draw_mkF ?_ ?_ ?_; (focus (decide +kernel)); (focus (kernel_rfl)); conv => whnf)
    | (refine Both.mk ?_ ?_ <;> conv => whnf)
    | (refine OwnQ.own ?_; conv => whnf)
    | (refine NilQ.mk (fun hnil => ?_) ?_ <;> conv => whnf)
    | (refine draw_mk (by kernel_rfl) ?_; conv => whnf)
    | (refine Br.mk (fun hb => ?_) (fun hb => ?_) <;> conv => whnf)
    | (refine And.intro ?_ ?_; (focus (first | decide | omega | (simp at *; omega) | (simp_all; done))); conv => whnf)
  all_goals first | (simp_all [resOK_iff, resVs, resCell, resCells, refVs, refCV, refCs]; done) | (simp_all [resOK_iff, resVs, resCell, resCells, refVs, refCV, refCs]; omega)

theorem crossB_snoc (l : List (Int × Int × Int)) (s : Int × Int × Int) (x y : Nat) : crossB (l ++ [s]) x y = (crossB l x y || (decide (s.2.1 < y) && decide ((y : Int) < s.2.1 + s.2.2) && inI s.1 s.2.2 x)) := by
  simp [crossB, List.any_append]

theorem cuLine_ok {w h : Nat} {sq : List (Int × Int × Int)} (hs : ∀ q ∈ sq, smallSq q) (hw : w ≤ 500) (hh : h ≤ 500) (hn : sq.length ≤ 30) :
    Fn G.P 119 [.agg (dCut w h sq)] (.one (aI (lineM w (fun x y => !crossB sq x y) h))) := by
  refine fn_of_body (G := G) Try.func119 rfl (by decide) (Nat.le_of_ble_eq_true rfl) ?_
  conv => whnf
  repeat' first
    | exact True.intro
    | (refine draw_mkF ?_ ?_ ?_; (focus (decide +kernel)); (focus (kernel_rfl)); conv => whnf)
    | (refine Both.mk ?_ ?_ <;> conv => whnf)
    | (refine OwnQ.own ?_; conv => whnf)
    | (refine NilQ.mk (fun hnil => ?_) ?_ <;> conv => whnf)
    | (refine draw_mk (by kernel_rfl) ?_; conv => whnf)
    | (refine Br.mk (fun hb => ?_) (fun hb => ?_) <;> conv => whnf)
    | (refine And.intro ?_ ?_; (focus (first | decide | omega | (simp at *; omega) | (simp_all; done))); conv => whnf)
  refine .inl ⟨Nat, fun y => h - y, fun y => 1 ≤ y ∧ y ≤ max h 1, fun y => ⟨[(1, .one (.c (.ptr 0 0 0))), (3, .one (.c (vI (lineM w (fun x y => !crossB sq x y) y)))), (4, .one (.c (vI y)))],
    [(0, .box [.d (dI w), .d (dI h), .d (.list 3 (sq.map r3))])], _⟩, 1, ⟨Nat.le_refl _, by omega⟩, weak_of rfl ?_ rfl (Nat.zero_le _), fun y hy => ?_⟩
  · (repeat' first | exact rfl | exact trivial | apply And.intro | (simp [getE]; done))
  replace hy : 1 ≤ y ∧ y ≤ max h 1 := hy
  dsimp only
  have hlm := lineM_le w (fun x y => !crossB sq x y) y
  have hln : lineM w (fun x y => !crossB sq x y) (y + 1) = max (lineM w (fun x y => !crossB sq x y) y) (mostA (fun x => !crossB sq x y) w) := by
    show (if y = 0 then 0 else _) = _
    rw [if_neg (by omega)]
  conv => whnf
  refine Br.mk (fun hb => ?_) (fun hb => ?_) <;> conv => whnf
  · have hlt : y < h := by simp at hb; omega
    clear hb
    have hwy : IntKind.i64.wrap ((y : Int) + 1) = ((y + 1 : Nat) : Int) := by rw [wrap_i64 _ (by omega) (by omega)]; omega
    generalize lineM w (fun x y => !crossB sq x y) y = M at hlm hln
    repeat' first
      | exact True.intro
      | (refine draw_mkF ?_ ?_ ?_; (focus (decide +kernel)); (focus (kernel_rfl)); conv => whnf)
      | (refine Both.mk ?_ ?_ <;> conv => whnf)
      | (refine OwnQ.own ?_; conv => whnf)
      | (refine NilQ.mk (fun hnil => ?_) ?_ <;> conv => whnf)
      | (refine draw_mk (by kernel_rfl) ?_; conv => whnf)
      | (refine Br.mk (fun hb => ?_) (fun hb => ?_) <;> conv => whnf)
      | (refine And.intro ?_ ?_; (focus (first | decide | omega | (simp at *; omega) | (simp_all; done))); conv => whnf)
    refine .inl ⟨Nat, fun x => w - x, fun x => x ≤ w, fun x => ⟨[(1, .one (.c (.ptr 0 0 0))), (3, .one (.c (vI (max M (mostA (fun x => !crossB sq x y) x) : Nat)))), (4, .one (.c (vI y))), (5, .one (.c (vI (runA (fun x => !crossB sq x y) x)))), (6, .one (.c (vI x)))],
      [(0, .box [.d (dI w), .d (dI h), .d (.list 3 (sq.map r3))])], _⟩, 0, Nat.zero_le _, weak_of rfl ?_ rfl (Nat.zero_le _), fun x hx => ?_⟩
    · rw [show max M (mostA (fun x => !crossB sq x y) 0) = M from Nat.max_zero M]
      (repeat' first | exact rfl | exact trivial | apply And.intro | (simp [getE]; done))
    replace hx : x ≤ w := hx
    dsimp only
    have hra := runA_le (fun x => !crossB sq x y) x
    have hma := mostA_le (fun x => !crossB sq x y) x
    have hrs : runA (fun x => !crossB sq x y) (x + 1) = if crossB sq x y = true then 0 else runA (fun x => !crossB sq x y) x + 1 := by
      show (if (!crossB sq x y) = true then _ else _) = _
      cases crossB sq x y <;> rfl
    have hms : mostA (fun x => !crossB sq x y) (x + 1) = max (mostA (fun x => !crossB sq x y) x) (runA (fun x => !crossB sq x y) (x + 1)) := rfl
    have hwx : IntKind.i64.wrap ((x : Int) + 1) = ((x + 1 : Nat) : Int) := by rw [wrap_i64 _ (by omega) (by omega)]; omega
    have hwr : IntKind.i64.wrap ((runA (fun x => !crossB sq x y) x : Int) + 1) = ((runA (fun x => !crossB sq x y) x + 1 : Nat) : Int) := by rw [wrap_i64 _ (by omega) (by omega)]; omega
    conv => whnf
    refine Br.mk (fun hb => ?_) (fun hb => ?_) <;> conv => whnf
    · have hltx : x < w := by simp at hb; omega
      clear hb
      repeat' first
        | exact True.intro
        | (refine draw_mkF ?_ ?_ ?_; (focus (decide +kernel)); (focus (kernel_rfl)); conv => whnf)
        | (refine Both.mk ?_ ?_ <;> conv => whnf)
        | (refine OwnQ.own ?_; conv => whnf)
        | (refine NilQ.mk (fun hnil => ?_) ?_ <;> conv => whnf)
        | (refine draw_mk (by kernel_rfl) ?_; conv => whnf)
        | (refine Br.mk (fun hb => ?_) (fun hb => ?_) <;> conv => whnf)
        | (refine And.intro ?_ ?_; (focus (first | decide | omega | (simp at *; omega) | (simp_all; done))); conv => whnf)
      rw [hwr]
      generalize runA (fun x => !crossB sq x y) x = r at hra hrs hwr
      generalize mostA (fun x => !crossB sq x y) x = m at hma hms
      refine .inl ⟨Nat, fun j => sq.length - j, fun j => j ≤ sq.length, fun j => ⟨[(1, .one (.c (.ptr 0 0 0))), (3, .one (.c (vI (max M m : Nat)))), (4, .one (.c (vI y))), (5, .one (.c (vI (if crossB (sq.take j) x y = true then 0 else r + 1 : Nat)))), (6, .one (.c (vI x))),
          (24, .one (.c (.d (.list 3 (sq.map r3))))), (25, .one (.c (vI (sq.map r3).length))), (26, .one (.c (vI j)))],
        [(0, .box [.d (dI w), .d (dI h), .d (.list 3 (sq.map r3))])], _⟩, 0, Nat.zero_le _, weak_of rfl ?_ rfl (Nat.zero_le _), fun j hj => ?_⟩
      · have : crossB (sq.take 0) x y = false := rfl
        rw [this, if_neg (by simp)]
        (repeat' first | exact rfl | exact trivial | apply And.intro | (simp [getE]; done))
      replace hj : j ≤ sq.length := hj
      dsimp only
      conv => whnf
      refine Br.mk (fun hb => ?_) (fun hb => ?_) <;> conv => whnf
      · have hltj : j < sq.length := by simp at hb; omega
        obtain ⟨⟨x', y', s'⟩, hc⟩ : ∃ q, sq[j]? = some q := ⟨_, List.getElem?_eq_getElem hltj⟩
        have hsm := hs _ (List.mem_of_getElem? hc)
        have hg : (sq.map r3)[((j : Int)).toNat]? = some [dI x', dI y', dI s'] := by rw [Int.toNat_natCast, List.getElem?_map, hc]; rfl
        have hcs : crossB (sq.take (j + 1)) x y = (crossB (sq.take j) x y || (decide (y' < y) && decide ((y : Int) < y' + s') && inI x' s' x)) := by rw [take_next hc, crossB_snoc]
        have e1 : IntKind.i64.wrap (IntKind.i64.wrap (x' + s') - 1) = x' + s' - 1 := by simp only [smallSq] at hsm; rw [wrap_i64 (x' + s') (by omega) (by omega), wrap_i64 _ (by omega) (by omega)]
        have e2 : IntKind.i64.wrap (y' + s') = y' + s' := by simp only [smallSq] at hsm; exact wrap_i64 _ (by omega) (by omega)
        have hx2 := l1In_ok x x' (IntKind.i64.wrap (IntKind.i64.wrap (x' + s') - 1))
        have hinx : inB (x : Int) x' (IntKind.i64.wrap (IntKind.i64.wrap (x' + s') - 1)) = inI x' s' x := by rw [e1, Bool.eq_iff_iff, inI_iff]; simp only [inB, decide_eq_true_eq]; omega
        rw [hinx] at hx2
        have hwj : IntKind.i64.wrap ((j : Int) + 1) = ((j + 1 : Nat) : Int) := by rw [wrap_i64 _ (by omega) (by omega)]; omega
        clear hb hinx
        repeat' first
          | (refine El.get hg ?_; conv => whnf)
          | exact True.intro
          | (refine draw_mkF ?_ ?_ ?_; (focus (decide +kernel)); (focus (kernel_rfl)); conv => whnf)
          | (refine Both.mk ?_ ?_ <;> conv => whnf)
          | (refine OwnQ.own ?_; conv => whnf)
          | (refine NilQ.mk (fun hnil => ?_) ?_ <;> conv => whnf)
          | (refine draw_mk (by kernel_rfl) ?_; conv => whnf)
          | (refine Br.mk (fun hb => ?_) (fun hb => ?_) <;> conv => whnf)
          | (refine call_sn ?_ (hx2) ?_; (focus ((repeat' first | exact snapRow | exact snap_row (by simp; done) | exact rfl | exact trivial | apply And.intro | omega | (simp; done)); done)); conv => whnf)
          | (refine callP_sn ?_ (hx2) ?_; (focus ((repeat' first | exact snapRow | exact snap_row (by simp; done) | exact rfl | exact trivial | apply And.intro | omega | (simp; done)); done)); conv => whnf)
          | (refine And.intro ?_ ?_; (focus (first | decide | omega | (simp at *; omega) | (simp_all; done))); conv => whnf)
        all_goals
          simp only [e2, decide_eq_true_eq, decide_eq_false_iff_not] at *
          refine ⟨j + 1, by omega, by omega, ?_⟩
          rw [hcs, hwj]
          first
            | (have hcb : (decide (y' < (y : Int)) && decide ((y : Int) < y' + s') && inI x' s' x) = true := by simp_all
               rw [hcb, Bool.or_true, if_pos rfl]
               exact weak_of rfl (by (repeat' first | exact rfl | exact trivial | apply And.intro | (simp [getE]; done))) rfl (Nat.zero_le _))
            | (have hcb : (decide (y' < (y : Int)) && decide ((y : Int) < y' + s') && inI x' s' x) = false := by
                 cases hz : inI x' s' x with
                 | false => rw [Bool.and_false]
                 | true =>
                   rw [Bool.and_true, Bool.eq_false_iff]
                   simp only [ne_eq, Bool.and_eq_true, decide_eq_true_eq]
                   first | omega | simp_all
               rw [hcb, Bool.or_false]
               exact weak_of rfl (by (repeat' first | exact rfl | exact trivial | apply And.intro | (simp [getE]; done))) rfl (Nat.zero_le _))
      · have hje : j = sq.length := by simp at hb; omega
        subst hje
        rw [List.take_length]
        clear hb
        have hmo := l1Most_ok (max M m : Nat) (if crossB sq x y = true then 0 else r + 1 : Nat)
        repeat' first
          | exact True.intro
          | (refine draw_mkF ?_ ?_ ?_; (focus (decide +kernel)); (focus (kernel_rfl)); conv => whnf)
          | (refine Both.mk ?_ ?_ <;> conv => whnf)
          | (refine OwnQ.own ?_; conv => whnf)
          | (refine NilQ.mk (fun hnil => ?_) ?_ <;> conv => whnf)
          | (refine draw_mk (by kernel_rfl) ?_; conv => whnf)
          | (refine Br.mk (fun hb => ?_) (fun hb => ?_) <;> conv => whnf)
          | (refine call_sn ?_ (hmo) ?_; (focus ((repeat' first | exact snapRow | exact snap_row (by simp; done) | exact rfl | exact trivial | apply And.intro | omega | (simp; done)); done)); conv => whnf)
          | (refine callP_sn ?_ (hmo) ?_; (focus ((repeat' first | exact snapRow | exact snap_row (by simp; done) | exact rfl | exact trivial | apply And.intro | omega | (simp; done)); done)); conv => whnf)
          | (refine And.intro ?_ ?_; (focus (first | decide | omega | (simp at *; omega) | (simp_all; done))); conv => whnf)
        refine ⟨x + 1, by omega, by omega, ?_⟩
        rw [hwx, hms, hrs]
        have hmx : ((max M (max m (if crossB sq x y = true then 0 else r + 1)) : Nat) : Int) = (if ((max M m : Nat) : Int) > ((if crossB sq x y = true then 0 else r + 1 : Nat) : Int) then ((max M m : Nat) : Int) else ((if crossB sq x y = true then 0 else r + 1 : Nat) : Int)) := by
          generalize (if crossB sq x y = true then 0 else r + 1) = z
          split <;> omega
        rw [hmx]
        exact weak_of rfl (by (repeat' first | exact rfl | exact trivial | apply And.intro | (simp [getE]; done))) rfl (Nat.zero_le _)
    · have hxe : x = w := by simp at hb; omega
      subst hxe
      refine ⟨y + 1, by omega, by omega, ?_⟩
      rw [hwy, hln]
      exact weak_of rfl (by (repeat' first | exact rfl | exact trivial | apply And.intro | (simp [getE]; done))) rfl (Nat.zero_le _)
  · have hye : y = max h 1 := by simp at hb; omega
    have he : lineM w (fun x y => !crossB sq x y) y = lineM w (fun x y => !crossB sq x y) h := by
      rcases Nat.eq_zero_or_pos h with g | g
      · subst g
        rw [hye]
        rfl
      · rw [hye, Nat.max_eq_left g]
    rw [he]
    exact ⟨⟨rfl, trivial⟩, by simp [refVs, refCV]⟩

end Go.Proofs.Ytmfdkjjhdjkgpaa

namespace Go.Proofs.Ytmfdkjjhdjkgpaa
open Go Go.RowKit
set_option maxRecDepth 10000
set_option maxHeartbeats 1000000
set_option linter.unusedSimpArgs false

theorem pzValue_ok {kind a : Int} {w h : Nat} {sq : List (Int × Int × Int)} (hg : goodCutB w h sq = true) (hk : tellOK kind a w h) :
    Fn G.P 78 [aI kind, aI a, .agg (dCut w h sq)] (.one (aI (tellI kind a w h sq))) := by
  obtain ⟨⟨g1, g2⟩, ⟨g3, g4⟩, ⟨g5, g6⟩, _⟩ := good_chk hg
  have ht := tiled_of_good hg
  have hs := ht.small (by omega) (by omega)
  obtain ⟨hk0, hk2, hk3⟩ := hk
  have hcases : kind = 0 ∨ kind = 1 ∨ kind = 2 ∨ kind = 3 ∨ kind = 4 ∨ kind = 5 := by omega
  rcases hcases with rfl | rfl | rfl | rfl | rfl | rfl
  · show Fn G.P _ _ (.one (aI (sq.length : Nat)))
    refine fn_of_body (G := G) Try.func78 rfl (by decide) (Nat.le_of_ble_eq_true rfl) ?_
    conv => whnf
    repeat' first
      | exact True.intro
      | (refine draw_mkF ?_ ?_ ?_; (focus (decide +kernel)); (focus (kernel_rfl)); conv => whnf)
      | (refine Both.mk ?_ ?_ <;> conv => whnf)
      | (refine OwnQ.own ?_; conv => whnf)
      | (refine NilQ.mk (fun hnil => ?_) ?_ <;> conv => whnf)
      | (refine draw_mk (by kernel_rfl) ?_; conv => whnf)
      | (refine Br.mk (fun hb => ?_) (fun hb => ?_) <;> conv => whnf)
      | (refine And.intro ?_ ?_; (focus (first | decide | omega | (simp at *; omega) | (simp_all; done))); conv => whnf)
    rw [List.length_map]
    exact ⟨⟨rfl, trivial⟩, by simp [refVs, refCV]⟩
  · show Fn G.P _ _ (.one (aI ((sq.filter fun s => s.2.2 == a).length : Nat)))
    have hfl : ∀ l : List (Int × Int × Int), (l.filter fun s => s.2.2 == a).length ≤ l.length := fun l => List.length_filter_le _ _
    refine fn_of_body (G := G) Try.func78 rfl (by decide) (Nat.le_of_ble_eq_true rfl) ?_
    conv => whnf
    repeat' first
      | exact True.intro
      | (refine draw_mkF ?_ ?_ ?_; (focus (decide +kernel)); (focus (kernel_rfl)); conv => whnf)
      | (refine Both.mk ?_ ?_ <;> conv => whnf)
      | (refine OwnQ.own ?_; conv => whnf)
      | (refine NilQ.mk (fun hnil => ?_) ?_ <;> conv => whnf)
      | (refine draw_mk (by kernel_rfl) ?_; conv => whnf)
      | (refine Br.mk (fun hb => ?_) (fun hb => ?_) <;> conv => whnf)
      | (refine And.intro ?_ ?_; (focus (first | decide | omega | (simp at *; omega) | (simp_all; done))); conv => whnf)
    refine .inl ⟨Nat, fun i => sq.length - i, fun i => i ≤ sq.length, fun i => ⟨[(0, .one (.c (vI 1))), (1, .one (.c (vI a))), (5, .one (.c (.ptr 0 0 0))), (7, .one (.c (vI ((sq.take i).filter fun s => s.2.2 == a).length))), (61, .one (.c (.d (.list 3 (sq.map r3))))), (62, .one (.c (vI (sq.map r3).length))), (63, .one (.c (vI i)))],
      [(0, .box [.d (dI w), .d (dI h), .d (.list 3 (sq.map r3))])], _⟩, 0, Nat.zero_le _, weak_of rfl ?_ rfl (Nat.zero_le _), fun i hi => ?_⟩
    · (repeat' first | exact rfl | exact trivial | apply And.intro | (simp [getE]; done))
    replace hi : i ≤ sq.length := hi
    dsimp only
    conv => whnf
    refine Br.mk (fun hb => ?_) (fun hb => ?_) <;> conv => whnf
    · have hlt : i < sq.length := by simp at hb; omega
      obtain ⟨⟨x, y, s⟩, hc⟩ : ∃ q, sq[i]? = some q := ⟨_, List.getElem?_eq_getElem hlt⟩
      have hgt : (sq.map r3)[((i : Int)).toNat]? = some [dI x, dI y, dI s] := by rw [Int.toNat_natCast, List.getElem?_map, hc]; rfl
      have ht1 : sq.take (i + 1) = sq.take i ++ [(x, y, s)] := take_next hc
      have hfi := hfl (sq.take i)
      rw [List.length_take] at hfi
      have hadd : ((sq.take (i + 1)).filter fun s => s.2.2 == a).length = ((sq.take i).filter fun s => s.2.2 == a).length + if (s == a) = true then 1 else 0 := by
        rw [ht1, List.filter_append, List.length_append, List.filter_cons]
        congr 1
        dsimp only
        cases (s == a) <;> rfl
      have hw1 : IntKind.i64.wrap ((((sq.take i).filter fun s => s.2.2 == a).length : Int) + 1) = ((((sq.take i).filter fun s => s.2.2 == a).length + 1 : Nat) : Int) := by rw [wrap_i64 _ (by omega) (by omega)]; omega
      have hwi : IntKind.i64.wrap ((i : Int) + 1) = ((i + 1 : Nat) : Int) := by rw [wrap_i64 _ (by omega) (by omega)]; omega
      clear hb
      repeat' first
        | (refine El.get hgt ?_; conv => whnf)
        | exact True.intro
        | (refine draw_mkF ?_ ?_ ?_; (focus (decide +kernel)); (focus (kernel_rfl)); conv => whnf)
        | (refine Both.mk ?_ ?_ <;> conv => whnf)
        | (refine OwnQ.own ?_; conv => whnf)
        | (refine NilQ.mk (fun hnil => ?_) ?_ <;> conv => whnf)
        | (refine draw_mk (by kernel_rfl) ?_; conv => whnf)
        | (refine Br.mk (fun hb => ?_) (fun hb => ?_) <;> conv => whnf)
        | (refine And.intro ?_ ?_; (focus (first | decide | omega | (simp at *; omega) | (simp_all; done))); conv => whnf)
      all_goals
        refine ⟨i + 1, by omega, by omega, ?_⟩
        rw [hadd, hwi]
        first
          | (rw [if_pos (by simpa using hb), ← hw1]
             exact weak_of rfl (by (repeat' first | exact rfl | exact trivial | apply And.intro | (simp [getE]; done))) rfl (Nat.zero_le _))
          | (rw [if_neg (by simpa using hb)]
             exact weak_of rfl (by (repeat' first | exact rfl | exact trivial | apply And.intro | (simp [getE]; done))) rfl (Nat.zero_le _))
    · have hie : i = sq.length := by simp at hb; omega
      subst hie
      rw [List.take_length]
      exact ⟨⟨rfl, trivial⟩, by simp [refVs, refCV]⟩
  · obtain ⟨k, rfl⟩ : ∃ k : Nat, a = k := ⟨a.toNat, by have := hk2 rfl; omega⟩
    have hkl : k < w * h := by have := hk2 rfl; omega
    obtain ⟨c1, c2⟩ := cell_in (by omega) hkl
    obtain ⟨q, hq, hin⟩ := ht.cover _ _ c1 c2
    obtain ⟨j, hj⟩ := List.getElem?_of_mem hq
    have hat := squareAt_ok hg c1 c2 hj hin
    show Fn G.P _ _ (.one (aI (sideAt ((k : Int).toNat % w) ((k : Int).toNat / w) sq)))
    rw [Int.toNat_natCast, sideAt_eq ht hj hin]
    have e1 : (k : Int).tmod w = ((k % w : Nat) : Int) := by rw [Int.tmod_eq_emod_of_nonneg (by omega)]; norm_cast
    have e2 : IntKind.i64.wrap ((k : Int).tdiv w) = ((k / w : Nat) : Int) := by
      have e0 : (k : Int).tdiv w = ((k / w : Nat) : Int) := by rw [Int.tdiv_eq_ediv_of_nonneg (by omega)]; norm_cast
      rw [e0]
      have c3 := c2
      generalize k / w = z at c3
      exact wrap_i64 _ (by omega) (by omega)
    rw [← e1, ← e2] at hat
    have hgt : (sq.map r3)[((j : Int)).toNat]? = some (r3 q) := by rw [Int.toNat_natCast, List.getElem?_map, hj]; rfl
    have hjl : (j : Int) < (sq.map r3).length := by rw [List.length_map]; have := (List.getElem?_eq_some_iff.1 hj).1; omega
    refine fn_of_body (G := G) Try.func78 rfl (by decide) (Nat.le_of_ble_eq_true rfl) ?_
    conv => whnf
    repeat' first
      | (refine El.get hgt ?_; conv => whnf)
      | exact True.intro
      | (refine draw_mkF ?_ ?_ ?_; (focus (decide +kernel)); (focus (kernel_rfl)); conv => whnf)
      | (refine Both.mk ?_ ?_ <;> conv => whnf)
      | (refine OwnQ.own ?_; conv => whnf)
      | (refine NilQ.mk (fun hnil => ?_) ?_ <;> conv => whnf)
      | (refine draw_mk (by kernel_rfl) ?_; conv => whnf)
      | (refine Br.mk (fun hb => ?_) (fun hb => ?_) <;> conv => whnf)
      | (refine call_sn ?_ (hat) ?_; (focus ((repeat' first | exact snapRow | exact snap_row (by simp; done) | exact rfl | exact trivial | apply And.intro | omega | (simp; done)); done)); conv => whnf)
      | (refine callP_sn ?_ (hat) ?_; (focus ((repeat' first | exact snapRow | exact snap_row (by simp; done) | exact rfl | exact trivial | apply And.intro | omega | (simp; done)); done)); conv => whnf)
      | (refine And.intro ?_ ?_; (focus (first | decide | omega | (simp at *; omega) | (simp_all; done))); conv => whnf)
    exact ⟨⟨rfl, trivial⟩, by simp [refVs, refCV]⟩
  · have ha := hk3 rfl
    show Fn G.P _ _ (.one (aI (edge1 w h sq a.toNat : Nat)))
    have hed := squaresAtEdges_ok hg
    refine fn_of_body (G := G) Try.func78 rfl (by decide) (Nat.le_of_ble_eq_true rfl) ?_
    conv => whnf
    repeat' first
      | exact True.intro
      | (refine draw_mkF ?_ ?_ ?_; (focus (decide +kernel)); (focus (kernel_rfl)); conv => whnf)
      | (refine Both.mk ?_ ?_ <;> conv => whnf)
      | (refine OwnQ.own ?_; conv => whnf)
      | (refine NilQ.mk (fun hnil => ?_) ?_ <;> conv => whnf)
      | (refine draw_mk (by kernel_rfl) ?_; conv => whnf)
      | (refine Br.mk (fun hb => ?_) (fun hb => ?_) <;> conv => whnf)
      | (refine call_sn ?_ (hed) ?_; (focus ((repeat' first | exact snapRow | exact snap_row (by simp; done) | exact rfl | exact trivial | apply And.intro | omega | (simp; done)); done)); conv => whnf)
      | (refine callP_sn ?_ (hed) ?_; (focus ((repeat' first | exact snapRow | exact snap_row (by simp; done) | exact rfl | exact trivial | apply And.intro | omega | (simp; done)); done)); conv => whnf)
      | (refine And.intro ?_ ?_; (focus (first | decide | omega | (simp at *; omega) | (simp_all; done))); conv => whnf)
    obtain ⟨k, rfl⟩ : ∃ k : Nat, a = k := ⟨a.toNat, by omega⟩
    have hk4 : k < 4 := by omega
    refine ⟨by simp [edgeRow]; omega, ?_⟩
    conv => whnf
    have hgk : (edgeRow w h sq)[0 + k]? = some [dI (edge1 w h sq k)] := by
      rw [Nat.zero_add]
      have : k = 0 ∨ k = 1 ∨ k = 2 ∨ k = 3 := by omega
      rcases this with rfl | rfl | rfl | rfl <;> rfl
    rw [Int.toNat_natCast]
    repeat' first
      | (refine El.get hgk ?_; conv => whnf)
      | exact True.intro
      | (refine draw_mkF ?_ ?_ ?_; (focus (decide +kernel)); (focus (kernel_rfl)); conv => whnf)
      | (refine Both.mk ?_ ?_ <;> conv => whnf)
      | (refine OwnQ.own ?_; conv => whnf)
      | (refine NilQ.mk (fun hnil => ?_) ?_ <;> conv => whnf)
      | (refine draw_mk (by kernel_rfl) ?_; conv => whnf)
      | (refine Br.mk (fun hb => ?_) (fun hb => ?_) <;> conv => whnf)
      | (refine And.intro ?_ ?_; (focus (first | decide | omega | (simp [contentOK, objRd, objAt, peel, edgeRow, hk4]; done) | (simp [contentOK, objRd, objAt, peel, edgeRow, hk4]; omega) | (simp [contentOK, objRd, objAt, peel, edgeRow, hk4] at *; omega))); conv => whnf)
    exact ⟨⟨rfl, trivial⟩, by simp [refVs, refCV]⟩
  · show Fn G.P _ _ (.one (aI (crossN sq : Nat)))
    have hco := fun x y => cuCorners_ok (w := w) (h := h) hs g6 x y
    have hfl : ∀ l : List (Int × Int × Int), (l.filter fun s => cornN s.1 s.2.1 sq == 4).length ≤ l.length := fun l => List.length_filter_le _ _
    refine fn_of_body (G := G) Try.func78 rfl (by decide) (Nat.le_of_ble_eq_true rfl) ?_
    conv => whnf
    repeat' first
      | exact True.intro
      | (refine draw_mkF ?_ ?_ ?_; (focus (decide +kernel)); (focus (kernel_rfl)); conv => whnf)
      | (refine Both.mk ?_ ?_ <;> conv => whnf)
      | (refine OwnQ.own ?_; conv => whnf)
      | (refine NilQ.mk (fun hnil => ?_) ?_ <;> conv => whnf)
      | (refine draw_mk (by kernel_rfl) ?_; conv => whnf)
      | (refine Br.mk (fun hb => ?_) (fun hb => ?_) <;> conv => whnf)
      | (refine And.intro ?_ ?_; (focus (first | decide | omega | (simp at *; omega) | (simp_all; done))); conv => whnf)
    refine .inl ⟨Nat, fun i => sq.length - i, fun i => i ≤ sq.length, fun i => ⟨[(0, .one (.c (vI 4))), (1, .one (.c (vI a))), (5, .one (.c (.ptr 0 0 0))), (7, .one (.c (vI ((sq.take i).filter fun s => cornN s.1 s.2.1 sq == 4).length))), (61, .one (.c (.d (.list 3 (sq.map r3))))), (62, .one (.c (vI (sq.map r3).length))), (63, .one (.c (vI i)))],
      [(0, .box [.d (dI w), .d (dI h), .d (.list 3 (sq.map r3))])], _⟩, 0, Nat.zero_le _, weak_of rfl ?_ rfl (Nat.zero_le _), fun i hi => ?_⟩
    · (repeat' first | exact rfl | exact trivial | apply And.intro | (simp [getE]; done))
    replace hi : i ≤ sq.length := hi
    dsimp only
    conv => whnf
    refine Br.mk (fun hb => ?_) (fun hb => ?_) <;> conv => whnf
    · have hlt : i < sq.length := by simp at hb; omega
      obtain ⟨⟨x, y, s⟩, hc⟩ : ∃ q, sq[i]? = some q := ⟨_, List.getElem?_eq_getElem hlt⟩
      have hgt : (sq.map r3)[((i : Int)).toNat]? = some [dI x, dI y, dI s] := by rw [Int.toNat_natCast, List.getElem?_map, hc]; rfl
      have ht1 : sq.take (i + 1) = sq.take i ++ [(x, y, s)] := take_next hc
      have hfi := hfl (sq.take i)
      rw [List.length_take] at hfi
      have hadd : ((sq.take (i + 1)).filter fun s => cornN s.1 s.2.1 sq == 4).length = ((sq.take i).filter fun s => cornN s.1 s.2.1 sq == 4).length + if (cornN x y sq == 4) = true then 1 else 0 := by
        rw [ht1, List.filter_append, List.length_append, List.filter_cons]
        congr 1
        dsimp only
        cases (cornN x y sq == 4) <;> rfl
      have hw1 : IntKind.i64.wrap ((((sq.take i).filter fun s => cornN s.1 s.2.1 sq == 4).length : Int) + 1) = ((((sq.take i).filter fun s => cornN s.1 s.2.1 sq == 4).length + 1 : Nat) : Int) := by rw [wrap_i64 _ (by omega) (by omega)]; omega
      have hwi : IntKind.i64.wrap ((i : Int) + 1) = ((i + 1 : Nat) : Int) := by rw [wrap_i64 _ (by omega) (by omega)]; omega
      have hcxy := hco x y
      clear hb
      repeat' first
        | (refine El.get hgt ?_; conv => whnf)
        | exact True.intro
        | (refine draw_mkF ?_ ?_ ?_; (focus (decide +kernel)); (focus (kernel_rfl)); conv => whnf)
        | (refine Both.mk ?_ ?_ <;> conv => whnf)
        | (refine OwnQ.own ?_; conv => whnf)
        | (refine NilQ.mk (fun hnil => ?_) ?_ <;> conv => whnf)
        | (refine draw_mk (by kernel_rfl) ?_; conv => whnf)
        | (refine Br.mk (fun hb => ?_) (fun hb => ?_) <;> conv => whnf)
        | (refine call_sn ?_ (hcxy) ?_; (focus ((repeat' first | exact snapRow | exact snap_row (by simp; done) | exact rfl | exact trivial | apply And.intro | omega | (simp; done)); done)); conv => whnf)
        | (refine callP_sn ?_ (hcxy) ?_; (focus ((repeat' first | exact snapRow | exact snap_row (by simp; done) | exact rfl | exact trivial | apply And.intro | omega | (simp; done)); done)); conv => whnf)
        | (refine And.intro ?_ ?_; (focus (first | decide | omega | (simp at *; omega) | (simp_all; done))); conv => whnf)
      all_goals
        refine ⟨i + 1, by omega, by omega, ?_⟩
        rw [hadd, hwi]
        first
          | (rw [if_pos (by first | (simp at hb ⊢; omega)), ← hw1]
             exact weak_of rfl (by (repeat' first | exact rfl | exact trivial | apply And.intro | (simp [getE]; done))) rfl (Nat.zero_le _))
          | (rw [if_neg (by first | (simp at hb ⊢; omega))]
             exact weak_of rfl (by (repeat' first | exact rfl | exact trivial | apply And.intro | (simp [getE]; done))) rfl (Nat.zero_le _))
    · have hie : i = sq.length := by simp at hb; omega
      subst hie
      rw [List.take_length]
      exact ⟨⟨rfl, trivial⟩, by simp [refVs, refCV]⟩
  · show Fn G.P _ _ (.one (aI (longN w h sq : Nat)))
    have hp := sortI_perm lessB (sq.map (turnQ h))
    have hs2 := (ht.turn.perm hp).small (by omega) (by omega)
    have hl1 := cuLine_ok (w := w) (h := h) hs (by omega) (by omega) g6
    have htu := cuTurn_ok (w := w) (h := h) hs (by omega) g6
    have hl2 := cuLine_ok (w := h) (h := w) hs2 (by omega) (by omega) (by rw [hp.length_eq, List.length_map]; exact g6)
    have e : lineM h (fun x y => !crossB (sortI lessB (sq.map (turnQ h))) x y) w = lineM h (fun x y => !crossB (sq.map (turnQ h)) x y) w := lineM_congr w fun i j _ _ _ => by rw [crossB_perm hp]
    rw [e] at hl2
    have hmo := l1Most_ok (lineM w (fun x y => !crossB sq x y) h) (lineM h (fun x y => !crossB (sq.map (turnQ h)) x y) w)
    rw [show (if ((lineM w (fun x y => !crossB sq x y) h : Nat) : Int) > (lineM h (fun x y => !crossB (sq.map (turnQ h)) x y) w : Nat) then ((lineM w (fun x y => !crossB sq x y) h : Nat) : Int) else (lineM h (fun x y => !crossB (sq.map (turnQ h)) x y) w : Nat)) = (longN w h sq : Nat) by
      unfold longN
      generalize lineM w (fun x y => !crossB sq x y) h = A
      generalize lineM h (fun x y => !crossB (sq.map (turnQ h)) x y) w = B
      split <;> omega] at hmo
    refine fn_of_body (G := G) Try.func78 rfl (by decide) (Nat.le_of_ble_eq_true rfl) ?_
    conv => whnf
    repeat' first
      | exact True.intro
      | (refine draw_mkF ?_ ?_ ?_; (focus (decide +kernel)); (focus (kernel_rfl)); conv => whnf)
      | (refine Both.mk ?_ ?_ <;> conv => whnf)
      | (refine OwnQ.own ?_; conv => whnf)
      | (refine NilQ.mk (fun hnil => ?_) ?_ <;> conv => whnf)
      | (refine draw_mk (by kernel_rfl) ?_; conv => whnf)
      | (refine Br.mk (fun hb => ?_) (fun hb => ?_) <;> conv => whnf)
      | (refine call_sn ?_ (hl1) ?_; (focus ((repeat' first | exact snapRow | exact snap_row (by simp; done) | exact rfl | exact trivial | apply And.intro | omega | (simp; done)); done)); conv => whnf)
      | (refine callP_sn ?_ (hl1) ?_; (focus ((repeat' first | exact snapRow | exact snap_row (by simp; done) | exact rfl | exact trivial | apply And.intro | omega | (simp; done)); done)); conv => whnf)
      | (refine call_sn ?_ (htu) ?_; (focus ((repeat' first | exact snapRow | exact snap_row (by simp; done) | exact rfl | exact trivial | apply And.intro | omega | (simp; done)); done)); conv => whnf)
      | (refine callP_sn ?_ (htu) ?_; (focus ((repeat' first | exact snapRow | exact snap_row (by simp; done) | exact rfl | exact trivial | apply And.intro | omega | (simp; done)); done)); conv => whnf)
      | (refine call_sn ?_ (hl2) ?_; (focus ((repeat' first | exact snapRow | exact snap_row (by simp; done) | exact rfl | exact trivial | apply And.intro | omega | (simp; done)); done)); conv => whnf)
      | (refine callP_sn ?_ (hl2) ?_; (focus ((repeat' first | exact snapRow | exact snap_row (by simp; done) | exact rfl | exact trivial | apply And.intro | omega | (simp; done)); done)); conv => whnf)
      | (refine call_sn ?_ (hmo) ?_; (focus ((repeat' first | exact snapRow | exact snap_row (by simp; done) | exact rfl | exact trivial | apply And.intro | omega | (simp; done)); done)); conv => whnf)
      | (refine callP_sn ?_ (hmo) ?_; (focus ((repeat' first | exact snapRow | exact snap_row (by simp; done) | exact rfl | exact trivial | apply And.intro | omega | (simp; done)); done)); conv => whnf)
      | (refine And.intro ?_ ?_; (focus (first | decide | omega | (simp [contentOK, objRd, objAt, peel, List.length_map]; done) | (simp [contentOK, objRd, objAt, peel, List.length_map]; omega) | (simp [contentOK, objRd, objAt, peel, List.length_map] at *; omega))); conv => whnf)
    all_goals exact ⟨⟨rfl, trivial⟩, by simp [refVs, refCV]⟩

end Go.Proofs.Ytmfdkjjhdjkgpaa

/- Cuts: lines down. -/
import Derived.Test.YtbmaofepmheeeaaEcut
import Derived.Test.YtbmaofepmheeeaaGst
import Derived.Test.YtbmaofepmheeeaaRst
namespace Go.Proofs.Ytbmaofepmheeeaa
open Go Go.RowKit
set_option maxRecDepth 10000
set_option linter.unusedSimpArgs false

/-- No square goes through x. -/
def freeB (sq : List (Int × Int × Int)) (x : Int) : Bool := sq.all fun s => !(decide (s.1 < x) && decide (x < s.1 + s.2.2))

/-- The free places of the first k, from 1 on. -/
def linesK (sq : List (Int × Int × Int)) (k : Nat) : List Int := ((List.range k).map fun i : Nat => ((i + 1 : Nat) : Int)).filter (freeB sq)

theorem linesK_succ (sq : List (Int × Int × Int)) (k : Nat) : linesK sq (k + 1) = if freeB sq ((k + 1 : Nat) : Int) = true then linesK sq k ++ [((k + 1 : Nat) : Int)] else linesK sq k := by
  unfold linesK
  rw [List.range_succ, List.map_append, List.filter_append]
  generalize hx : ((k + 1 : Nat) : Int) = x
  have e : (List.map (fun i : Nat => ((i + 1 : Nat) : Int)) [k]) = [x] := by rw [← hx]; rfl
  rw [e]
  by_cases h : freeB sq x = true
  · rw [if_pos h, List.filter_cons_of_pos h]; rfl
  · rw [if_neg h, List.filter_cons_of_neg h, List.filter_nil, List.append_nil]

theorem linesK_len (sq : List (Int × Int × Int)) (k : Nat) : (linesK sq k).length ≤ k := by
  unfold linesK
  have := List.length_filter_le (freeB sq) ((List.range k).map fun i : Nat => ((i + 1 : Nat) : Int))
  simpa using this

theorem app1' {l : List Int} {n : Nat} {d : DC} {v : Int} (hn : n = l.length) : List.take n (List.drop 0 (l.map r1)) ++ List.take 1 (List.drop 0 ((List.replicate 1 [d]).set 0 [DC.v (.int .i64 v)])) = (l ++ [v]).map r1 := by
  subst hn; simp [r1, List.take_of_length_le]

theorem joLines_ok (w : Nat) (h : Int) (sq : List (Int × Int × Int)) (hn : sq.length ≤ 30) (hw : 1 ≤ w ∧ w ≤ 500) (hsm : ∀ q ∈ sq, smallSq q) : Fn G.P 54 [.agg (dCut w h sq), aB true] (.one (.c (.list 1 ((linesK sq (w - 1)).map r1)))) := by
  refine fn_of_body (G := G) Try.func54 rfl (by decide) (Nat.le_of_ble_eq_true rfl) ?_
  conv => whnf
  repeat' first
    | (refine draw_mk (by kernel_rfl) ?_; conv => whnf)
    | (refine Br.mk (fun hb => ?_) (fun hb => ?_) <;> conv => whnf)
    | (refine And.intro ?_ ?_; (focus (first | decide | omega | (simp at *; omega) | (simp_all; done))); conv => whnf)
  refine .inl ⟨Nat, fun i => w - i, fun i => i + 1 ≤ w, fun i => ⟨[(1, .one (.c (vB true))), (2, .one (.c (.ptr 0 0 0))), (5, .one (.c (.sl 1 0 1 0 (linesK sq i).length none))), (6, .one (.c (vI w))), (7, .one (.c (vI ((i + 1 : Nat) : Int))))],
    [(0, .box [.d (dI w), .d (dI h), .d (.list 3 (sq.map r3))])] ++ [(0, .arr 1 ((linesK sq i).map r1))], _⟩, 0, hw.1, weak_nilof 1 1 rfl ?_ rfl rfl rfl (Nat.zero_le _) (Nat.zero_le _), fun i hi => ?_⟩
  · (repeat' first | exact rfl | exact trivial | apply And.intro | (simp [getE]; done))
  replace hi : i + 1 ≤ w := hi
  have hll := linesK_len sq i
  conv => whnf
  refine Br.mk (fun hb => ?_) (fun hb => ?_) <;> conv => whnf
  · have hlt : i + 1 < w := by simp at hb; omega
    have hx1 : IntKind.i64.wrap (((i + 1 : Nat) : Int) + 1) = ((i + 1 + 1 : Nat) : Int) := by rw [wrap_i64 _ (by omega) (by omega)]; omega
    refine .inl ⟨Nat, fun k => sq.length - k, fun k => k ≤ sq.length, fun k => ⟨[(1, .one (.c (vB true))), (2, .one (.c (.ptr 0 0 0))), (5, .one (.c (.sl 1 0 1 0 (linesK sq i).length none))), (6, .one (.c (vI w))), (7, .one (.c (vI ((i + 1 : Nat) : Int)))),
        (8, .one (.c (vB (freeB (sq.take k) ((i + 1 : Nat) : Int))))), (23, .one (.c (.d (.list 3 (sq.map r3))))), (24, .one (.c (vI sq.length))), (25, .one (.c (vI k)))],
      [(0, .box [.d (dI w), .d (dI h), .d (.list 3 (sq.map r3))]), (0, .arr 1 ((linesK sq i).map r1))], _⟩, 0, Nat.zero_le _, weak_of rfl ?_ rfl (Nat.zero_le _), fun k hk => ?_⟩
    · rw [List.length_map]
      (repeat' first | exact rfl | exact trivial | apply And.intro | (simp [getE]; done))
    replace hk : k ≤ sq.length := hk
    conv => whnf
    refine Br.mk (fun hb1 => ?_) (fun hb1 => ?_) <;> conv => whnf
    · have hkl : k < sq.length := by simp at hb1; omega
      obtain ⟨x, y, s, hks⟩ : ∃ x y s, sq[k]? = some (x, y, s) := ⟨_, _, _, List.getElem?_eq_getElem hkl⟩
      have hs := hsm _ (List.mem_of_getElem? hks)
      simp only [smallSq] at hs
      have hel : (sq.map r3)[((k : Int)).toNat]? = some [dI x, dI y, dI s] := by rw [Int.toNat_natCast, List.getElem?_map, hks]; rfl
      have hk1 : IntKind.i64.wrap ((k : Int) + 1) = ((k + 1 : Nat) : Int) := by rw [wrap_i64 _ (by omega) (by omega)]; omega
      have hxs : IntKind.i64.wrap (x + s) = x + s := wrap_i64 _ (by omega) (by omega)
      have hfr : freeB (sq.take (k + 1)) ((i + 1 : Nat) : Int) = (freeB (sq.take k) ((i + 1 : Nat) : Int) && !(decide (x < ((i + 1 : Nat) : Int)) && decide (((i + 1 : Nat) : Int) < x + s))) := by
        unfold freeB
        rw [List.take_add_one, hks, List.all_append]
        simp
      repeat' first
        | (refine draw_mk (by kernel_rfl) ?_; conv => whnf)
        | (refine El.get hel ?_; conv => whnf)
        | (refine And.intro ?_ ?_; (focus (simp; try omega)); conv => whnf)
        | (refine Br.mk (fun hb2 => ?_) (fun hb2 => ?_) <;> conv => whnf)
      all_goals refine ⟨k + 1, hkl, (by omega : sq.length - (k + 1) < sq.length - k), weak_of rfl ?_ rfl (Nat.zero_le _)⟩
      all_goals rw [hfr, hk1]
      all_goals generalize freeB (sq.take k) ((i + 1 : Nat) : Int) = F at *
      all_goals simp only [hxs, Bool.not_eq_true', Bool.not_eq_false', decide_eq_true_eq, decide_eq_false_iff_not] at *
      all_goals first
        | (simp [envOK, getE, putE, *]; done)
        | (simp [envOK, getE, putE, *]; omega)
        | (simp_all [envOK, getE, putE]; omega)
        | (cases F <;> simp_all [envOK, getE, putE] <;> omega)
        | (simp [envOK, getE, putE]; rw [Bool.eq_iff_iff]; simp [*]; omega)
    · have hke : k = sq.length := by simp at hb1; omega
      subst hke
      rw [List.take_length]
      have hsu := linesK_succ sq i
      refine Br.mk (fun hb2 => ?_) (fun hb2 => ?_) <;> conv => whnf
      · rw [if_pos hb2] at hsu
        repeat' first
          | (refine draw_mk (by kernel_rfl) ?_; conv => whnf)
          | (refine Br.mk (fun hb => ?_) (fun hb => ?_) <;> conv => whnf)
          | (refine And.intro ?_ ?_; (focus (first | decide | omega | (simp [contentOK, objRd, objAt, peel, List.length_map]; done) | (simp [contentOK, objRd, objAt, peel, List.length_map]; omega) | (simp [contentOK, objRd, objAt, peel, List.length_map] at *; omega))); conv => whnf)
        rw [app1' rfl, hx1, ← hsu]
        refine ⟨i + 1, (by omega : i + 1 + 1 ≤ w), (by omega : w - (i + 1) < w - i), weak_verof 1 1 0 rfl ?_ rfl rfl (Nat.zero_le _) (Nat.zero_le _)⟩
        have hl : (linesK sq (i + 1)).length = (linesK sq i).length + 1 := by rw [hsu]; simp
        rw [hl]
        (repeat' first | exact rfl | exact trivial | apply And.intro | (simp [getE]; done))
      · rw [if_neg (by rw [hb2]; exact Bool.false_ne_true)] at hsu
        refine ⟨i + 1, (by omega : i + 1 + 1 ≤ w), (by omega : w - (i + 1) < w - i), weak_of (by rw [hsu]; rfl) ?_ rfl (Nat.zero_le _)⟩
        rw [hx1, hsu]
        (repeat' first | exact rfl | exact trivial | apply And.intro | (simp [getE]; done))
  · have hie : i + 1 = w := by simp at hb; omega
    subst hie
    simp only [Nat.add_sub_cancel]
    refine ⟨⟨?_, trivial⟩, by simp [refVs, refCV]⟩
    exact res_cell (by simp [objAt]) (by simp) r1_flat

theorem linesDown_ok (w : Nat) (h : Int) (sq : List (Int × Int × Int)) (hn : sq.length ≤ 30) (hw : 1 ≤ w ∧ w ≤ 500) (hsm : ∀ q ∈ sq, smallSq q) : Fn G.P 57 [.agg (dCut w h sq)] (.one (.c (.list 1 ((linesK sq (w - 1)).map r1)))) := by
  refine fn_of_body (G := G) Try.func57 rfl (by decide) (Nat.le_of_ble_eq_true rfl) ?_
  conv => whnf
  repeat' first
    | (refine draw_mk (by kernel_rfl) ?_; conv => whnf)
    | (refine Br.mk (fun hb => ?_) (fun hb => ?_) <;> conv => whnf)
    | (refine And.intro ?_ ?_; (focus (first | decide | omega | (simp at *; omega) | (simp_all; done))); conv => whnf)
  refine .inl ⟨Nat, fun i => w - i, fun i => i + 1 ≤ w, fun i => ⟨[(1, .one (.c (.ptr 0 0 0))), (3, .one (.c (.sl 1 0 1 0 (linesK sq i).length (if (linesK sq i).isEmpty then some 0 else none)))), (4, .one (.c (.ptr 2 0 0)))],
    [(0, .box [.d (dI w), .d (dI h), .d (.list 3 (sq.map r3))]), (0, .arr 1 ((linesK sq i).map r1)), (0, .box [.d (dI ((i + 1 : Nat) : Int))])], _⟩, 0, hw.1, weak_of rfl ?_ rfl (Nat.zero_le _), fun i hi => ?_⟩
  · (repeat' first | exact rfl | exact trivial | apply And.intro | (simp [getE]; done))
  replace hi : i + 1 ≤ w := hi
  have hll := linesK_len sq i
  conv => whnf
  refine Br.mk (fun hb => ?_) (fun hb => ?_) <;> conv => whnf
  · have hlt : i + 1 < w := by simp at hb; omega
    repeat' first
      | (refine draw_mk (by kernel_rfl) ?_; conv => whnf)
      | (refine Br.mk (fun hb => ?_) (fun hb => ?_) <;> conv => whnf)
      | (refine call_body (G := G) Try.func86 rfl (by decide) (Nat.le_of_ble_eq_true rfl) ?_; conv => whnf)
      | (refine call_body (G := G) Try.func105 rfl (by decide) (Nat.le_of_ble_eq_true rfl) ?_; conv => whnf)
      | (refine And.intro ?_ ?_; (focus (first | decide | omega | (simp at *; omega) | (simp_all; done))); conv => whnf)
    have hx1 : IntKind.i64.wrap (((i + 1 : Nat) : Int) + 1) = ((i + 1 + 1 : Nat) : Int) := by rw [wrap_i64 _ (by omega) (by omega)]; omega
    have hsu := linesK_succ sq i
    refine .inl ⟨Nat, fun k => sq.length - k, fun k => k ≤ sq.length ∧ freeB (sq.take k) ((i + 1 : Nat) : Int) = true, fun k => ⟨[(0, .one (.c (.d (.list 3 (sq.map r3))))), (1, .one (.c (.fn 87 [(2, 0, 0)]))), (6, .one (.c (.d (.list 3 (sq.map r3))))), (7, .one (.c (vI sq.length))), (8, .one (.c (vI k)))],
      [(0, .box [.d (dI w), .d (dI h), .d (.list 3 (sq.map r3))]), (0, .arr 1 ((linesK sq i).map r1)), (0, .box [.d (dI ((i + 1 : Nat) : Int))])], _⟩, 0, ⟨Nat.zero_le _, rfl⟩, weak_of rfl ?_ rfl (Nat.le_of_ble_eq_true rfl), ?_⟩
    · rw [List.length_map]
      (repeat' first | exact rfl | exact trivial | apply And.intro | (simp [getE]; done))
    rintro k ⟨hk, hfk⟩
    conv => whnf
    refine Br.mk (fun hb1 => ?_) (fun hb1 => ?_) <;> conv => whnf
    · have hkl : k < sq.length := by simp at hb1; omega
      obtain ⟨x, y, s, hks⟩ : ∃ x y s, sq[k]? = some (x, y, s) := ⟨_, _, _, List.getElem?_eq_getElem hkl⟩
      have hs := hsm _ (List.mem_of_getElem? hks)
      simp only [smallSq] at hs
      have hel : (sq.map r3)[((k : Int)).toNat]? = some [dI x, dI y, dI s] := by rw [Int.toNat_natCast, List.getElem?_map, hks]; rfl
      have hk1 : IntKind.i64.wrap ((k : Int) + 1) = ((k + 1 : Nat) : Int) := by rw [wrap_i64 _ (by omega) (by omega)]; omega
      have hxs : IntKind.i64.wrap (x + s) = x + s := wrap_i64 _ (by omega) (by omega)
      have hfr : freeB (sq.take (k + 1)) ((i + 1 : Nat) : Int) = (freeB (sq.take k) ((i + 1 : Nat) : Int) && !(decide (x < ((i + 1 : Nat) : Int)) && decide (((i + 1 : Nat) : Int) < x + s))) := by
        unfold freeB
        rw [List.take_add_one, hks, List.all_append]
        simp
      repeat' first
        | (refine draw_mk (by kernel_rfl) ?_; conv => whnf)
        | (refine El.get hel ?_; conv => whnf)
        | (refine call_body (G := G) Try.func87 rfl (by decide) (Nat.le_of_ble_eq_true rfl) ?_; conv => whnf)
        | (refine And.intro ?_ ?_; (focus (simp; try omega)); conv => whnf)
        | (refine Br.mk (fun hb2 => ?_) (fun hb2 => ?_) <;> conv => whnf)
      · -- a square goes through
        have hf : freeB sq ((i + 1 : Nat) : Int) = false := by
          simp only [Bool.and_eq_true, decide_eq_true_eq, hxs] at *
          unfold freeB
          rw [List.all_eq_false]
          refine ⟨_, List.mem_of_getElem? hks, ?_⟩
          simp; omega
        rw [if_neg (by rw [hf]; exact Bool.false_ne_true)] at hsu
        refine ⟨i + 1, (by omega : i + 1 + 1 ≤ w), (by omega : w - (i + 1) < w - i), weak_pick [0, 1, 4] ⟨rfl, by rw [hsu]; rfl, by rw [hx1]; rfl, rfl⟩ ?_ rfl (by decide) rfl⟩
        rw [hsu]
        (repeat' first | exact rfl | exact trivial | apply And.intro | (simp [getE]; done))
      all_goals
        refine ⟨k + 1, ⟨hkl, ?_⟩, (by omega : sq.length - (k + 1) < sq.length - k), weak_of rfl ?_ rfl (Nat.le_of_ble_eq_true rfl)⟩
        · rw [hfr, hfk, Bool.true_and]
          simp only [decide_eq_true_eq, decide_eq_false_iff_not, hxs] at *
          simp; omega
        · rw [hk1]
          (repeat' first | exact rfl | exact trivial | apply And.intro | (simp [getE]; done))
    · have hke : k = sq.length := by simp at hb1; omega
      subst hke
      rw [List.take_length] at hfk
      repeat' first
        | (refine draw_mk (by kernel_rfl) ?_; conv => whnf)
        | (refine Br.mk (fun hb => ?_) (fun hb => ?_) <;> conv => whnf)
        | (refine And.intro ?_ ?_; (focus (first | decide | omega | (simp [contentOK, objRd, objAt, peel, List.length_map]; done) | (simp [contentOK, objRd, objAt, peel, List.length_map]; omega) | (simp [contentOK, objRd, objAt, peel, List.length_map] at *; omega))); conv => whnf)
      rw [if_pos hfk] at hsu
      rw [app1' rfl, hx1, ← hsu]
      have hl : (linesK sq (i + 1)).length = (linesK sq i).length + 1 := by rw [hsu]; simp
      have he : (linesK sq (i + 1)).isEmpty = false := by rw [hsu]; simp
      refine ⟨i + 1, (by omega : i + 1 + 1 ≤ w), (by omega : w - (i + 1) < w - i), weak_pickver [0, 1, 4] 1 1 0 ⟨rfl, rfl, rfl, rfl⟩ ?_ rfl (by decide) rfl rfl (Nat.zero_le _)⟩
      rw [hl, he]
      (repeat' first | exact rfl | exact trivial | apply And.intro | (simp [getE]; done))
  · have hie : i + 1 = w := by simp at hb; omega
    subst hie
    simp only [Nat.add_sub_cancel]
    refine ⟨⟨?_, trivial⟩, by simp [refVs, refCV]⟩
    exact res_cell (by simp [objAt]) (by simp) r1_flat

end Go.Proofs.Ytbmaofepmheeeaa

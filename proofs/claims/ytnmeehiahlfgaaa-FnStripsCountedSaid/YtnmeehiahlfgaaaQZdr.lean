/- The law on all counts of strips, drawn. -/
import Derived.Test.YtnmeehiahlfgaaaQZae
import Derived.Test.YtnmeehiahlfgaaaQCur
import Derived.Test.YtnmeehiahlfgaaaQZd
namespace Go.Proofs.Ytnmeehiahlfgaaa
open Go Go.RowKit
set_option maxRecDepth 10000
set_option maxHeartbeats 8000000
set_option linter.unusedSimpArgs false

theorem through_or (a b t : Int) : (throughR a b t).2 = false ∨ ((throughR a b t).2 = true ∧ throughR a b (IntKind.i64.wrap (b - t)) = throughR a b t ∧ (countR a b).2 = true ∧ 1 ≤ (throughR a b t).1 ∧ (throughR a b t).1 ≤ (countR a b).1) := by
  rcases through_facts a b t with g | ⟨x, y, z, rfl, rfl, rfl, _, _, _, e1, e2, e3, e4, e5⟩
  · exact .inl g
  · right
    rw [e1, e2, e3]
    refine ⟨rfl, rfl, rfl, ?_, ?_⟩ <;> dsimp only <;> omega

theorem bytes_of {x : DC} (h : DCok (.slice [.int .u8]) x) : ∃ B : List Nat, x = .list 1 (B.map rb) ∧ B.length ≤ maxLen ∧ ∀ s ∈ B, s ≤ 255 := by
  cases h with | slice _ xs hl hx hh =>
  suffices hs : ∃ B : List Nat, xs = B.map rb ∧ ∀ s ∈ B, s ≤ 255 by
    obtain ⟨B, rfl, g⟩ := hs
    exact ⟨B, rfl, by simpa using hl, g⟩
  clear hl
  induction xs with
  | nil => exact ⟨[], rfl, fun s hs => by cases hs⟩
  | cons y ys ih =>
    obtain ⟨B, rfl, g⟩ := ih (fun x hx' => hx x (List.mem_cons_of_mem _ hx')) (fun x j d s hx' => hh x j d s (List.mem_cons_of_mem _ hx'))
    have hy := hx y (by simp)
    match y, hy with
    | [d], _ =>
      have hd := hh [d] 0 d (.int .u8) (by simp) rfl rfl
      cases hd with | int _ n hw =>
      have hn : 0 ≤ n ∧ n ≤ 255 := by
        simp [Lit.wf, IntKind.min, IntKind.max, IntKind.bits, IntKind.signed] at hw
        omega
      refine ⟨n.toNat :: B, ?_, fun s hs => ?_⟩
      · rw [List.map_cons]
        show _ = [DC.v (.int .u8 ((n.toNat : Nat) : Int))] :: _
        rw [Int.toNat_of_nonneg hn.1]
      · rcases List.mem_cons.1 hs with rfl | hs
        · omega
        · exact g s hs

theorem drawn_ok (D E : List Nat) (hD : D.length ≤ 2 ^ 30) (hDb : ∀ s ∈ D, s ≤ 255) (hE : E.length ≤ 2 ^ 30) (hEb : ∀ s ∈ E, s ≤ 255) (hbig : (D.length : Int) ≤ 1048576 ∧ (E.length : Int) ≤ 1048576 - (D.length : Int)) :
    Fn G.P 3 [.c (.list 1 (D.map rb)), .c (.list 1 (E.map rb))] (.one (aB true)) := by
  refine fn_of_body (G := G) Try.func3 rfl (by decide) (Nat.le_of_ble_eq_true rfl) ?_
  conv => whnf
  have hw : IntKind.i64.wrap (1048576 - (D.length : Int)) = 1048576 - (D.length : Int) := wrap_i64 _ (by omega) (by omega)
  repeat' first
    | exact True.intro
    | (refine draw_mkF ?_ ?_ ?_; (focus (decide +kernel)); (focus (kernel_rfl)); conv => whnf)
    | (refine Both.mk ?_ ?_ <;> conv => whnf)
    | (refine NilQ.mk (fun hnil => ?_) ?_ <;> conv => whnf)
    | (refine draw_mk (by kernel_rfl) ?_; conv => whnf)
    | (refine Br.mk (fun hb => (by exfalso; first | (simp [List.length_map, hw, Int.not_lt.2, hbig.1, hbig.2] at hb; done) | (simp [List.length_map, hw, Int.not_lt.2, hbig.1, hbig.2] at hb; omega))) (fun hb => ?_); clear hb; conv => whnf)
    | (refine Br.mk (fun hb => ?_) (fun hb => (by exfalso; first | (simp [List.length_map, hw, Int.not_lt.2, hbig.1, hbig.2] at hb; done) | (simp [List.length_map, hw, Int.not_lt.2, hbig.1, hbig.2] at hb; omega))); clear hb; conv => whnf)
    | (refine Br.mk (fun hb => ?_) (fun hb => ?_) <;> conv => whnf)
    | (refine call_body (G := G) Try.func4 rfl (by decide) (Nat.le_of_ble_eq_true rfl) ?_; conv => whnf)
    | (refine callP_text (call_body (G := G) Try.func4 rfl (by decide) (Nat.le_of_ble_eq_true rfl) ?_); conv => whnf)
    | (refine And.intro ?_ ?_; (focus (first | decide | omega | (simp [contentOK, objRd, objAt, peel, List.length_map]; done) | (simp [contentOK, objRd, objAt, peel, List.length_map]; omega) | (simp [contentOK, objRd, objAt, peel, List.length_map] at *; omega))); conv => whnf)
  refine frameN [] (drawBy_c D hD hDb) rfl (by decide) rfl rfl ?_
  rintro _ gs ⟨h, l, rfl⟩
  refine ⟨[], gs, rfl, Nat.le_refl _, rfl, ?_⟩
  conv => whnf
  have j1 := implSq h l
  have j2 := specSq h l
  have j3 := implCount h l
  have j4 := specCount h l
  have j5 := implMean h l
  have j6 := specMean h l
  have j7 := implFew h l
  have j8 := specFew h l
  have j9 := implWhole h l
  have j10 := specWhole h l
  by_cases hb0 : stripB h l = true
  · as_aux_lemma =>
        obtain ⟨H, L, c, q, g, k, B, rfl, rfl, A⟩ := all_of hb0
        have j7 : Fn G.P 12 [aI H, aI L] (.tup [aI (fewR H L).1, aB (fewR H L).2]) := j7
        have hil : (ints B).length = H * L + 1 := by unfold ints; rw [List.length_map, A.len]
        have har := A.area
        have hz := zSame_ok (ints B) (by omega)
        have hzs := zSum_ok (ints B) (by omega)
        have hcb := A.cb
        rw [sumK_ints B (by rw [A.sum]; omega), A.sum] at hzs
        rw [A.sq] at j1 j2
        rw [A.count] at j3 j4
        rw [A.mean] at j5 j6
        rw [A.few] at j7 j8
        rw [A.whole] at j9 j10
        dsimp only at j1 j2 j3 j4 j5 j6 j7 j8 j9 j10
        clear hb0
        repeat' first
          | exact True.intro
          | (refine Both.mk ?_ ?_ <;> conv => whnf)
          | (refine NilQ.mk (fun hnil => ?_) ?_ <;> conv => whnf)
          | (refine Br.mk (fun hb => (by exfalso; first | (simp [not_true_eq_false] at hb; done) | (simp [not_true_eq_false] at hb; omega))) (fun hb => ?_); clear hb; conv => whnf)
          | (refine Br.mk (fun hb => ?_) (fun hb => (by exfalso; first | (simp [not_true_eq_false] at hb; done) | (simp [not_true_eq_false] at hb; omega))); clear hb; conv => whnf)
          | (refine Br.mk (fun hb => ?_) (fun hb => ?_) <;> conv => whnf)
          | (refine call_sn ?_ (j1) ?_; (focus ((repeat' first | exact snapRow | exact snap_row (by simp; done) | exact rfl | exact trivial | apply And.intro | omega | (simp; done)); done)); conv => whnf)
          | (refine callP_sn ?_ (j1) ?_; (focus ((repeat' first | exact snapRow | exact snap_row (by simp; done) | exact rfl | exact trivial | apply And.intro | omega | (simp; done)); done)); conv => whnf)
          | (refine call_sn ?_ (j2) ?_; (focus ((repeat' first | exact snapRow | exact snap_row (by simp; done) | exact rfl | exact trivial | apply And.intro | omega | (simp; done)); done)); conv => whnf)
          | (refine callP_sn ?_ (j2) ?_; (focus ((repeat' first | exact snapRow | exact snap_row (by simp; done) | exact rfl | exact trivial | apply And.intro | omega | (simp; done)); done)); conv => whnf)
          | (refine call_sn ?_ (j3) ?_; (focus ((repeat' first | exact snapRow | exact snap_row (by simp; done) | exact rfl | exact trivial | apply And.intro | omega | (simp; done)); done)); conv => whnf)
          | (refine callP_sn ?_ (j3) ?_; (focus ((repeat' first | exact snapRow | exact snap_row (by simp; done) | exact rfl | exact trivial | apply And.intro | omega | (simp; done)); done)); conv => whnf)
          | (refine call_sn ?_ (j4) ?_; (focus ((repeat' first | exact snapRow | exact snap_row (by simp; done) | exact rfl | exact trivial | apply And.intro | omega | (simp; done)); done)); conv => whnf)
          | (refine callP_sn ?_ (j4) ?_; (focus ((repeat' first | exact snapRow | exact snap_row (by simp; done) | exact rfl | exact trivial | apply And.intro | omega | (simp; done)); done)); conv => whnf)
          | (refine call_sn ?_ (j5) ?_; (focus ((repeat' first | exact snapRow | exact snap_row (by simp; done) | exact rfl | exact trivial | apply And.intro | omega | (simp; done)); done)); conv => whnf)
          | (refine callP_sn ?_ (j5) ?_; (focus ((repeat' first | exact snapRow | exact snap_row (by simp; done) | exact rfl | exact trivial | apply And.intro | omega | (simp; done)); done)); conv => whnf)
          | (refine call_sn ?_ (j6) ?_; (focus ((repeat' first | exact snapRow | exact snap_row (by simp; done) | exact rfl | exact trivial | apply And.intro | omega | (simp; done)); done)); conv => whnf)
          | (refine callP_sn ?_ (j6) ?_; (focus ((repeat' first | exact snapRow | exact snap_row (by simp; done) | exact rfl | exact trivial | apply And.intro | omega | (simp; done)); done)); conv => whnf)
          | (refine call_sn ?_ (j7) ?_; (focus ((repeat' first | exact snapRow | exact snap_row (by simp; done) | exact rfl | exact trivial | apply And.intro | omega | (simp; done)); done)); conv => whnf)
          | (refine callP_sn ?_ (j7) ?_; (focus ((repeat' first | exact snapRow | exact snap_row (by simp; done) | exact rfl | exact trivial | apply And.intro | omega | (simp; done)); done)); conv => whnf)
          | (refine call_sn ?_ (j8) ?_; (focus ((repeat' first | exact snapRow | exact snap_row (by simp; done) | exact rfl | exact trivial | apply And.intro | omega | (simp; done)); done)); conv => whnf)
          | (refine callP_sn ?_ (j8) ?_; (focus ((repeat' first | exact snapRow | exact snap_row (by simp; done) | exact rfl | exact trivial | apply And.intro | omega | (simp; done)); done)); conv => whnf)
          | (refine call_sn ?_ (j9) ?_; (focus ((repeat' first | exact snapRow | exact snap_row (by simp; done) | exact rfl | exact trivial | apply And.intro | omega | (simp; done)); done)); conv => whnf)
          | (refine callP_sn ?_ (j9) ?_; (focus ((repeat' first | exact snapRow | exact snap_row (by simp; done) | exact rfl | exact trivial | apply And.intro | omega | (simp; done)); done)); conv => whnf)
          | (refine call_sn ?_ (j10) ?_; (focus ((repeat' first | exact snapRow | exact snap_row (by simp; done) | exact rfl | exact trivial | apply And.intro | omega | (simp; done)); done)); conv => whnf)
          | (refine callP_sn ?_ (j10) ?_; (focus ((repeat' first | exact snapRow | exact snap_row (by simp; done) | exact rfl | exact trivial | apply And.intro | omega | (simp; done)); done)); conv => whnf)
          | (refine call_sn ?_ (hz) ?_; (focus ((repeat' first | exact snapRow | exact snap_row (by simp; done) | exact rfl | exact trivial | apply And.intro | omega | (simp; done)); done)); conv => whnf)
          | (refine callP_sn ?_ (hz) ?_; (focus ((repeat' first | exact snapRow | exact snap_row (by simp; done) | exact rfl | exact trivial | apply And.intro | omega | (simp; done)); done)); conv => whnf)
          | (refine And.intro ?_ ?_; (focus (first | decide | omega | (simp [contentOK, objRd, objAt, peel, List.length_map, hil]; done) | (simp [contentOK, objRd, objAt, peel, List.length_map, hil]; omega) | (simp [contentOK, objRd, objAt, peel, List.length_map, hil] at *; omega))); conv => whnf)
        have hFle : Fw H L ≤ c := by rw [A.cdef]; exact Fw_le A.hh A.hl
        have hqb := A.qb
        have hmul : (q : Int) * ((c / g : Nat) : Int) = ((q / g : Nat) : Int) * (c : Int) := by
          have d1 : g ∣ c := by rw [A.gdef]; exact Nat.gcd_dvd_left _ _
          have d2 : g ∣ q := by rw [A.gdef]; exact Nat.gcd_dvd_right _ _
          rw [← Int.natCast_mul, ← Int.natCast_mul, ← Nat.mul_div_assoc _ d1, ← Nat.mul_div_right_comm d2]
        have hHL : H * L = H * L := rfl
        have hHc : (H : Int) * (L : Int) = ((H * L : Nat) : Int) := (Int.natCast_mul _ _).symm
        have hwm : IntKind.i64.wrap ((H : Int) * (L : Int)) = ((H * L : Nat) : Int) := by rw [hHc, wrap_i64 _ (by omega) (by omega)]
        have hwl : IntKind.i64.wrap (((H * L : Nat) : Int) + 1) = ((H * L + 1 : Nat) : Int) := by rw [wrap_i64 _ (by omega) (by omega)]; omega
        have hHb := A.hh
        have hLb := A.hl
        have hgetI : ∀ i, i < H * L + 1 → ((ints B).map r1)[i]? = some [dI (B.getD i 0 : Nat)] := fun i hi => by
          have hlB : i < B.length := by rw [A.len]; exact hi
          rw [List.getElem?_map]
          unfold ints
          rw [List.getElem?_map, List.getElem?_eq_getElem hlB]
          simp [List.getD, List.getElem?_eq_getElem hlB, r1]
        refine .inl ⟨Nat, fun i => (H * L + 1) - i, fun i => i ≤ H * L + 1, fun i => ⟨[(0, .one (.c (.d (.list 1 (D.map rb))))), (1, .one (.c (.d (.list 1 (E.map rb))))), (4, .one (.c (.d (.v (.bool false))))), (5, .one (.c (vI H))), (6, .one (.c (vI L))), (7, .one (.c (.sl 0 0 1 0 ((ints B).map r1).length none))), (8, .one (.c (.d (.v (.bool true))))), (11, .one (.c (vI c))), (15, .one (.c (vI (q / g : Nat)))), (16, .one (.c (vI (c / g : Nat)))), (21, .one (.c (vI k))), (25, .one (.c (vI (Fw H L : Nat)))), (29, .one (.c (vI (wk B i : Nat)))), (212, .one (.c (.sl 0 0 1 0 ((ints B).map r1).length none))), (213, .one (.c (vI (((ints B).map r1).length : Nat)))), (214, .one (.c (vI i)))],
          [(0, .arr 1 ((ints B).map r1))], _⟩, 0, Nat.zero_le _, weak_of rfl ?_ rfl (Nat.zero_le _), fun i hi => ?_⟩
        · (repeat' first | exact rfl | exact trivial | apply And.intro | (simp [getE]; done))
        have hil2 : ((ints B).map r1).length = H * L + 1 := by rw [List.length_map, hil]
        replace hi : i ≤ H * L + 1 := hi
        conv => whnf
        refine Br.mk (fun hb => ?_) (fun hb => ?_) <;> conv => whnf
        · have hlt : i < H * L + 1 := by simp [hil] at hb; omega
          have hel : ((ints B).map r1)[0 + ((i : Int)).toNat]? = some [dI (B.getD i 0 : Nat)] := by rw [Nat.zero_add, Int.toNat_natCast]; exact hgetI i hlt
          have hws := wk_succ B i
          have hwle : wk B (i + 1) ≤ q := by rw [← A.wsum]; exact wk_le B (by omega)
          have hmin := A.kmin i
          generalize hv : B.getD i 0 = v at *
          have hw1 : IntKind.i64.wrap ((i : Int) * (v : Int)) = ((i * v : Nat) : Int) := by rw [← Int.natCast_mul, wrap_i64 _ (by omega) (by omega)]
          have hw2 : IntKind.i64.wrap (((wk B i : Nat) : Int) + ((i * v : Nat) : Int)) = ((wk B (i + 1) : Nat) : Int) := by rw [wrap_i64 _ (by omega) (by omega)]; omega
          have hwi : IntKind.i64.wrap ((i : Int) + 1) = ((i + 1 : Nat) : Int) := by rw [wrap_i64 _ (by omega) (by omega)]; omega
          clear hb
          rcases Nat.lt_or_ge i k with hik | hik
          · obtain rfl : v = 0 := hmin hik
            repeat' first
              | (refine El.get hel ?_; conv => whnf)
              | exact True.intro
              | (refine Both.mk ?_ ?_ <;> conv => whnf)
              | (refine NilQ.mk (fun hnil => ?_) ?_ <;> conv => whnf)
              | (refine Br.mk (fun hb => (by exfalso; first | (simp [Int.lt_irrefl] at hb; done) | (simp [Int.lt_irrefl] at hb; omega))) (fun hb => ?_); clear hb; conv => whnf)
              | (refine Br.mk (fun hb => ?_) (fun hb => (by exfalso; first | (simp [Int.lt_irrefl] at hb; done) | (simp [Int.lt_irrefl] at hb; omega))); clear hb; conv => whnf)
              | (refine Br.mk (fun hb => ?_) (fun hb => ?_) <;> conv => whnf)
              | (refine And.intro ?_ ?_; (focus (first | decide | omega | (simp [contentOK, objRd, objAt, peel, List.length_map, hil]; done) | (simp [contentOK, objRd, objAt, peel, List.length_map, hil]; omega) | (simp [contentOK, objRd, objAt, peel, List.length_map, hil] at *; omega))); conv => whnf)
            refine ⟨i + 1, (by omega : i + 1 ≤ H * L + 1), (by omega : H * L + 1 - (i + 1) < H * L + 1 - i), weak_of rfl ?_ rfl (Nat.zero_le _)⟩
            rw [hw1, hw2, hwi]
            (repeat' first | exact rfl | exact trivial | apply And.intro | (simp [getE]; done))
          · have hik' : ¬ i < k := by omega
            repeat' first
              | (refine El.get hel ?_; conv => whnf)
              | exact True.intro
              | (refine Both.mk ?_ ?_ <;> conv => whnf)
              | (refine NilQ.mk (fun hnil => ?_) ?_ <;> conv => whnf)
              | (refine Br.mk (fun hb => (by exfalso; first | (simp [hik'] at hb; done) | (simp [hik'] at hb; omega))) (fun hb => ?_); clear hb; conv => whnf)
              | (refine Br.mk (fun hb => ?_) (fun hb => (by exfalso; first | (simp [hik'] at hb; done) | (simp [hik'] at hb; omega))); clear hb; conv => whnf)
              | (refine Br.mk (fun hb => ?_) (fun hb => ?_) <;> conv => whnf)
              | (refine And.intro ?_ ?_; (focus (first | decide | omega | (simp [contentOK, objRd, objAt, peel, List.length_map, hil]; done) | (simp [contentOK, objRd, objAt, peel, List.length_map, hil]; omega) | (simp [contentOK, objRd, objAt, peel, List.length_map, hil] at *; omega))); conv => whnf)
            all_goals
              refine ⟨i + 1, (by omega : i + 1 ≤ H * L + 1), (by omega : H * L + 1 - (i + 1) < H * L + 1 - i), weak_of rfl ?_ rfl (Nat.zero_le _)⟩
              rw [hw1, hw2, hwi]
              (repeat' first | exact rfl | exact trivial | apply And.intro | (simp [getE]; done))
        have hie : i = H * L + 1 := by simp [hil] at hb; omega
        subst hie
        rw [A.wsum]
        have hl1 := hgetI (H * L) (by omega)
        have hl2 := hgetI k A.klt
        rw [A.last] at hl1
        have hkp := A.kpos
        have hkl := A.klt
        generalize B.getD k 0 = v at hl2 hkp
        have hl1 : ((ints B).map r1)[0 + ((H * L : Nat) : Int).toNat]? = some [dI 1] := by rw [Nat.zero_add, Int.toNat_natCast]; exact hl1
        have hl2 : ((ints B).map r1)[0 + (k : Int).toNat]? = some [dI v] := by rw [Nat.zero_add, Int.toNat_natCast]; exact hl2
        clear hb
        generalize hP : H * L = P at *
        rw [hwm, hwl]
        repeat' first
          | (refine El.get hl2 ?_; conv => whnf)
          | (refine El.get hl1 ?_; conv => whnf)
          | exact True.intro
          | (refine Both.mk ?_ ?_ <;> conv => whnf)
          | (refine NilQ.mk (fun hnil => ?_) ?_ <;> conv => whnf)
          | (refine Br.mk (fun hb => (by exfalso; first | (simp [hil, hwm, hwl, hmul, Int.not_lt.2, hFle] at hb; done) | (simp [hil, hwm, hwl, hmul, Int.not_lt.2, hFle] at hb; omega))) (fun hb => ?_); clear hb; conv => whnf)
          | (refine Br.mk (fun hb => ?_) (fun hb => (by exfalso; first | (simp [hil, hwm, hwl, hmul, Int.not_lt.2, hFle] at hb; done) | (simp [hil, hwm, hwl, hmul, Int.not_lt.2, hFle] at hb; omega))); clear hb; conv => whnf)
          | (refine Br.mk (fun hb => ?_) (fun hb => ?_) <;> conv => whnf)
          | (rw [hwm]; conv => whnf)
          | (rw [hwl]; conv => whnf)
          | (refine call_sn ?_ (hzs) ?_; (focus ((repeat' first | exact snapRow | exact snap_row (by simp; done) | exact rfl | exact trivial | apply And.intro | omega | (simp; done)); done)); conv => whnf)
          | (refine callP_sn ?_ (hzs) ?_; (focus ((repeat' first | exact snapRow | exact snap_row (by simp; done) | exact rfl | exact trivial | apply And.intro | omega | (simp; done)); done)); conv => whnf)
          | (refine And.intro ?_ ?_; (focus (first | decide | omega | (simp [contentOK, objRd, objAt, peel, List.length_map, hil]; done) | (simp [contentOK, objRd, objAt, peel, List.length_map, hil]; omega) | (simp [contentOK, objRd, objAt, peel, List.length_map, hil] at *; omega))); conv => whnf)
        · exfalso
          rw [hmul] at hb
          simp at hb
        clear hl1 hl2 hkp hzs hz j1 j2 j5 j6 j7 j8 j10 hgetI
        have hq4 : sumS (S5 H L 0) 4 = q := by rw [A.qdef]; exact sumS_four A.hh
        have ha4 : areaS (S5 H L 0) 4 = c * P := by rw [A.cdef, ← hP]; exact areaS_four A.hh A.hl.2
        have hcP : c * P ≤ 205891132094649 * 120 := Nat.mul_le_mul hcb har
        refine .inl ⟨Nat, fun i => 4 - i, fun i => i ≤ 4 ∧ sumS (S5 H L 0) i ≤ q ∧ areaS (S5 H L 0) i ≤ c * P, fun i => ⟨[(0, .one (.c (.d (.list 1 (D.map rb))))), (1, .one (.c (.d (.list 1 (E.map rb))))), (4, .one (.c (.d (.v (.bool false))))), (5, .one (.c (vI H))), (6, .one (.c (vI L))), (11, .one (.c (vI c))), (25, .one (.c (vI (Fw H L : Nat)))), (29, .one (.c (vI q))), (32, .one (.c (vI (sumS (S5 H L 0) i : Nat)))), (33, .one (.c (vI (areaS (S5 H L 0) i : Nat)))), (34, .one (.c (vI (i + 1 : Nat))))],
          [], _⟩, 0, ⟨by omega, Nat.zero_le _, Nat.zero_le _⟩, weak_of rfl ?_ rfl (Nat.zero_le _), ?_⟩
        · (repeat' first | exact rfl | exact trivial | apply And.intro | (simp [getE]; done))
        rintro i ⟨hi, hi1, hi2⟩
        dsimp only at hi hi1 hi2 ⊢
        conv => whnf
        refine Br.mk (fun hb => ?_) (fun hb => ?_) <;> conv => whnf
        · have hlt : i < 4 := by simp at hb; omega
          have c1 := implSide H L (i + 1 : Nat)
          have c2 := implWithout H L (i + 1 : Nat)
          rw [sideN A.hh A.hl ⟨by omega, by omega⟩] at c1
          obtain ⟨w, ew, hw⟩ := withoutN A.hh A.hl (s := i + 1) ⟨by omega, by omega⟩
          rw [ew] at c2
          rw [← A.cdef] at hw
          dsimp only at c1 c2
          have hnone : H < i + 1 → of5 (S5 H L 0) (i + 1) = 0 := fun hg => side_none ⟨by omega, by omega⟩ hg
          have hs1 : sumS (S5 H L 0) (i + 1) = sumS (S5 H L 0) i + of5 (S5 H L 0) (i + 1) := rfl
          have hs2 : areaS (S5 H L 0) (i + 1) = areaS (S5 H L 0) i + of5 (S5 H L 0) (i + 1) * (i + 1) * (i + 1) := rfl
          have hm1 : sumS (S5 H L 0) (i + 1) ≤ sumS (S5 H L 0) 4 := by
            have : i = 0 ∨ i = 1 ∨ i = 2 ∨ i = 3 := by omega
            rcases this with rfl | rfl | rfl | rfl <;> simp only [sumS] <;> omega
          have hm2 : areaS (S5 H L 0) (i + 1) ≤ areaS (S5 H L 0) 4 := by
            have : i = 0 ∨ i = 1 ∨ i = 2 ∨ i = 3 := by omega
            rcases this with rfl | rfl | rfl | rfl <;> simp only [areaS] <;> omega
          rw [hq4] at hm1
          rw [ha4] at hm2
          generalize hx : of5 (S5 H L 0) (i + 1) = x at *
          have hx1 : x * (i + 1) ≤ x * (i + 1) * (i + 1) := Nat.le_mul_of_pos_right _ (by omega)
          have hw1 : IntKind.i64.wrap (((sumS (S5 H L 0) i : Nat) : Int) + (x : Int)) = ((sumS (S5 H L 0) (i + 1) : Nat) : Int) := by rw [wrap_i64 _ (by omega) (by omega)]; omega
          have hw2 : IntKind.i64.wrap ((x : Int) * ((i + 1 : Nat) : Int)) = ((x * (i + 1) : Nat) : Int) := by rw [← Int.natCast_mul, wrap_i64 _ (by omega) (by omega)]
          have hw3 : IntKind.i64.wrap (((x * (i + 1) : Nat) : Int) * ((i + 1 : Nat) : Int)) = ((x * (i + 1) * (i + 1) : Nat) : Int) := by rw [← Int.natCast_mul, wrap_i64 _ (by omega) (by omega)]
          have hw4 : IntKind.i64.wrap (((areaS (S5 H L 0) i : Nat) : Int) + ((x * (i + 1) * (i + 1) : Nat) : Int)) = ((areaS (S5 H L 0) (i + 1) : Nat) : Int) := by rw [wrap_i64 _ (by omega) (by omega)]; omega
          have hwi : IntKind.i64.wrap (((i + 1 : Nat) : Int) + 1) = ((i + 1 + 1 : Nat) : Int) := by rw [wrap_i64 _ (by omega) (by omega)]; omega
          clear hb
          rcases hw with ⟨hwx, hwc⟩ | ⟨hwx, hwc⟩
          · subst hwx hwc
            repeat' first
              | exact True.intro
              | (refine Both.mk ?_ ?_ <;> conv => whnf)
              | (refine NilQ.mk (fun hnil => ?_) ?_ <;> conv => whnf)
              | (refine Br.mk (fun hb => (by exfalso; first | (simp [not_true_eq_false] at hb; done) | (simp [not_true_eq_false] at hb; omega))) (fun hb => ?_); clear hb; conv => whnf)
              | (refine Br.mk (fun hb => ?_) (fun hb => (by exfalso; first | (simp [not_true_eq_false] at hb; done) | (simp [not_true_eq_false] at hb; omega))); clear hb; conv => whnf)
              | (refine Br.mk (fun hb => ?_) (fun hb => ?_) <;> conv => whnf)
              | (refine call_sn ?_ (c1) ?_; (focus ((repeat' first | exact snapRow | exact snap_row (by simp; done) | exact rfl | exact trivial | apply And.intro | omega | (simp; done)); done)); conv => whnf)
              | (refine callP_sn ?_ (c1) ?_; (focus ((repeat' first | exact snapRow | exact snap_row (by simp; done) | exact rfl | exact trivial | apply And.intro | omega | (simp; done)); done)); conv => whnf)
              | (refine call_sn ?_ (c2) ?_; (focus ((repeat' first | exact snapRow | exact snap_row (by simp; done) | exact rfl | exact trivial | apply And.intro | omega | (simp; done)); done)); conv => whnf)
              | (refine callP_sn ?_ (c2) ?_; (focus ((repeat' first | exact snapRow | exact snap_row (by simp; done) | exact rfl | exact trivial | apply And.intro | omega | (simp; done)); done)); conv => whnf)
              | (refine And.intro ?_ ?_; (focus (first | decide | omega | (simp at *; omega) | (simp_all; done))); conv => whnf)
            all_goals
              refine ⟨i + 1, ⟨by show i + 1 ≤ 4; omega, hm1, hm2⟩, (by omega : 4 - (i + 1) < 4 - i), weak_of rfl ?_ rfl (Nat.zero_le _)⟩
              rw [hw1, hw2, hw3, hw4, hwi]
              (repeat' first | exact rfl | exact trivial | apply And.intro | (simp [getE]; done))
          · have hx0 : ¬ x = 0 := by omega
            have hw0 : ¬ w = c := by omega
            have hHi : ¬ H < i + 1 := fun g => hx0 (hnone g)
            have hxb : ((x : Int) == 0) = false := by simp; omega
            have hwb : ((w : Int) == (c : Int)) = false := by simp; omega
            repeat' first
              | exact True.intro
              | (refine Both.mk ?_ ?_ <;> conv => whnf)
              | (refine NilQ.mk (fun hnil => ?_) ?_ <;> conv => whnf)
              | (refine Br.mk (fun hb => (by exfalso; first | (simp [hx0, hw0, hHi] at hb; done) | (simp [hx0, hw0, hHi] at hb; omega))) (fun hb => ?_); clear hb; conv => whnf)
              | (refine Br.mk (fun hb => ?_) (fun hb => (by exfalso; first | (simp [hx0, hw0, hHi] at hb; done) | (simp [hx0, hw0, hHi] at hb; omega))); clear hb; conv => whnf)
              | (refine Br.mk (fun hb => ?_) (fun hb => ?_) <;> conv => whnf)
              | (refine call_sn ?_ (c1) ?_; (focus ((repeat' first | exact snapRow | exact snap_row (by simp; done) | exact rfl | exact trivial | apply And.intro | omega | (simp; done)); done)); conv => whnf)
              | (refine callP_sn ?_ (c1) ?_; (focus ((repeat' first | exact snapRow | exact snap_row (by simp; done) | exact rfl | exact trivial | apply And.intro | omega | (simp; done)); done)); conv => whnf)
              | (refine call_sn ?_ (c2) ?_; (focus ((repeat' first | exact snapRow | exact snap_row (by simp; done) | exact rfl | exact trivial | apply And.intro | omega | (simp; done)); done)); conv => whnf)
              | (refine callP_sn ?_ (c2) ?_; (focus ((repeat' first | exact snapRow | exact snap_row (by simp; done) | exact rfl | exact trivial | apply And.intro | omega | (simp; done)); done)); conv => whnf)
              | (refine And.intro ?_ ?_; (focus (first | decide | omega | (simp at *; omega) | (simp_all; done))); conv => whnf)
            · exfalso
              rw [hxb, hwb] at hb
              simp at hb
            all_goals
              refine ⟨i + 1, ⟨by show i + 1 ≤ 4; omega, hm1, hm2⟩, (by omega : 4 - (i + 1) < 4 - i), weak_of rfl ?_ rfl (Nat.zero_le _)⟩
              rw [hw1, hw2, hw3, hw4, hwi]
              (repeat' first | exact rfl | exact trivial | apply And.intro | (simp [getE]; done))
        obtain rfl : i = 4 := by simp at hb; omega
        rw [hq4, ha4]
        have hcH : IntKind.i64.wrap ((c : Int) * (H : Int)) = (c : Int) * (H : Int) := by
          have : c * H ≤ 205891132094649 * 4 := Nat.mul_le_mul hcb (by omega)
          rw [← Int.natCast_mul, wrap_i64 _ (by omega) (by omega)]
        have hcHL : IntKind.i64.wrap ((c : Int) * (H : Int) * (L : Int)) = (c : Int) * (P : Int) := by
          rw [← Int.natCast_mul, ← Int.natCast_mul, Nat.mul_assoc, hP, wrap_i64 _ (by omega) (by omega), Int.natCast_mul]
        clear hb
        repeat' first
          | exact True.intro
          | (refine Both.mk ?_ ?_ <;> conv => whnf)
          | (refine NilQ.mk (fun hnil => ?_) ?_ <;> conv => whnf)
          | (refine Br.mk (fun hb => (by exfalso; first | (simp [hcH, hcHL] at hb; done) | (simp [hcH, hcHL] at hb; omega))) (fun hb => ?_); clear hb; conv => whnf)
          | (refine Br.mk (fun hb => ?_) (fun hb => (by exfalso; first | (simp [hcH, hcHL] at hb; done) | (simp [hcH, hcHL] at hb; omega))); clear hb; conv => whnf)
          | (refine Br.mk (fun hb => ?_) (fun hb => ?_) <;> conv => whnf)
          | (refine And.intro ?_ ?_; (focus (first | decide | omega | (simp at *; omega) | (simp_all; done))); conv => whnf)
        have hpe := partW_end A.hh A.hl
        rw [← A.cdef] at hpe
        refine .inl ⟨Nat, fun i => L - i, fun i => i + 1 ≤ L, fun i => ⟨[(0, .one (.c (.d (.list 1 (D.map rb))))), (1, .one (.c (.d (.list 1 (E.map rb))))), (4, .one (.c (.d (.v (.bool false))))), (5, .one (.c (vI H))), (6, .one (.c (vI L))), (11, .one (.c (vI c))), (39, .one (.c (vI (Fw H L + partW H L i : Nat)))), (40, .one (.c (vI (i + 1 : Nat))))],
          [], _⟩, 0, by omega, weak_of rfl ?_ rfl (Nat.zero_le _), fun i hi => ?_⟩
        · (repeat' first | exact rfl | exact trivial | apply And.intro | (simp [getE]; done))
        replace hi : i + 1 ≤ L := hi
        conv => whnf
        refine Br.mk (fun hb => ?_) (fun hb => ?_) <;> conv => whnf
        · have hlt : i + 1 < L := by simp at hb; omega
          have c1 := implWhole H (i + 1 : Nat)
          rw [wholeN A.hh ⟨by omega, by omega⟩] at c1
          have c2 := implCount H (L - (i + 1) : Nat)
          rw [countN A.hh ⟨by omega, by omega⟩] at c2
          dsimp only at c1 c2
          have hwL : IntKind.i64.wrap ((L : Int) - ((i + 1 : Nat) : Int)) = ((L - (i + 1) : Nat) : Int) := by rw [wrap_i64 _ (by omega) (by omega)]; omega
          have hle := partW_le (h := H) (l := L) (show i + 1 ≤ L - 1 by omega)
          have hs1 : partW H L (i + 1) = partW H L i + Fw H (i + 1) * Cn H (L - (i + 1)) 0 := rfl
          have hw1 : IntKind.i64.wrap (((Fw H (i + 1) : Nat) : Int) * ((Cn H (L - (i + 1)) 0 : Nat) : Int)) = ((Fw H (i + 1) * Cn H (L - (i + 1)) 0 : Nat) : Int) := by rw [← Int.natCast_mul, wrap_i64 _ (by omega) (by omega)]
          have hw2 : IntKind.i64.wrap (((Fw H L + partW H L i : Nat) : Int) + ((Fw H (i + 1) * Cn H (L - (i + 1)) 0 : Nat) : Int)) = ((Fw H L + partW H L (i + 1) : Nat) : Int) := by rw [wrap_i64 _ (by omega) (by omega)]; omega
          have hwi : IntKind.i64.wrap (((i + 1 : Nat) : Int) + 1) = ((i + 1 + 1 : Nat) : Int) := by rw [wrap_i64 _ (by omega) (by omega)]; omega
          clear hb
          repeat' first
            | exact True.intro
            | (refine Both.mk ?_ ?_ <;> conv => whnf)
            | (refine NilQ.mk (fun hnil => ?_) ?_ <;> conv => whnf)
            | (refine Br.mk (fun hb => (by exfalso; first | (simp [not_true_eq_false] at hb; done) | (simp [not_true_eq_false] at hb; omega))) (fun hb => ?_); clear hb; conv => whnf)
            | (refine Br.mk (fun hb => ?_) (fun hb => (by exfalso; first | (simp [not_true_eq_false] at hb; done) | (simp [not_true_eq_false] at hb; omega))); clear hb; conv => whnf)
            | (refine Br.mk (fun hb => ?_) (fun hb => ?_) <;> conv => whnf)
            | (refine call_sn ?_ (c1) ?_; (focus ((repeat' first | exact snapRow | exact snap_row (by simp; done) | exact rfl | exact trivial | apply And.intro | omega | (simp; done)); done)); conv => whnf)
            | (refine callP_sn ?_ (c1) ?_; (focus ((repeat' first | exact snapRow | exact snap_row (by simp; done) | exact rfl | exact trivial | apply And.intro | omega | (simp; done)); done)); conv => whnf)
            | (rw [hwL]; conv => whnf)
            | (refine call_sn ?_ (c2) ?_; (focus ((repeat' first | exact snapRow | exact snap_row (by simp; done) | exact rfl | exact trivial | apply And.intro | omega | (simp; done)); done)); conv => whnf)
            | (refine callP_sn ?_ (c2) ?_; (focus ((repeat' first | exact snapRow | exact snap_row (by simp; done) | exact rfl | exact trivial | apply And.intro | omega | (simp; done)); done)); conv => whnf)
            | (refine And.intro ?_ ?_; (focus (first | decide | omega | (simp at *; omega) | (simp_all; done))); conv => whnf)
          refine ⟨i + 1, (by omega : i + 1 + 1 ≤ L), (by omega : L - (i + 1) < L - i), weak_of rfl ?_ rfl (Nat.zero_le _)⟩
          rw [hw1, hw2, hwi]
          (repeat' first | exact rfl | exact trivial | apply And.intro | (simp [getE]; done))
        have hie : i = L - 1 := by simp at hb; omega
        subst hie
        rw [hpe]
        clear hb
        repeat' first
          | exact True.intro
          | (refine Both.mk ?_ ?_ <;> conv => whnf)
          | (refine NilQ.mk (fun hnil => ?_) ?_ <;> conv => whnf)
          | (refine Br.mk (fun hb => (by exfalso; first | (simp [not_true_eq_false] at hb; done) | (simp [not_true_eq_false] at hb; omega))) (fun hb => ?_); clear hb; conv => whnf)
          | (refine Br.mk (fun hb => ?_) (fun hb => (by exfalso; first | (simp [not_true_eq_false] at hb; done) | (simp [not_true_eq_false] at hb; omega))); clear hb; conv => whnf)
          | (refine Br.mk (fun hb => ?_) (fun hb => ?_) <;> conv => whnf)
          | (refine And.intro ?_ ?_; (focus (first | decide | omega | (simp at *; omega) | (simp_all; done))); conv => whnf)
        refine frameN [] (drawWithout_c E hE hEb) rfl (by decide) rfl rfl ?_
        rintro _ gs ⟨n, m, s, rfl⟩
        refine ⟨[], gs, rfl, Nat.le_refl _, rfl, ?_⟩
        conv => whnf
        have i1 := implWithout n m s
        have i2 := specWithout n m s
        have i3 := implSide n m s
        have i4 := specSide n m s
        have hso := same_ok n m s
        generalize withoutR n m s = W at i1 i2 hso
        generalize sideR n m s = S at i3 i4 hso
        obtain ⟨wn, wok⟩ := W
        obtain ⟨dn, dok⟩ := S
        dsimp only at i1 i2 i3 i4 hso
        subst hso
        repeat' first
          | exact True.intro
          | (refine Both.mk ?_ ?_ <;> conv => whnf)
          | (refine NilQ.mk (fun hnil => ?_) ?_ <;> conv => whnf)
          | (refine Br.mk (fun hb => (by exfalso; first | (simp [not_true_eq_false] at hb; done) | (simp [not_true_eq_false] at hb; omega))) (fun hb => ?_); clear hb; conv => whnf)
          | (refine Br.mk (fun hb => ?_) (fun hb => (by exfalso; first | (simp [not_true_eq_false] at hb; done) | (simp [not_true_eq_false] at hb; omega))); clear hb; conv => whnf)
          | (refine Br.mk (fun hb => ?_) (fun hb => ?_) <;> conv => whnf)
          | (refine call_sn ?_ (i1) ?_; (focus ((repeat' first | exact snapRow | exact snap_row (by simp; done) | exact rfl | exact trivial | apply And.intro | omega | (simp; done)); done)); conv => whnf)
          | (refine callP_sn ?_ (i1) ?_; (focus ((repeat' first | exact snapRow | exact snap_row (by simp; done) | exact rfl | exact trivial | apply And.intro | omega | (simp; done)); done)); conv => whnf)
          | (refine call_sn ?_ (i2) ?_; (focus ((repeat' first | exact snapRow | exact snap_row (by simp; done) | exact rfl | exact trivial | apply And.intro | omega | (simp; done)); done)); conv => whnf)
          | (refine callP_sn ?_ (i2) ?_; (focus ((repeat' first | exact snapRow | exact snap_row (by simp; done) | exact rfl | exact trivial | apply And.intro | omega | (simp; done)); done)); conv => whnf)
          | (refine call_sn ?_ (i3) ?_; (focus ((repeat' first | exact snapRow | exact snap_row (by simp; done) | exact rfl | exact trivial | apply And.intro | omega | (simp; done)); done)); conv => whnf)
          | (refine callP_sn ?_ (i3) ?_; (focus ((repeat' first | exact snapRow | exact snap_row (by simp; done) | exact rfl | exact trivial | apply And.intro | omega | (simp; done)); done)); conv => whnf)
          | (refine call_sn ?_ (i4) ?_; (focus ((repeat' first | exact snapRow | exact snap_row (by simp; done) | exact rfl | exact trivial | apply And.intro | omega | (simp; done)); done)); conv => whnf)
          | (refine callP_sn ?_ (i4) ?_; (focus ((repeat' first | exact snapRow | exact snap_row (by simp; done) | exact rfl | exact trivial | apply And.intro | omega | (simp; done)); done)); conv => whnf)
          | (refine And.intro ?_ ?_; (focus (first | decide | omega | (simp at *; omega) | (simp_all; done))); conv => whnf)
        refine frameN [] (drawThrough_c E hE hEb) rfl (by decide) rfl rfl ?_
        rintro _ gs ⟨a, b, t, rfl⟩
        refine ⟨[], gs, rfl, Nat.le_refl _, rfl, ?_⟩
        conv => whnf
        have t1 := implThrough a b t
        have t2 := specThrough a b t
        have t3 := implThrough a b (IntKind.i64.wrap (b - t))
        have tc := implCount a b
        have htf := through_or a b t
        generalize throughR a b t = T at t1 t2 htf
        generalize throughR a b (IntKind.i64.wrap (b - t)) = T2 at t3 htf
        generalize countR a b = C at tc htf
        obtain ⟨tn, tok⟩ := T
        obtain ⟨cn, cok⟩ := C
        dsimp only at t1 t2 tc htf
        rcases htf with rfl | ⟨rfl, rfl, rfl, f1, f2⟩
        · skip
          repeat' first
            | exact True.intro
            | (refine Both.mk ?_ ?_ <;> conv => whnf)
            | (refine NilQ.mk (fun hnil => ?_) ?_ <;> conv => whnf)
            | (refine Br.mk (fun hb => (by exfalso; first | (simp [not_true_eq_false] at hb; done) | (simp [not_true_eq_false] at hb; omega))) (fun hb => ?_); clear hb; conv => whnf)
            | (refine Br.mk (fun hb => ?_) (fun hb => (by exfalso; first | (simp [not_true_eq_false] at hb; done) | (simp [not_true_eq_false] at hb; omega))); clear hb; conv => whnf)
            | (refine Br.mk (fun hb => ?_) (fun hb => ?_) <;> conv => whnf)
            | (refine call_sn ?_ (t1) ?_; (focus ((repeat' first | exact snapRow | exact snap_row (by simp; done) | exact rfl | exact trivial | apply And.intro | omega | (simp; done)); done)); conv => whnf)
            | (refine callP_sn ?_ (t1) ?_; (focus ((repeat' first | exact snapRow | exact snap_row (by simp; done) | exact rfl | exact trivial | apply And.intro | omega | (simp; done)); done)); conv => whnf)
            | (refine call_sn ?_ (t2) ?_; (focus ((repeat' first | exact snapRow | exact snap_row (by simp; done) | exact rfl | exact trivial | apply And.intro | omega | (simp; done)); done)); conv => whnf)
            | (refine callP_sn ?_ (t2) ?_; (focus ((repeat' first | exact snapRow | exact snap_row (by simp; done) | exact rfl | exact trivial | apply And.intro | omega | (simp; done)); done)); conv => whnf)
            | (refine And.intro ?_ ?_; (focus (first | decide | omega | (simp at *; omega) | (simp_all; done))); conv => whnf)
          exact ⟨⟨rfl, trivial⟩, by simp [refVs, refCV]⟩
        · skip
          repeat' first
            | exact True.intro
            | (refine Both.mk ?_ ?_ <;> conv => whnf)
            | (refine NilQ.mk (fun hnil => ?_) ?_ <;> conv => whnf)
            | (refine Br.mk (fun hb => (by exfalso; first | (simp [f1, f2] at hb; done) | (simp [f1, f2] at hb; omega))) (fun hb => ?_); clear hb; conv => whnf)
            | (refine Br.mk (fun hb => ?_) (fun hb => (by exfalso; first | (simp [f1, f2] at hb; done) | (simp [f1, f2] at hb; omega))); clear hb; conv => whnf)
            | (refine Br.mk (fun hb => ?_) (fun hb => ?_) <;> conv => whnf)
            | (refine call_sn ?_ (t1) ?_; (focus ((repeat' first | exact snapRow | exact snap_row (by simp; done) | exact rfl | exact trivial | apply And.intro | omega | (simp; done)); done)); conv => whnf)
            | (refine callP_sn ?_ (t1) ?_; (focus ((repeat' first | exact snapRow | exact snap_row (by simp; done) | exact rfl | exact trivial | apply And.intro | omega | (simp; done)); done)); conv => whnf)
            | (refine call_sn ?_ (t2) ?_; (focus ((repeat' first | exact snapRow | exact snap_row (by simp; done) | exact rfl | exact trivial | apply And.intro | omega | (simp; done)); done)); conv => whnf)
            | (refine callP_sn ?_ (t2) ?_; (focus ((repeat' first | exact snapRow | exact snap_row (by simp; done) | exact rfl | exact trivial | apply And.intro | omega | (simp; done)); done)); conv => whnf)
            | (refine call_sn ?_ (t3) ?_; (focus ((repeat' first | exact snapRow | exact snap_row (by simp; done) | exact rfl | exact trivial | apply And.intro | omega | (simp; done)); done)); conv => whnf)
            | (refine callP_sn ?_ (t3) ?_; (focus ((repeat' first | exact snapRow | exact snap_row (by simp; done) | exact rfl | exact trivial | apply And.intro | omega | (simp; done)); done)); conv => whnf)
            | (refine call_sn ?_ (tc) ?_; (focus ((repeat' first | exact snapRow | exact snap_row (by simp; done) | exact rfl | exact trivial | apply And.intro | omega | (simp; done)); done)); conv => whnf)
            | (refine callP_sn ?_ (tc) ?_; (focus ((repeat' first | exact snapRow | exact snap_row (by simp; done) | exact rfl | exact trivial | apply And.intro | omega | (simp; done)); done)); conv => whnf)
            | (refine And.intro ?_ ?_; (focus (first | decide | omega | (simp at *; omega) | (simp_all; done))); conv => whnf)
          rw [show decide (tn ≤ cn) = true from decide_eq_true f2]; exact ⟨⟨rfl, trivial⟩, by simp [refVs, refCV]⟩
  · as_aux_lemma =>
        have e1 : sqR h l = ([], false) := by unfold sqR; rw [if_neg hb0]
        have e2 : countR h l = (0, false) := by unfold countR; rw [if_neg hb0]
        have e3 : meanR h l = (0, 0, false) := by unfold meanR; rw [if_neg hb0]
        have e4 : fewR h l = (0, false) := by unfold fewR; rw [e1]; rfl
        have e5 : wholeR h l = (0, false) := by unfold wholeR; rw [if_neg hb0]
        have j7 : Fn G.P 12 [aI h, aI l] (.tup [aI (fewR h l).1, aB (fewR h l).2]) := j7
        rw [e1] at j1 j2
        rw [e2] at j3 j4
        rw [e3] at j5 j6
        rw [e4] at j7 j8
        rw [e5] at j9 j10
        have hz := zSame_ok [] (by simp)
        dsimp only at j1 j2 j3 j4 j5 j6 j7 j8 j9 j10
        repeat' first
          | exact True.intro
          | (refine Both.mk ?_ ?_ <;> conv => whnf)
          | (refine NilQ.mk (fun hnil => ?_) ?_ <;> conv => whnf)
          | (refine Br.mk (fun hb => (by exfalso; first | (simp [hb0] at hb; done) | (simp [hb0] at hb; omega))) (fun hb => ?_); clear hb; conv => whnf)
          | (refine Br.mk (fun hb => ?_) (fun hb => (by exfalso; first | (simp [hb0] at hb; done) | (simp [hb0] at hb; omega))); clear hb; conv => whnf)
          | (refine Br.mk (fun hb => ?_) (fun hb => ?_) <;> conv => whnf)
          | (refine call_sn ?_ (j1) ?_; (focus ((repeat' first | exact snapRow | exact snap_row (by simp; done) | exact rfl | exact trivial | apply And.intro | omega | (simp; done)); done)); conv => whnf)
          | (refine callP_sn ?_ (j1) ?_; (focus ((repeat' first | exact snapRow | exact snap_row (by simp; done) | exact rfl | exact trivial | apply And.intro | omega | (simp; done)); done)); conv => whnf)
          | (refine call_sn ?_ (j2) ?_; (focus ((repeat' first | exact snapRow | exact snap_row (by simp; done) | exact rfl | exact trivial | apply And.intro | omega | (simp; done)); done)); conv => whnf)
          | (refine callP_sn ?_ (j2) ?_; (focus ((repeat' first | exact snapRow | exact snap_row (by simp; done) | exact rfl | exact trivial | apply And.intro | omega | (simp; done)); done)); conv => whnf)
          | (refine call_sn ?_ (j3) ?_; (focus ((repeat' first | exact snapRow | exact snap_row (by simp; done) | exact rfl | exact trivial | apply And.intro | omega | (simp; done)); done)); conv => whnf)
          | (refine callP_sn ?_ (j3) ?_; (focus ((repeat' first | exact snapRow | exact snap_row (by simp; done) | exact rfl | exact trivial | apply And.intro | omega | (simp; done)); done)); conv => whnf)
          | (refine call_sn ?_ (j4) ?_; (focus ((repeat' first | exact snapRow | exact snap_row (by simp; done) | exact rfl | exact trivial | apply And.intro | omega | (simp; done)); done)); conv => whnf)
          | (refine callP_sn ?_ (j4) ?_; (focus ((repeat' first | exact snapRow | exact snap_row (by simp; done) | exact rfl | exact trivial | apply And.intro | omega | (simp; done)); done)); conv => whnf)
          | (refine call_sn ?_ (j5) ?_; (focus ((repeat' first | exact snapRow | exact snap_row (by simp; done) | exact rfl | exact trivial | apply And.intro | omega | (simp; done)); done)); conv => whnf)
          | (refine callP_sn ?_ (j5) ?_; (focus ((repeat' first | exact snapRow | exact snap_row (by simp; done) | exact rfl | exact trivial | apply And.intro | omega | (simp; done)); done)); conv => whnf)
          | (refine call_sn ?_ (j6) ?_; (focus ((repeat' first | exact snapRow | exact snap_row (by simp; done) | exact rfl | exact trivial | apply And.intro | omega | (simp; done)); done)); conv => whnf)
          | (refine callP_sn ?_ (j6) ?_; (focus ((repeat' first | exact snapRow | exact snap_row (by simp; done) | exact rfl | exact trivial | apply And.intro | omega | (simp; done)); done)); conv => whnf)
          | (refine call_sn ?_ (j7) ?_; (focus ((repeat' first | exact snapRow | exact snap_row (by simp; done) | exact rfl | exact trivial | apply And.intro | omega | (simp; done)); done)); conv => whnf)
          | (refine callP_sn ?_ (j7) ?_; (focus ((repeat' first | exact snapRow | exact snap_row (by simp; done) | exact rfl | exact trivial | apply And.intro | omega | (simp; done)); done)); conv => whnf)
          | (refine call_sn ?_ (j8) ?_; (focus ((repeat' first | exact snapRow | exact snap_row (by simp; done) | exact rfl | exact trivial | apply And.intro | omega | (simp; done)); done)); conv => whnf)
          | (refine callP_sn ?_ (j8) ?_; (focus ((repeat' first | exact snapRow | exact snap_row (by simp; done) | exact rfl | exact trivial | apply And.intro | omega | (simp; done)); done)); conv => whnf)
          | (refine call_sn ?_ (j9) ?_; (focus ((repeat' first | exact snapRow | exact snap_row (by simp; done) | exact rfl | exact trivial | apply And.intro | omega | (simp; done)); done)); conv => whnf)
          | (refine callP_sn ?_ (j9) ?_; (focus ((repeat' first | exact snapRow | exact snap_row (by simp; done) | exact rfl | exact trivial | apply And.intro | omega | (simp; done)); done)); conv => whnf)
          | (refine call_sn ?_ (j10) ?_; (focus ((repeat' first | exact snapRow | exact snap_row (by simp; done) | exact rfl | exact trivial | apply And.intro | omega | (simp; done)); done)); conv => whnf)
          | (refine callP_sn ?_ (j10) ?_; (focus ((repeat' first | exact snapRow | exact snap_row (by simp; done) | exact rfl | exact trivial | apply And.intro | omega | (simp; done)); done)); conv => whnf)
          | (refine call_sn ?_ (hz) ?_; (focus ((repeat' first | exact snapRow | exact snap_row (by simp; done) | exact rfl | exact trivial | apply And.intro | omega | (simp; done)); done)); conv => whnf)
          | (refine callP_sn ?_ (hz) ?_; (focus ((repeat' first | exact snapRow | exact snap_row (by simp; done) | exact rfl | exact trivial | apply And.intro | omega | (simp; done)); done)); conv => whnf)
          | (refine And.intro ?_ ?_; (focus (first | decide | omega | (simp [contentOK, objRd, objAt, peel, List.length_map]; done) | (simp [contentOK, objRd, objAt, peel, List.length_map]; omega) | (simp [contentOK, objRd, objAt, peel, List.length_map] at *; omega))); conv => whnf)
        refine frameN [] (drawWithout_c E hE hEb) rfl (by decide) rfl rfl ?_
        rintro _ gs ⟨n, m, s, rfl⟩
        refine ⟨[], gs, rfl, Nat.le_refl _, rfl, ?_⟩
        conv => whnf
        have i1 := implWithout n m s
        have i2 := specWithout n m s
        have i3 := implSide n m s
        have i4 := specSide n m s
        have hso := same_ok n m s
        generalize withoutR n m s = W at i1 i2 hso
        generalize sideR n m s = S at i3 i4 hso
        obtain ⟨wn, wok⟩ := W
        obtain ⟨dn, dok⟩ := S
        dsimp only at i1 i2 i3 i4 hso
        subst hso
        repeat' first
          | exact True.intro
          | (refine Both.mk ?_ ?_ <;> conv => whnf)
          | (refine NilQ.mk (fun hnil => ?_) ?_ <;> conv => whnf)
          | (refine Br.mk (fun hb => (by exfalso; first | (simp [not_true_eq_false] at hb; done) | (simp [not_true_eq_false] at hb; omega))) (fun hb => ?_); clear hb; conv => whnf)
          | (refine Br.mk (fun hb => ?_) (fun hb => (by exfalso; first | (simp [not_true_eq_false] at hb; done) | (simp [not_true_eq_false] at hb; omega))); clear hb; conv => whnf)
          | (refine Br.mk (fun hb => ?_) (fun hb => ?_) <;> conv => whnf)
          | (refine call_sn ?_ (i1) ?_; (focus ((repeat' first | exact snapRow | exact snap_row (by simp; done) | exact rfl | exact trivial | apply And.intro | omega | (simp; done)); done)); conv => whnf)
          | (refine callP_sn ?_ (i1) ?_; (focus ((repeat' first | exact snapRow | exact snap_row (by simp; done) | exact rfl | exact trivial | apply And.intro | omega | (simp; done)); done)); conv => whnf)
          | (refine call_sn ?_ (i2) ?_; (focus ((repeat' first | exact snapRow | exact snap_row (by simp; done) | exact rfl | exact trivial | apply And.intro | omega | (simp; done)); done)); conv => whnf)
          | (refine callP_sn ?_ (i2) ?_; (focus ((repeat' first | exact snapRow | exact snap_row (by simp; done) | exact rfl | exact trivial | apply And.intro | omega | (simp; done)); done)); conv => whnf)
          | (refine call_sn ?_ (i3) ?_; (focus ((repeat' first | exact snapRow | exact snap_row (by simp; done) | exact rfl | exact trivial | apply And.intro | omega | (simp; done)); done)); conv => whnf)
          | (refine callP_sn ?_ (i3) ?_; (focus ((repeat' first | exact snapRow | exact snap_row (by simp; done) | exact rfl | exact trivial | apply And.intro | omega | (simp; done)); done)); conv => whnf)
          | (refine call_sn ?_ (i4) ?_; (focus ((repeat' first | exact snapRow | exact snap_row (by simp; done) | exact rfl | exact trivial | apply And.intro | omega | (simp; done)); done)); conv => whnf)
          | (refine callP_sn ?_ (i4) ?_; (focus ((repeat' first | exact snapRow | exact snap_row (by simp; done) | exact rfl | exact trivial | apply And.intro | omega | (simp; done)); done)); conv => whnf)
          | (refine And.intro ?_ ?_; (focus (first | decide | omega | (simp at *; omega) | (simp_all; done))); conv => whnf)
        refine frameN [] (drawThrough_c E hE hEb) rfl (by decide) rfl rfl ?_
        rintro _ gs ⟨a, b, t, rfl⟩
        refine ⟨[], gs, rfl, Nat.le_refl _, rfl, ?_⟩
        conv => whnf
        have t1 := implThrough a b t
        have t2 := specThrough a b t
        have t3 := implThrough a b (IntKind.i64.wrap (b - t))
        have tc := implCount a b
        have htf := through_or a b t
        generalize throughR a b t = T at t1 t2 htf
        generalize throughR a b (IntKind.i64.wrap (b - t)) = T2 at t3 htf
        generalize countR a b = C at tc htf
        obtain ⟨tn, tok⟩ := T
        obtain ⟨cn, cok⟩ := C
        dsimp only at t1 t2 tc htf
        rcases htf with rfl | ⟨rfl, rfl, rfl, f1, f2⟩
        · skip
          repeat' first
            | exact True.intro
            | (refine Both.mk ?_ ?_ <;> conv => whnf)
            | (refine NilQ.mk (fun hnil => ?_) ?_ <;> conv => whnf)
            | (refine Br.mk (fun hb => (by exfalso; first | (simp [not_true_eq_false] at hb; done) | (simp [not_true_eq_false] at hb; omega))) (fun hb => ?_); clear hb; conv => whnf)
            | (refine Br.mk (fun hb => ?_) (fun hb => (by exfalso; first | (simp [not_true_eq_false] at hb; done) | (simp [not_true_eq_false] at hb; omega))); clear hb; conv => whnf)
            | (refine Br.mk (fun hb => ?_) (fun hb => ?_) <;> conv => whnf)
            | (refine call_sn ?_ (t1) ?_; (focus ((repeat' first | exact snapRow | exact snap_row (by simp; done) | exact rfl | exact trivial | apply And.intro | omega | (simp; done)); done)); conv => whnf)
            | (refine callP_sn ?_ (t1) ?_; (focus ((repeat' first | exact snapRow | exact snap_row (by simp; done) | exact rfl | exact trivial | apply And.intro | omega | (simp; done)); done)); conv => whnf)
            | (refine call_sn ?_ (t2) ?_; (focus ((repeat' first | exact snapRow | exact snap_row (by simp; done) | exact rfl | exact trivial | apply And.intro | omega | (simp; done)); done)); conv => whnf)
            | (refine callP_sn ?_ (t2) ?_; (focus ((repeat' first | exact snapRow | exact snap_row (by simp; done) | exact rfl | exact trivial | apply And.intro | omega | (simp; done)); done)); conv => whnf)
            | (refine And.intro ?_ ?_; (focus (first | decide | omega | (simp at *; omega) | (simp_all; done))); conv => whnf)
          exact ⟨⟨rfl, trivial⟩, by simp [refVs, refCV]⟩
        · skip
          repeat' first
            | exact True.intro
            | (refine Both.mk ?_ ?_ <;> conv => whnf)
            | (refine NilQ.mk (fun hnil => ?_) ?_ <;> conv => whnf)
            | (refine Br.mk (fun hb => (by exfalso; first | (simp [f1, f2] at hb; done) | (simp [f1, f2] at hb; omega))) (fun hb => ?_); clear hb; conv => whnf)
            | (refine Br.mk (fun hb => ?_) (fun hb => (by exfalso; first | (simp [f1, f2] at hb; done) | (simp [f1, f2] at hb; omega))); clear hb; conv => whnf)
            | (refine Br.mk (fun hb => ?_) (fun hb => ?_) <;> conv => whnf)
            | (refine call_sn ?_ (t1) ?_; (focus ((repeat' first | exact snapRow | exact snap_row (by simp; done) | exact rfl | exact trivial | apply And.intro | omega | (simp; done)); done)); conv => whnf)
            | (refine callP_sn ?_ (t1) ?_; (focus ((repeat' first | exact snapRow | exact snap_row (by simp; done) | exact rfl | exact trivial | apply And.intro | omega | (simp; done)); done)); conv => whnf)
            | (refine call_sn ?_ (t2) ?_; (focus ((repeat' first | exact snapRow | exact snap_row (by simp; done) | exact rfl | exact trivial | apply And.intro | omega | (simp; done)); done)); conv => whnf)
            | (refine callP_sn ?_ (t2) ?_; (focus ((repeat' first | exact snapRow | exact snap_row (by simp; done) | exact rfl | exact trivial | apply And.intro | omega | (simp; done)); done)); conv => whnf)
            | (refine call_sn ?_ (t3) ?_; (focus ((repeat' first | exact snapRow | exact snap_row (by simp; done) | exact rfl | exact trivial | apply And.intro | omega | (simp; done)); done)); conv => whnf)
            | (refine callP_sn ?_ (t3) ?_; (focus ((repeat' first | exact snapRow | exact snap_row (by simp; done) | exact rfl | exact trivial | apply And.intro | omega | (simp; done)); done)); conv => whnf)
            | (refine call_sn ?_ (tc) ?_; (focus ((repeat' first | exact snapRow | exact snap_row (by simp; done) | exact rfl | exact trivial | apply And.intro | omega | (simp; done)); done)); conv => whnf)
            | (refine callP_sn ?_ (tc) ?_; (focus ((repeat' first | exact snapRow | exact snap_row (by simp; done) | exact rfl | exact trivial | apply And.intro | omega | (simp; done)); done)); conv => whnf)
            | (refine And.intro ?_ ?_; (focus (first | decide | omega | (simp at *; omega) | (simp_all; done))); conv => whnf)
          rw [show decide (tn ≤ cn) = true from decide_eq_true f2]; exact ⟨⟨rfl, trivial⟩, by simp [refVs, refCV]⟩

end Go.Proofs.Ytnmeehiahlfgaaa

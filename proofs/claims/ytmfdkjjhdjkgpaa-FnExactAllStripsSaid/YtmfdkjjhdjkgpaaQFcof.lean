/- Filling by a list of sides: impl.filled. -/
import Derived.Test.YtmfdkjjhdjkgpaaQZu
import Derived.Test.YtmfdkjjhdjkgpaaQPrank
namespace Go.Proofs.Ytmfdkjjhdjkgpaa
open Go Go.RowKit
set_option maxRecDepth 10000
set_option maxHeartbeats 4000000
set_option linter.unusedSimpArgs false

/-- The end of filling. -/
theorem cofL_end {h w' : Nat} {S : List Int} {R : List Nat} {sq : List S3} (hh : 1 ≤ h ∧ h < 5) (h2 : stA h S S.length = some (R, sq)) (hf : FilL h R sq) (hle : ∀ r, r < h → R.getD r 0 ≤ 30) (hw : (∀ r, r < h → R.getD r 0 ≤ w') ∧ ∃ r, r < h ∧ R.getD r 0 = w') : cofL h S = cofR w' h sq := by
  have e := cof_width hh.1 hf rfl hw
  unfold cofL
  rw [h2]
  dsimp only
  rw [e]
  by_cases c : (cofR (R.getD 0 0 : Nat) h sq).2 = true
  · have : (cofR (R.getD 0 0 : Nat) h sq).1.1 ≤ 30 := by
      unfold cofR
      split
      · have := hle 0 hh.1
        dsimp only
        omega
      · dsimp only; omega
    rw [if_pos ⟨c, this⟩]
  · rw [if_neg (fun g => c g.1)]
    unfold cofR at c ⊢
    split
    · rename_i g; rw [if_pos g] at c; exact (c rfl).elim
    · rfl

theorem filled_ok (h : Nat) (S : List Int) (hh : 1 ≤ h ∧ h < 5) (hn : S.length ≤ 120) (hn1 : 1 ≤ S.length) (hi : ∀ s ∈ S, 1 ≤ s ∧ s ≤ 4) : Fn G.P 96 [aI h, .c (.list 1 (S.map r1))] (.tup [.agg (dCut (cofL h S).1.1 (cofL h S).1.2.1 (cofL h S).1.2.2), aB (cofL h S).2]) := by
  refine fn_of_body (G := G) Try.func96 rfl (by decide) (Nat.le_of_ble_eq_true rfl) ?_
  conv => whnf
  repeat' first
    | exact True.intro
    | (refine draw_mkF ?_ ?_ ?_; (focus (decide +kernel)); (focus (kernel_rfl)); conv => whnf)
    | (refine Both.mk ?_ ?_ <;> conv => whnf)
    | (refine OwnQ.own ?_; conv => whnf)
    | (refine NilQ.mk (fun hnil => ?_) ?_ <;> conv => whnf)
    | (refine draw_mk (by kernel_rfl) ?_; conv => whnf)
    | (refine Br.mk (fun hb => ?_) (fun hb => ?_) <;> conv => whnf)
    | (refine And.intro ?_ ?_; (focus (first | decide | omega | (simp [contentOK, objRd, objAt, peel, List.length_map]; done) | (simp [contentOK, objRd, objAt, peel, List.length_map]; omega) | (simp [contentOK, objRd, objAt, peel, List.length_map] at *; omega))); conv => whnf)
  refine .inl ⟨Nat × List Nat × List S3, fun x => S.length - x.1, fun x => x.1 ≤ S.length ∧ stA h S x.1 = some x.2 ∧ x.2.1.length = 4 ∧ x.2.2.length = x.1 ∧ FilL h x.2.1 x.2.2 ∧ (∀ q ∈ x.2.2, okSq q) ∧ ∃ X st, At h 30 X st x.2.1 ∧ X ≤ 30,
    fun x => ⟨[(0, .one (.c (vI h))), (4, .one (.c (.ptr 0 0 0))), (5, .one (.c (.d (.v (.bool false))))), (6, .one (.c (.ptr 2 0 0))), (7, .one (.c (.ptr 3 0 0))), (8, .one (.c (.sl 1 0 3 0 x.1 none))), (18, .one (.c (.d (.list 1 (S.map r1))))), (19, .one (.c (vI S.length))), (20, .one (.c (vI x.1)))],
      [(0, .box [.d (dI 0), .d (dI 0), .nilsl]), (0, .arr 3 (x.2.2.map r3)), (0, .box [.d (dI h), .d (dI 30), .d (.v (.map none))]), (0, .box [.d (dI (x.2.1.getD 0 0 : Nat)), .d (dI (x.2.1.getD 1 0 : Nat)), .d (dI (x.2.1.getD 2 0 : Nat)), .d (dI (x.2.1.getD 3 0 : Nat))])], _⟩,
    (0, [0, 0, 0, 0], []), ⟨Nat.zero_le _, rfl, rfl, rfl, ?_, (fun q hq => by cases hq), 0, 0, at_start hh, Nat.zero_le _⟩, weak_cap.trans (weak_of rfl ?_ rfl (Nat.zero_le _)), ?_⟩
  · intro r hr x
    have : ([0, 0, 0, 0] : List Nat).getD r 0 = 0 := by
      match r with
      | 0 => rfl
      | 1 => rfl
      | 2 => rfl
      | 3 => rfl
      | r + 4 => rfl
    show x < ([0, 0, 0, 0] : List Nat).getD r 0 ↔ _
    rw [this]
    exact ⟨fun h => by omega, fun ⟨q, hq, _⟩ => by cases hq⟩
  · rw [List.length_map]
    (repeat' first | exact rfl | exact trivial | apply And.intro | (simp [getE]; done))
  rintro ⟨i, R, sq⟩ ⟨h1, h2, h3, h4, hf, hok, X, st, hat, hX⟩
  dsimp only at h1 h2 h3 h4 hf hok hat ⊢
  obtain ⟨a, b, c, d, rfl⟩ : ∃ a b c d, R = [a, b, c, d] := ⟨_, _, _, _, four h3⟩
  simp only [List.getD_cons_zero, List.getD_cons_succ]
  conv => whnf
  refine Br.mk (fun hb => ?_) (fun hb => ?_) <;> conv => whnf
  · have hil : i < S.length := by simp at hb; omega
    obtain ⟨y, hy⟩ := Option.isSome_iff_exists.1 hat.free
    obtain ⟨s, hs⟩ : ∃ s : Nat, S[i]? = some (s : Int) := by
      refine ⟨(S[i]).toNat, ?_⟩
      have := hi _ (List.getElem_mem hil)
      rw [List.getElem?_eq_getElem hil]
      congr 1; omega
    have hsi := hi _ (List.mem_of_getElem? hs)
    have hel : (S.map r1)[((i : Int)).toNat]? = some [dI s] := by
      rw [Int.toNat_natCast, List.getElem?_map, hs]; rfl
    repeat' first
      | (refine El.get hel ?_; conv => whnf)
      | exact True.intro
      | (refine draw_mkF ?_ ?_ ?_; (focus (decide +kernel)); (focus (kernel_rfl)); conv => whnf)
      | (refine Both.mk ?_ ?_ <;> conv => whnf)
      | (refine OwnQ.own ?_; conv => whnf)
      | (refine NilQ.mk (fun hnil => ?_) ?_ <;> conv => whnf)
      | (refine draw_mk (by kernel_rfl) ?_; conv => whnf)
      | (refine Br.mk (fun hb => ?_) (fun hb => ?_) <;> conv => whnf)
      | (refine And.intro ?_ ?_; (focus (first | decide | omega | (simp [contentOK, objRd, objAt, peel, List.length_map]; done) | (simp [contentOK, objRd, objAt, peel, List.length_map]; omega) | (simp [contentOK, objRd, objAt, peel, List.length_map] at *; omega))); conv => whnf)
    have hmf := mst_fitF hh.2 hat hy (s := s) (by omega)
    obtain ⟨er, ex⟩ := at_row hat hy
    refine frameN [] (next_n hh.2 hat hy (by omega)) rfl (by decide) rfl rfl ?_
    rintro _ gs ⟨rfl, _⟩
    refine ⟨[], gs, rfl, Nat.le_refl _, rfl, ?_⟩
    conv => whnf
    refine Br.mk (fun hb1 => ?_) (fun hb1 => ?_) <;> conv => whnf
    · have hgt : mst h 30 X [a, b, c, d] y < s := by simp at hb1; omega
      have hbad : cofL h S = ((0, 0, []), false) := by
        by_cases hfit : fitF h [a, b, c, d] s
        · have := stA_yes h2 hs hfit
          refine cof_far this (by omega) ⟨_, List.mem_append.2 (.inr (List.mem_singleton.2 rfl)), ?_⟩
          have h30 : ¬ (X + s ≤ 30) := fun g => by have := hmf.2 ⟨hfit, g⟩; omega
          dsimp only
          rw [er, ex]
          omega
        · refine cof_stop (stA_no h2 hs (by rw [Int.toNat_natCast]; exact hfit) ?_) (by omega)
          have := (rowI_facts [a, b, c, d] h).1
          omega
      rw [hbad]
      repeat' first
        | exact True.intro
        | (refine draw_mkF ?_ ?_ ?_; (focus (decide +kernel)); (focus (kernel_rfl)); conv => whnf)
        | (refine Both.mk ?_ ?_ <;> conv => whnf)
        | (refine OwnQ.own ?_; conv => whnf)
        | (refine NilQ.mk (fun hnil => ?_) ?_ <;> conv => whnf)
        | (refine draw_mk (by kernel_rfl) ?_; conv => whnf)
        | (refine Br.mk (fun hb => ?_) (fun hb => ?_) <;> conv => whnf)
        | (refine And.intro ?_ ?_; (focus (first | decide | omega | (simp at *; omega) | (simp_all; done))); conv => whnf)
      simp [resOK_iff, resVs, resCell, resCells, refVs, refCV, refCs, dCut]
    · have hle : s ≤ mst h 30 X [a, b, c, d] y := by simp at hb1; omega
      obtain ⟨hfit, h30⟩ := hmf.1 hle
      obtain ⟨X', st', _, _, _, hat', hX', _⟩ := put_at (1 : Int) 0 (stepV 0) hh.2 (Nat.le_refl 30) hX hat hy (by omega) hle
      obtain ⟨a', b', c', d', hR'⟩ : ∃ a' b' c' d', putR [a, b, c, d] y s = [a', b', c', d'] := ⟨_, _, _, _, four (by simp [putR])⟩
      have hfit2 := hfit.2.1
      have hput := put4_x (by omega) (by omega) hat.small hR'
      have hst := stA_yes h2 hs hfit
      have hf' := filL_step hh.2 hf hfit
      rw [er, hR', ex] at hst hf'
      rw [hR'] at hat'
      have hwi := wrap_len (n := i + 1) (by omega)
      repeat' first
        | exact True.intro
        | (refine draw_mkF ?_ ?_ ?_; (focus (decide +kernel)); (focus (kernel_rfl)); conv => whnf)
        | (refine Both.mk ?_ ?_ <;> conv => whnf)
        | (refine OwnQ.own ?_; conv => whnf)
        | (refine NilQ.mk (fun hnil => ?_) ?_ <;> conv => whnf)
        | (refine draw_mk (by kernel_rfl) ?_; conv => whnf)
        | (refine Br.mk (fun hb => ?_) (fun hb => ?_) <;> conv => whnf)
        | (refine call_sn ?_ (hput) ?_; (focus ((repeat' first | exact snapRow | exact snap_row (by simp; done) | exact rfl | exact trivial | apply And.intro | omega | (simp; done)); done)); conv => whnf)
        | (refine callP_sn ?_ (hput) ?_; (focus ((repeat' first | exact snapRow | exact snap_row (by simp; done) | exact rfl | exact trivial | apply And.intro | omega | (simp; done)); done)); conv => whnf)
        | (refine And.intro ?_ ?_; (focus (first | decide | omega | (simp [contentOK, objRd, objAt, peel, List.length_map, h4]; done) | (simp [contentOK, objRd, objAt, peel, List.length_map, h4]; omega) | (simp [contentOK, objRd, objAt, peel, List.length_map, h4] at *; omega))); conv => whnf)
      refine ⟨(i + 1, [a', b', c', d'], sq ++ [((X : Int), (y : Int), (s : Int))]), ⟨by show i + 1 ≤ S.length; omega, hst, rfl, by simp [h4], hf', ?_, X', st', hat', hX'⟩, by show S.length - (i + 1) < S.length - i; omega, weak_capver 1 1 0 ?_ ?_ rfl rfl (Nat.zero_le _) (Nat.zero_le _)⟩
      · intro q hq
        rcases List.mem_append.1 hq with g | g
        · exact hok q g
        · rw [List.mem_singleton.1 g]
          unfold okSq
          dsimp only
          omega
      · rw [app_one (f := r3) (v := [dI X, dI y, dI s]) ((X : Int), (y : Int), (s : Int)) h4.symm rfl]
        rfl
      · repeat' first
        | exact rfl
        | exact trivial
        | apply And.intro
        | exact congrArg (fun m => SV.one (V1.c (vI m))) hwi
  · obtain rfl : i = S.length := by simp at hb; omega
    have hcase : h = 1 ∨ h = 2 ∨ h = 3 ∨ h = 4 := by omega
    rcases hcase with rfl | rfl | rfl | rfl
    · obtain ⟨g1, g2⟩ := maxL_spec (a : Int) []
      have hm := maxInts_ok (a : Int) [] (by simp)
      generalize maxL ((a : Int) :: []) = w at g1 g2 hm
      obtain ⟨w, rfl⟩ : ∃ n : Nat, w = n := by simp at g1; exact ⟨w.toNat, by omega⟩
      simp only [List.mem_cons, List.not_mem_nil, or_false, forall_eq_or_imp, forall_eq] at g1 g2
      have hcof := cofL_end (w' := w) hh h2 hf (fun r hr => hat.le r hr) ⟨fun r hr => ?_, ?_⟩
      · have hcut := cutOf_ok w 1 sq (by omega) hok
        rw [hcof]
        generalize cofR w ((1 : Nat) : Int) sq = C at hcut ⊢
        obtain ⟨⟨cw, ch, cl⟩, cb⟩ := C
        have e : S.length = (sq.map r3).length := by simp [h4]
        rw [e]
        clear hcof hf hat h2 hi e h4
        refine ⟨by decide, by decide, by decide, ?_⟩
        conv => whnf
        refine call_sn (by repeat' first | exact rfl | exact trivial | exact Nat.le_of_ble_eq_true rfl | apply And.intro) hm ?_
        conv => whnf
        repeat' first
          | exact True.intro
          | (refine draw_mkF ?_ ?_ ?_; (focus (decide +kernel)); (focus (kernel_rfl)); conv => whnf)
          | (refine Both.mk ?_ ?_ <;> conv => whnf)
          | (refine OwnQ.own ?_; conv => whnf)
          | (refine NilQ.mk (fun hnil => ?_) ?_ <;> conv => whnf)
          | (refine draw_mk (by kernel_rfl) ?_; conv => whnf)
          | (refine Br.mk (fun hb => ?_) (fun hb => ?_) <;> conv => whnf)
          | (refine call_sn ?_ (hcut) ?_; (focus ((repeat' first | exact snapRow | exact snap_row (by simp; done) | exact rfl | exact trivial | apply And.intro | omega | (simp; done)); done)); conv => whnf)
          | (refine callP_sn ?_ (hcut) ?_; (focus ((repeat' first | exact snapRow | exact snap_row (by simp; done) | exact rfl | exact trivial | apply And.intro | omega | (simp; done)); done)); conv => whnf)
          | (refine And.intro ?_ ?_; (focus (first | decide | omega | (simp at *; omega) | (simp_all; done))); conv => whnf)
        exact ⟨⟨⟨rfl, rfl, res_cell (by simp [objAt]) (by simp) r3_flat, trivial⟩, rfl, trivial⟩, by simp [refVs, refCV, refCs]⟩
      · have hr' : r = 0 := by omega
        rcases hr' with rfl <;> simp <;> omega
      · exact ⟨0, by omega, by simp; omega⟩
    · obtain ⟨g1, g2⟩ := maxL_spec (a : Int) [(b : Int)]
      have hm := maxInts_ok (a : Int) [(b : Int)] (by simp)
      generalize maxL ((a : Int) :: [(b : Int)]) = w at g1 g2 hm
      obtain ⟨w, rfl⟩ : ∃ n : Nat, w = n := by simp at g1; exact ⟨w.toNat, by omega⟩
      simp only [List.mem_cons, List.not_mem_nil, or_false, forall_eq_or_imp, forall_eq] at g1 g2
      have hcof := cofL_end (w' := w) hh h2 hf (fun r hr => hat.le r hr) ⟨fun r hr => ?_, ?_⟩
      · have hcut := cutOf_ok w 2 sq (by omega) hok
        rw [hcof]
        generalize cofR w ((2 : Nat) : Int) sq = C at hcut ⊢
        obtain ⟨⟨cw, ch, cl⟩, cb⟩ := C
        have e : S.length = (sq.map r3).length := by simp [h4]
        rw [e]
        clear hcof hf hat h2 hi e h4
        refine ⟨by decide, by decide, by decide, ?_⟩
        conv => whnf
        refine call_sn (by repeat' first | exact rfl | exact trivial | exact Nat.le_of_ble_eq_true rfl | apply And.intro) hm ?_
        conv => whnf
        repeat' first
          | exact True.intro
          | (refine draw_mkF ?_ ?_ ?_; (focus (decide +kernel)); (focus (kernel_rfl)); conv => whnf)
          | (refine Both.mk ?_ ?_ <;> conv => whnf)
          | (refine OwnQ.own ?_; conv => whnf)
          | (refine NilQ.mk (fun hnil => ?_) ?_ <;> conv => whnf)
          | (refine draw_mk (by kernel_rfl) ?_; conv => whnf)
          | (refine Br.mk (fun hb => ?_) (fun hb => ?_) <;> conv => whnf)
          | (refine call_sn ?_ (hcut) ?_; (focus ((repeat' first | exact snapRow | exact snap_row (by simp; done) | exact rfl | exact trivial | apply And.intro | omega | (simp; done)); done)); conv => whnf)
          | (refine callP_sn ?_ (hcut) ?_; (focus ((repeat' first | exact snapRow | exact snap_row (by simp; done) | exact rfl | exact trivial | apply And.intro | omega | (simp; done)); done)); conv => whnf)
          | (refine And.intro ?_ ?_; (focus (first | decide | omega | (simp at *; omega) | (simp_all; done))); conv => whnf)
        exact ⟨⟨⟨rfl, rfl, res_cell (by simp [objAt]) (by simp) r3_flat, trivial⟩, rfl, trivial⟩, by simp [refVs, refCV, refCs]⟩
      · have hr' : r = 0 ∨ r = 1 := by omega
        rcases hr' with rfl | rfl <;> simp <;> omega
      · rcases (show w = a ∨ w = b by omega) with g | g
        · exact ⟨0, by omega, by simp [g]⟩
        · exact ⟨1, by omega, by simp [g]⟩
    · obtain ⟨g1, g2⟩ := maxL_spec (a : Int) [(b : Int), (c : Int)]
      have hm := maxInts_ok (a : Int) [(b : Int), (c : Int)] (by simp)
      generalize maxL ((a : Int) :: [(b : Int), (c : Int)]) = w at g1 g2 hm
      obtain ⟨w, rfl⟩ : ∃ n : Nat, w = n := by simp at g1; exact ⟨w.toNat, by omega⟩
      simp only [List.mem_cons, List.not_mem_nil, or_false, forall_eq_or_imp, forall_eq] at g1 g2
      have hcof := cofL_end (w' := w) hh h2 hf (fun r hr => hat.le r hr) ⟨fun r hr => ?_, ?_⟩
      · have hcut := cutOf_ok w 3 sq (by omega) hok
        rw [hcof]
        generalize cofR w ((3 : Nat) : Int) sq = C at hcut ⊢
        obtain ⟨⟨cw, ch, cl⟩, cb⟩ := C
        have e : S.length = (sq.map r3).length := by simp [h4]
        rw [e]
        clear hcof hf hat h2 hi e h4
        refine ⟨by decide, by decide, by decide, ?_⟩
        conv => whnf
        refine call_sn (by repeat' first | exact rfl | exact trivial | exact Nat.le_of_ble_eq_true rfl | apply And.intro) hm ?_
        conv => whnf
        repeat' first
          | exact True.intro
          | (refine draw_mkF ?_ ?_ ?_; (focus (decide +kernel)); (focus (kernel_rfl)); conv => whnf)
          | (refine Both.mk ?_ ?_ <;> conv => whnf)
          | (refine OwnQ.own ?_; conv => whnf)
          | (refine NilQ.mk (fun hnil => ?_) ?_ <;> conv => whnf)
          | (refine draw_mk (by kernel_rfl) ?_; conv => whnf)
          | (refine Br.mk (fun hb => ?_) (fun hb => ?_) <;> conv => whnf)
          | (refine call_sn ?_ (hcut) ?_; (focus ((repeat' first | exact snapRow | exact snap_row (by simp; done) | exact rfl | exact trivial | apply And.intro | omega | (simp; done)); done)); conv => whnf)
          | (refine callP_sn ?_ (hcut) ?_; (focus ((repeat' first | exact snapRow | exact snap_row (by simp; done) | exact rfl | exact trivial | apply And.intro | omega | (simp; done)); done)); conv => whnf)
          | (refine And.intro ?_ ?_; (focus (first | decide | omega | (simp at *; omega) | (simp_all; done))); conv => whnf)
        exact ⟨⟨⟨rfl, rfl, res_cell (by simp [objAt]) (by simp) r3_flat, trivial⟩, rfl, trivial⟩, by simp [refVs, refCV, refCs]⟩
      · have hr' : r = 0 ∨ r = 1 ∨ r = 2 := by omega
        rcases hr' with rfl | rfl | rfl <;> simp <;> omega
      · rcases (show w = a ∨ w = b ∨ w = c by omega) with g | g | g
        · exact ⟨0, by omega, by simp [g]⟩
        · exact ⟨1, by omega, by simp [g]⟩
        · exact ⟨2, by omega, by simp [g]⟩
    · obtain ⟨g1, g2⟩ := maxL_spec (a : Int) [(b : Int), (c : Int), (d : Int)]
      have hm := maxInts_ok (a : Int) [(b : Int), (c : Int), (d : Int)] (by simp)
      generalize maxL ((a : Int) :: [(b : Int), (c : Int), (d : Int)]) = w at g1 g2 hm
      obtain ⟨w, rfl⟩ : ∃ n : Nat, w = n := by simp at g1; exact ⟨w.toNat, by omega⟩
      simp only [List.mem_cons, List.not_mem_nil, or_false, forall_eq_or_imp, forall_eq] at g1 g2
      have hcof := cofL_end (w' := w) hh h2 hf (fun r hr => hat.le r hr) ⟨fun r hr => ?_, ?_⟩
      · have hcut := cutOf_ok w 4 sq (by omega) hok
        rw [hcof]
        generalize cofR w ((4 : Nat) : Int) sq = C at hcut ⊢
        obtain ⟨⟨cw, ch, cl⟩, cb⟩ := C
        have e : S.length = (sq.map r3).length := by simp [h4]
        rw [e]
        clear hcof hf hat h2 hi e h4
        refine ⟨by decide, by decide, by decide, ?_⟩
        conv => whnf
        refine call_sn (by repeat' first | exact rfl | exact trivial | exact Nat.le_of_ble_eq_true rfl | apply And.intro) hm ?_
        conv => whnf
        repeat' first
          | exact True.intro
          | (refine draw_mkF ?_ ?_ ?_; (focus (decide +kernel)); (focus (kernel_rfl)); conv => whnf)
          | (refine Both.mk ?_ ?_ <;> conv => whnf)
          | (refine OwnQ.own ?_; conv => whnf)
          | (refine NilQ.mk (fun hnil => ?_) ?_ <;> conv => whnf)
          | (refine draw_mk (by kernel_rfl) ?_; conv => whnf)
          | (refine Br.mk (fun hb => ?_) (fun hb => ?_) <;> conv => whnf)
          | (refine call_sn ?_ (hcut) ?_; (focus ((repeat' first | exact snapRow | exact snap_row (by simp; done) | exact rfl | exact trivial | apply And.intro | omega | (simp; done)); done)); conv => whnf)
          | (refine callP_sn ?_ (hcut) ?_; (focus ((repeat' first | exact snapRow | exact snap_row (by simp; done) | exact rfl | exact trivial | apply And.intro | omega | (simp; done)); done)); conv => whnf)
          | (refine And.intro ?_ ?_; (focus (first | decide | omega | (simp at *; omega) | (simp_all; done))); conv => whnf)
        exact ⟨⟨⟨rfl, rfl, res_cell (by simp [objAt]) (by simp) r3_flat, trivial⟩, rfl, trivial⟩, by simp [refVs, refCV, refCs]⟩
      · have hr' : r = 0 ∨ r = 1 ∨ r = 2 ∨ r = 3 := by omega
        rcases hr' with rfl | rfl | rfl | rfl <;> simp <;> omega
      · rcases (show w = a ∨ w = b ∨ w = c ∨ w = d by omega) with g | g | g | g
        · exact ⟨0, by omega, by simp [g]⟩
        · exact ⟨1, by omega, by simp [g]⟩
        · exact ⟨2, by omega, by simp [g]⟩
        · exact ⟨3, by omega, by simp [g]⟩

end Go.Proofs.Ytmfdkjjhdjkgpaa

/- The library's stable sorting at squares: insertion. -/
import Derived.Test.YtmfdkjjhdjkgpaaQZr
import Derived.Test.YtmfdkjjhdjkgpaaQZaa
import Derived.Test.YtmfdkjjhdjkgpaaQZg
namespace Go.Proofs.Ytmfdkjjhdjkgpaa
open Go Go.RowKit
set_option maxRecDepth 10000
set_option maxHeartbeats 1000000
set_option linter.unusedSimpArgs false

/-- What the order of places says of two squares. -/
def cfP (a b : Int × Int × Int) : Int := if a.2.1 = b.2.1 then a.1 - b.1 else a.2.1 - b.2.1

theorem cfP_lt (a b : Int × Int × Int) : decide (cfP a b < 0) = lessB a b := by
  unfold cfP lessB
  by_cases h : a.2.1 = b.2.1
  · rw [if_pos h]
    have e : (a.2.1 == b.2.1) = true := by simp [h]
    rw [e, Bool.true_and, decide_eq_false (by omega : ¬ a.2.1 < b.2.1), Bool.false_or]
    exact decide_eq_decide.2 (by omega)
  · rw [if_neg h]
    have e : (a.2.1 == b.2.1) = false := by simp [h]
    rw [e, Bool.false_and, Bool.or_false]
    exact decide_eq_decide.2 (by omega)

theorem lessB_asym (a b : Int × Int × Int) (h : lessB a b = true) : lessB b a = false := by
  simp only [lessB, Bool.or_eq_true, Bool.and_eq_true, decide_eq_true_eq, beq_iff_eq, Bool.or_eq_false_iff, Bool.and_eq_false_imp, decide_eq_false_iff_not] at *
  omega

theorem lessB_ntrans (a b c : Int × Int × Int) (h : lessB a b = false) (g : lessB b c = false) : lessB a c = false := by
  simp only [lessB, Bool.or_eq_false_iff, Bool.and_eq_false_imp, decide_eq_false_iff_not, beq_iff_eq] at *
  omega

theorem compare_ok (a b : Int × Int × Int) (ha : okSq a) (hb : okSq b) : Fn G.P 132 [.agg (r3 a), .agg (r3 b)] (.one (aI (cfP a b))) := by
  obtain ⟨x, y, s⟩ := a
  obtain ⟨x', y', s'⟩ := b
  simp only [okSq] at ha hb
  have h1 : IntKind.i64.wrap (y - y') = y - y' := wrap_i64 _ (by omega) (by omega)
  have h2 : IntKind.i64.wrap (x - x') = x - x' := wrap_i64 _ (by omega) (by omega)
  refine fn_of_body (G := G) Try.func132 rfl (by decide) (Nat.le_of_ble_eq_true rfl) ?_
  conv => whnf
  repeat' first
    | exact True.intro
    | (refine draw_mkF ?_ ?_ ?_; (focus (decide +kernel)); (focus (kernel_rfl)); conv => whnf)
    | (refine Both.mk ?_ ?_ <;> conv => whnf)
    | (refine OwnQ.own ?_; conv => whnf)
    | (refine NilQ.mk (fun hnil => ?_) ?_ <;> conv => whnf)
    | (refine draw_mk (by kernel_rfl) ?_; conv => whnf)
    | (refine Br.mk (fun hb => ?_) (fun hb => ?_) <;> conv => whnf)
    | (refine And.intro ?_ ?_; (focus (first | decide | omega | (simp at *; omega) | (simp_all; done))); conv => whnf)
  all_goals first | (simp_all [resOK_iff, resVs, resCell, resCells, refVs, refCV, refCs, cfP]; done) | (simp_all [resOK_iff, resVs, resCell, resCells, refVs, refCV, refCs, cfP]; omega)

theorem row_at {L : List S3} {p : Nat} (h : p < L.length) : (L.map r3)[p]? = some [dI (gD L p).1, dI (gD L p).2.1, dI (gD L p).2.2] := by
  rw [List.getElem?_map, gD_at h]; rfl

theorem ok_at {L : List S3} (h : ∀ x ∈ L, okSq x) {p : Nat} (hp : p < L.length) : okSq (gD L p) := by
  rw [gD_get hp]; exact h _ (List.getElem_mem hp)

theorem swap_rows {L : List S3} {i j : Nat} : ((L.map r3).set i [dI (gD L j).1, dI (gD L j).2.1, dI (gD L j).2.2]).set j [dI (gD L i).1, dI (gD L i).2.1, dI (gD L i).2.2] = (swapL L i j).map r3 := by
  unfold swapL
  rw [List.map_set, List.map_set]; rfl

theorem Seg.ok {a b : Nat} {l L : List S3} (h : Seg a b l L) (hok : ∀ x ∈ l, okSq x) : ∀ x ∈ L, okSq x := fun x hx => hok x (h.perm.mem_iff.1 hx)

theorem insertion_min (l : List S3) (a b : Nat) (cap : Option Nat) (hb : b ≤ l.length) (hl : l.length ≤ 2 ^ 30) (hok : ∀ x ∈ l, okSq x) (hal : a ≤ 2 ^ 30) :
    CallX G.P 157 [.c (.sl 0 0 3 0 l.length cap), .c (vI a), .c (vI b), .c (.fn 132 [])] [(0, .arr 3 (l.map r3))]
      (fun sv objs' => sv = .tup [] ∧ ∃ L gs, Seg a b l L ∧ AscR lessB a b L ∧ objs' = (0, .arr 3 (L.map r3)) :: gs) := by
  refine call_body (G := G) Try.func157 rfl (by decide) (Nat.le_of_ble_eq_true rfl) ?_
  conv => whnf
  have hwa : IntKind.i64.wrap ((a : Int) + 1) = ((a + 1 : Nat) : Int) := by rw [wrap_i64 _ (by omega) (by omega)]; omega
  rw [hwa]
  refine .inl ⟨Nat × List S3, fun x => b + 1 - x.1, fun x => a + 1 ≤ x.1 ∧ (x.1 ≤ b ∨ x.1 = a + 1) ∧ Seg a b l x.2 ∧ AscR lessB a x.1 x.2,
    fun x => ⟨[(0, .one (.c (.sl 0 0 3 0 l.length cap))), (2, .one (.c (vI b))), (1, .one (.c (vI a))), (3, .one (.c (.fn 132 []))), (8, .one (.c (vI x.1)))], [(0, .arr 3 (x.2.map r3))], _⟩,
    (a + 1, l), ⟨Nat.le_refl _, .inr rfl, Seg.refl a b l, fun p q h1 h2 h3 => by omega⟩, weak_of rfl ?_ rfl (Nat.le_of_ble_eq_true rfl), ?_⟩
  · (repeat' first | exact rfl | exact trivial | apply And.intro | (simp [getE]; done))
  rintro ⟨i, L⟩ ⟨h1, h2, hseg, hasc⟩
  dsimp only at h1 h2 hseg hasc ⊢
  have hLl := hseg.len
  conv => whnf
  refine Br.mk (fun hbb => ?_) (fun hbb => ?_) <;> conv => whnf
  · have hib : i < b := by simp at hbb; omega
    refine .inl ⟨Nat × List S3, fun x => x.1, fun x => a ≤ x.1 ∧ x.1 ≤ i ∧ Seg a b l x.2 ∧ InsR lessB a i x.1 x.2,
      fun x => ⟨[(0, .one (.c (.sl 0 0 3 0 l.length cap))), (2, .one (.c (vI b))), (1, .one (.c (vI a))), (3, .one (.c (.fn 132 []))), (8, .one (.c (vI i))), (9, .one (.c (vI x.1)))], [(0, .arr 3 (x.2.map r3))], _⟩,
      (i, L), ⟨by show a ≤ i; omega, Nat.le_refl _, hseg, .start hasc⟩, weak_of rfl ?_ rfl (Nat.le_of_ble_eq_true rfl), ?_⟩
    · (repeat' first | exact rfl | exact trivial | apply And.intro | (simp [getE]; done))
    clear hseg hasc hLl
    rintro ⟨j, L⟩ ⟨k1, k2, hseg, hins⟩
    dsimp only at k1 k2 hseg hins ⊢
    have hLl := hseg.len
    conv => whnf
    by_cases hja : a < j
    · have hwj : IntKind.i64.wrap ((j : Int) - 1) = ((j - 1 : Nat) : Int) := by rw [wrap_i64 _ (by omega) (by omega)]; omega
      have hj1 : (L.map r3)[0 + ((j : Int)).toNat]? = some [dI (gD L j).1, dI (gD L j).2.1, dI (gD L j).2.2] := by
        rw [Nat.zero_add, Int.toNat_natCast]; exact row_at (by omega)
      have hj2 : (L.map r3)[0 + (IntKind.i64.wrap ((j : Int) - 1)).toNat]? = some [dI (gD L (j - 1)).1, dI (gD L (j - 1)).2.1, dI (gD L (j - 1)).2.2] := by
        rw [hwj, Nat.zero_add, Int.toNat_natCast]; exact row_at (by omega)
      have hcmp := compare_ok (gD L j) (gD L (j - 1)) (ok_at (hseg.ok hok) (by omega)) (ok_at (hseg.ok hok) (by omega))
      have hcl := cfP_lt (gD L j) (gD L (j - 1))
      refine draw_mk (by kernel_rfl) ?_
      conv => whnf
      repeat' first
        | (refine El.get hj2 ?_; conv => whnf)
        | (refine El.get hj1 ?_; conv => whnf)
        | exact True.intro
        | (refine Both.mk ?_ ?_ <;> conv => whnf)
        | (refine OwnQ.own ?_; conv => whnf)
        | (refine NilQ.mk (fun hnil => ?_) ?_ <;> conv => whnf)
        | (refine Br.mk (fun hb => ?_) (fun hb => ?_) <;> conv => whnf)
        | (refine call_sn ?_ (hcmp) ?_; (focus ((repeat' first | exact snapRow | exact snap_row (by simp; done) | exact rfl | exact trivial | apply And.intro | omega | (simp; done)); done)); conv => whnf)
        | (refine callP_sn ?_ (hcmp) ?_; (focus ((repeat' first | exact snapRow | exact snap_row (by simp; done) | exact rfl | exact trivial | apply And.intro | omega | (simp; done)); done)); conv => whnf)
        | (refine And.intro ?_ ?_; (focus (first | decide | omega | (simp [contentOK, objRd, objAt, peel, List.length_map, hwj, hLl]; done) | (simp [contentOK, objRd, objAt, peel, List.length_map, hwj, hLl]; omega) | (simp [contentOK, objRd, objAt, peel, List.length_map, hwj, hLl] at *; omega))); conv => whnf)
      · rename_i hjj
        clear hjj
        have hlt : lessB (gD L j) (gD L (j - 1)) = true := by rw [← hcl]; exact hb
        have hsw := swap_seg (a := a) (b := b) (i := j) (j := j - 1) (L := L) (by omega) (by omega) (by omega) (by omega)
        have hins2 := hins.step (by omega) k2 hja hlt
        repeat' first
          | (refine draw_mkW (by kernel_rfl) ?_; conv => whnf)
          | (refine El.get hj2 ?_; conv => whnf)
          | (refine El.get hj1 ?_; conv => whnf)
          | exact True.intro
          | (refine Both.mk ?_ ?_ <;> conv => whnf)
          | (refine OwnQ.own ?_; conv => whnf)
          | (refine NilQ.mk (fun hnil => ?_) ?_ <;> conv => whnf)
          | (refine Br.mk (fun hb => ?_) (fun hb => ?_) <;> conv => whnf)
          | (refine And.intro ?_ ?_; (focus (first | decide | omega | (simp [contentOK, objRd, objAt, peel, List.length_map, hwj, hLl]; done) | (simp [contentOK, objRd, objAt, peel, List.length_map, hwj, hLl]; omega) | (simp [contentOK, objRd, objAt, peel, List.length_map, hwj, hLl] at *; omega))); conv => whnf)
          | (refine And.intro ?_ ?_ <;> conv => whnf)
        all_goals
          refine ⟨(j - 1, swapL L j (j - 1)), ⟨by show a ≤ j - 1; omega, by show j - 1 ≤ i; omega, hseg.trans hsw, hins2⟩, by show j - 1 < j; omega, weak_of ?_ ?_ rfl (Nat.le_of_ble_eq_true rfl)⟩
          · rw [hwj, Nat.zero_add, Nat.zero_add, Int.toNat_natCast, Int.toNat_natCast]
            exact congrArg (fun z => [(0, OB.arr 3 z)]) swap_rows
          · rw [hwj]
            (repeat' first | exact rfl | exact trivial | apply And.intro | (simp [getE]; done))
      · have hasc2 := hins.stop lessB_asym lessB_ntrans k1 (.inr (by rw [← hcl]; exact hb))
        have hwi : IntKind.i64.wrap ((i : Int) + 1) = ((i + 1 : Nat) : Int) := by rw [wrap_i64 _ (by omega) (by omega)]; omega
        refine ⟨(i + 1, L), ⟨by show a + 1 ≤ i + 1; omega, .inl (by show i + 1 ≤ b; omega), hseg, hasc2⟩, by show b + 1 - (i + 1) < b + 1 - i; omega, weak_of rfl ?_ rfl (Nat.le_of_ble_eq_true rfl)⟩
        rw [hwi]
        (repeat' first | exact rfl | exact trivial | apply And.intro | (simp [getE]; done))
      · simp at hb; omega
    · have hja' : j = a := by omega
      refine draw_mk (by kernel_rfl) ?_
      conv => whnf
      refine Br.mk (fun hb1 => ?_) (fun hb1 => ?_) <;> conv => whnf
      · simp at hb1; omega
      have hasc2 := hins.stop lessB_asym lessB_ntrans k1 (.inl hja')
      have hwi : IntKind.i64.wrap ((i : Int) + 1) = ((i + 1 : Nat) : Int) := by rw [wrap_i64 _ (by omega) (by omega)]; omega
      refine ⟨(i + 1, L), ⟨by show a + 1 ≤ i + 1; omega, .inl (by show i + 1 ≤ b; omega), hseg, hasc2⟩, by show b + 1 - (i + 1) < b + 1 - i; omega, weak_of rfl ?_ rfl (Nat.le_of_ble_eq_true rfl)⟩
      rw [hwi]
      (repeat' first | exact rfl | exact trivial | apply And.intro | (simp [getE]; done))
  · have hbi : b ≤ i := by simp at hbb; omega
    refine ⟨rfl, L, [], hseg, fun p q q1 q2 q3 => hasc p q q1 q2 (by omega), rfl⟩

end Go.Proofs.Ytmfdkjjhdjkgpaa

namespace Go.Proofs.Ytmfdkjjhdjkgpaa
open Go Go.RowKit
set_option maxRecDepth 10000
set_option maxHeartbeats 1000000
set_option linter.unusedSimpArgs false

theorem swapRange_min (l : List S3) (a b n : Nat) (cap : Option Nat) (h1 : a + n ≤ b) (h2 : b + n ≤ l.length) (hl : l.length ≤ 2 ^ 30) :
    CallX G.P 171 [.c (.sl 0 0 3 0 l.length cap), .c (vI a), .c (vI b), .c (vI n), .c (.fn 132 [])] [(0, .arr 3 (l.map r3))]
      (fun sv objs' => sv = .tup [] ∧ ∃ gs, objs' = (0, .arr 3 ((swR l a b n).map r3)) :: gs) := by
  refine call_body (G := G) Try.func171 rfl (by decide) (Nat.le_of_ble_eq_true rfl) ?_
  conv => whnf
  refine .inl ⟨Nat, fun i => n - i, fun i => i ≤ n,
    fun i => ⟨[(0, .one (.c (.sl 0 0 3 0 l.length cap))), (1, .one (.c (vI a))), (2, .one (.c (vI b))), (3, .one (.c (vI n))), (10, .one (.c (vI i)))], [(0, .arr 3 ((swR l a b i).map r3))], _⟩,
    0, Nat.zero_le _, weak_of rfl ?_ rfl (Nat.le_of_ble_eq_true rfl), fun i hi => ?_⟩
  · (repeat' first | exact rfl | exact trivial | apply And.intro | (simp [getE]; done))
  replace hi : i ≤ n := hi
  have hll := swR_len l a b i
  conv => whnf
  refine Br.mk (fun hb => ?_) (fun hb => ?_) <;> conv => whnf
  · have hin : i < n := by simp at hb; omega
    have hw1 : IntKind.i64.wrap ((a : Int) + (i : Int)) = ((a + i : Nat) : Int) := by rw [wrap_i64 _ (by omega) (by omega)]; omega
    have hw2 : IntKind.i64.wrap ((b : Int) + (i : Int)) = ((b + i : Nat) : Int) := by rw [wrap_i64 _ (by omega) (by omega)]; omega
    have hwi : IntKind.i64.wrap ((i : Int) + 1) = ((i + 1 : Nat) : Int) := by rw [wrap_i64 _ (by omega) (by omega)]; omega
    have he1 : ((swR l a b i).map r3)[0 + (IntKind.i64.wrap ((a : Int) + (i : Int))).toNat]? = some [dI (gD (swR l a b i) (a + i)).1, dI (gD (swR l a b i) (a + i)).2.1, dI (gD (swR l a b i) (a + i)).2.2] := by
      rw [hw1, Nat.zero_add, Int.toNat_natCast]; exact row_at (by omega)
    have he2 : ((swR l a b i).map r3)[0 + (IntKind.i64.wrap ((b : Int) + (i : Int))).toNat]? = some [dI (gD (swR l a b i) (b + i)).1, dI (gD (swR l a b i) (b + i)).2.1, dI (gD (swR l a b i) (b + i)).2.2] := by
      rw [hw2, Nat.zero_add, Int.toNat_natCast]; exact row_at (by omega)
    repeat' first
      | (refine draw_mkW (by kernel_rfl) ?_; conv => whnf)
      | (refine El.get he2 ?_; conv => whnf)
      | (refine El.get he1 ?_; conv => whnf)
      | exact True.intro
      | (refine Both.mk ?_ ?_ <;> conv => whnf)
      | (refine OwnQ.own ?_; conv => whnf)
      | (refine NilQ.mk (fun hnil => ?_) ?_ <;> conv => whnf)
      | (refine Br.mk (fun hb => ?_) (fun hb => ?_) <;> conv => whnf)
      | (refine And.intro ?_ ?_; (focus (first | decide | omega | (simp [contentOK, objRd, objAt, peel, List.length_map, hw1, hw2, hll]; done) | (simp [contentOK, objRd, objAt, peel, List.length_map, hw1, hw2, hll]; omega) | (simp [contentOK, objRd, objAt, peel, List.length_map, hw1, hw2, hll] at *; omega))); conv => whnf)
      | (refine And.intro ?_ ?_ <;> conv => whnf)
    all_goals
      refine ⟨i + 1, (by omega : i + 1 ≤ n), (by omega : n - (i + 1) < n - i), weak_of ?_ ?_ rfl (Nat.le_of_ble_eq_true rfl)⟩
      · rw [hw1, hw2, Nat.zero_add, Nat.zero_add, Int.toNat_natCast, Int.toNat_natCast]
        exact congrArg (fun z => [(0, OB.arr 3 z)]) swap_rows
      · rw [hwi]
        (repeat' first | exact rfl | exact trivial | apply And.intro | (simp [getE]; done))
  · obtain rfl : i = n := by simp at hb; omega
    exact ⟨rfl, [], rfl⟩

theorem rotate_min (l : List S3) (a m b : Nat) (cap : Option Nat) (h1 : a < m) (h2 : m < b) (hb : b ≤ l.length) (hl : l.length ≤ 2 ^ 30) :
    CallX G.P 161 [.c (.sl 0 0 3 0 l.length cap), .c (vI a), .c (vI m), .c (vI b), .c (.fn 132 [])] [(0, .arr 3 (l.map r3))]
      (fun sv objs' => sv = .tup [] ∧ ∃ L gs, Seg a b l L ∧ (∀ p, gD L p = rotG l a m b p) ∧ objs' = (0, .arr 3 (L.map r3)) :: gs) := by
  refine call_body (G := G) Try.func161 rfl (by decide) (Nat.le_of_ble_eq_true rfl) ?_
  conv => whnf
  have hw1 : IntKind.i64.wrap ((b : Int) - (m : Int)) = ((b - m : Nat) : Int) := by rw [wrap_i64 _ (by omega) (by omega)]; omega
  have hw2 : IntKind.i64.wrap ((m : Int) - (a : Int)) = ((m - a : Nat) : Int) := by rw [wrap_i64 _ (by omega) (by omega)]; omega
  rw [hw1, hw2]
  refine .inl ⟨Nat × Nat × List S3, fun x => x.1 + x.2.1, fun x => 1 ≤ x.1 ∧ x.1 ≤ m - a ∧ 1 ≤ x.2.1 ∧ m + x.2.1 ≤ b ∧ Seg a b l x.2.2 ∧ ∀ p, rotG x.2.2 (m - x.1) m (m + x.2.1) p = rotG l a m b p,
    fun x => ⟨[(0, .one (.c (.sl 0 0 3 0 l.length cap))), (2, .one (.c (vI m))), (4, .one (.c (.fn 132 []))), (10, .one (.c (vI x.1))), (11, .one (.c (vI x.2.1)))], [(0, .arr 3 (x.2.2.map r3))], _⟩,
    (m - a, b - m, l), ⟨by show 1 ≤ m - a; omega, Nat.le_refl _, by show 1 ≤ b - m; omega, by show m + (b - m) ≤ b; omega, Seg.refl a b l, fun p => by show rotG l (m - (m - a)) m (m + (b - m)) p = _; rw [show m - (m - a) = a by omega, show m + (b - m) = b by omega]⟩, weak_of rfl ?_ rfl (Nat.le_of_ble_eq_true rfl), ?_⟩
  · (repeat' first | exact rfl | exact trivial | apply And.intro | (simp [getE]; done))
  rintro ⟨i, j, L⟩ ⟨k1, k2, k3, k4, hseg, hrot⟩
  dsimp only at k1 k2 k3 k4 hseg hrot ⊢
  have hLl := hseg.len
  have hv1 : IntKind.i64.wrap ((m : Int) - (i : Int)) = ((m - i : Nat) : Int) := by rw [wrap_i64 _ (by omega) (by omega)]; omega
  have hv2 : IntKind.i64.wrap ((m : Int) + (j : Int)) = ((m + j : Nat) : Int) := by rw [wrap_i64 _ (by omega) (by omega)]; omega
  conv => whnf
  refine Br.mk (fun hb1 => ?_) (fun hb1 => ?_) <;> conv => whnf
  · have hne : i ≠ j := by simp at hb1; omega
    refine Br.mk (fun hb2 => ?_) (fun hb2 => ?_) <;> conv => whnf
    · have hij : j < i := by simp at hb2; omega
      have hv3 : IntKind.i64.wrap ((i : Int) - (j : Int)) = ((i - j : Nat) : Int) := by rw [wrap_i64 _ (by omega) (by omega)]; omega
      have hsw := swapRange_min L (m - i) m j cap (by omega) (by omega) (by omega)
      rw [hv1, ← hLl]
      refine frameN [0] hsw rfl (by decide) ⟨rfl, rfl⟩ rfl ?_
      rintro _ _ ⟨rfl, gs, rfl⟩
      refine ⟨[_], gs, rfl, Nat.le_refl _, rfl, ?_⟩
      conv => whnf
      refine ⟨(i - j, j, swR L (m - i) m j), ⟨by show 1 ≤ i - j; omega, by show i - j ≤ m - a; omega, k3, k4, hseg.trans (swR_seg j (by omega) (by omega) (by omega) (by omega)), fun p => (rot_left hij (by omega) k3 (by omega) p).trans (hrot p)⟩, by show i - j + j < i + j; omega, weak_of rfl ?_ rfl (Nat.le_of_ble_eq_true rfl)⟩
      rw [hv3, hLl]
      (repeat' first | exact rfl | exact trivial | apply And.intro | (simp [getE]; done))
    · have hij : i < j := by simp at hb2; omega
      have hv3 : IntKind.i64.wrap ((j : Int) - (i : Int)) = ((j - i : Nat) : Int) := by rw [wrap_i64 _ (by omega) (by omega)]; omega
      have hv4 : IntKind.i64.wrap (((m + j : Nat) : Int) - (i : Int)) = ((m + j - i : Nat) : Int) := by rw [wrap_i64 _ (by omega) (by omega)]; omega
      have hsw := swapRange_min L (m - i) (m + j - i) i cap (by omega) (by omega) (by omega)
      rw [hv1, hv2, hv4, ← hLl]
      refine frameN [0] hsw rfl (by decide) ⟨rfl, rfl⟩ rfl ?_
      rintro _ _ ⟨rfl, gs, rfl⟩
      refine ⟨[_], gs, rfl, Nat.le_refl _, rfl, ?_⟩
      conv => whnf
      refine ⟨(i, j - i, swR L (m - i) (m + j - i) i), ⟨k1, k2, by show 1 ≤ j - i; omega, by show m + (j - i) ≤ b; omega, hseg.trans (swR_seg i (by omega) (by omega) (by omega) (by omega)), fun p => (rot_right hij (by omega) k1 (by omega) p).trans (hrot p)⟩, by show i + (j - i) < i + j; omega, weak_of rfl ?_ rfl (Nat.le_of_ble_eq_true rfl)⟩
      rw [hv3, hLl]
      (repeat' first | exact rfl | exact trivial | apply And.intro | (simp [getE]; done))
  · have hij : i = j := by simp at hb1; omega
    subst hij
    have hsw := swapRange_min L (m - i) m i cap (by omega) (by omega) (by omega)
    rw [hv1, ← hLl]
    refine frameN [0] hsw rfl (by decide) ⟨rfl, rfl⟩ rfl ?_
    rintro _ _ ⟨rfl, gs, rfl⟩
    refine ⟨[_], gs, rfl, Nat.le_refl _, rfl, ?_⟩
    conv => whnf
    exact ⟨rfl, swR L (m - i) m i, [], hseg.trans (swR_seg i (by omega) (by omega) (by omega) (by omega)), fun p => (rot_end (by omega) (by omega) p).trans (hrot p), rfl⟩

end Go.Proofs.Ytmfdkjjhdjkgpaa

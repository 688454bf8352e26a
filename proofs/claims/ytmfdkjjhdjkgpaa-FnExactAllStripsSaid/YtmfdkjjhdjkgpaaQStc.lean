/- The library's stable sorting at squares: merging in place. -/
import Derived.Test.YtmfdkjjhdjkgpaaQZr
import Derived.Test.YtmfdkjjhdjkgpaaQZs
namespace Go.Proofs.Ytmfdkjjhdjkgpaa
open Go Go.RowKit
set_option maxRecDepth 10000
set_option maxHeartbeats 4000000
set_option linter.unusedSimpArgs false

/-- The middle of two numbers, as the library has it. -/
theorem mid_ok {i j : Nat} (h : i + j ≤ 2 ^ 40) : IntKind.i64.wrap ((IntKind.u64.wrap (IntKind.i64.wrap ((i : Int) + (j : Int)))).fdiv (2 ^ (min (1 : Int).toNat IntKind.u64.bits))) = (((i + j) / 2 : Nat) : Int) := by
  have e1 : IntKind.i64.wrap ((i : Int) + (j : Int)) = ((i + j : Nat) : Int) := by rw [wrap_i64 _ (by omega) (by omega)]; omega
  have eu : ∀ n : Nat, n ≤ 2 ^ 40 → IntKind.u64.wrap (n : Int) = n := fun n hn => by
    simp [IntKind.wrap, IntKind.bits, IntKind.signed]
    omega
  have e2 : ((((i + j : Nat) : Int)).fdiv (2 ^ (min (1 : Int).toNat IntKind.u64.bits))) = (((i + j) / 2 : Nat) : Int) := by
    show Int.fdiv _ 2 = _
    rw [Int.fdiv_eq_ediv_of_nonneg _ (by omega)]
    omega
  rw [e1, eu _ h, e2, wrap_i64 _ (by omega) (by omega)]

theorem go_both {ι : Type} {Pr : ι → Prop} {T : ι → Prop} {Goal : Prop} (main : (∀ x, Pr x → T x) → Goal) (body : ∀ x, Pr x → T x) : Goal := main body

theorem rot_triv {L : List S3} {a m b p : Nat} (h1 : a ≤ m) (h2 : m ≤ b) (h : a = m ∨ m = b) : rotG L a m b p = gD L p := by
  unfold rotG
  rcases h with rfl | rfl
  · by_cases c : a ≤ p ∧ p < a + (b - a)
    · rw [if_pos c, show p - a + a = p by omega]
    · rw [if_neg c, if_neg (show ¬ (a + (b - a) ≤ p ∧ p < b) by omega)]
  · rw [if_neg (show ¬ (a ≤ p ∧ p < a + (m - m)) by omega)]
    split
    · rw [show p - (m - m) = p by omega]
    · rfl

/-- What merging does: each half in order, then all. -/
def MergeOK (l : List S3) (a m b : Nat) (cap : Option Nat) : Prop :=
    CallX G.P 158 [.c (.sl 0 0 3 0 l.length cap), .c (vI a), .c (vI m), .c (vI b), .c (.fn 132 [])] [(0, .arr 3 (l.map r3))]
      (fun sv objs' => sv = .tup [] ∧ ∃ L gs, Seg a b l L ∧ AscR lessB a b L ∧ objs' = (0, .arr 3 (L.map r3)) :: gs)

theorem merge_rec : ∀ (n : Nat) (l : List S3) (a m b : Nat) (cap : Option Nat), b - a < n → a < m → m < b → b ≤ l.length → l.length ≤ 2 ^ 30 → (∀ x ∈ l, okSq x) → AscR lessB a m l → AscR lessB m b l → MergeOK l a m b cap
  | 0, _, _, _, _, _, hn, _, _, _, _, _, _, _ => by omega
  | n + 1, l, a, m, b, cap, hn, ham, hmb, hbl, hl, hok, hA, hB => by
    unfold MergeOK
    refine call_body (G := G) Try.func158 rfl (by decide) (Nat.le_of_ble_eq_true rfl) ?_
    conv => whnf
    refine Br.mk (fun hb => ?_) (fun hb => ?_) <;> conv => whnf
    · have hma : m = a + 1 := by rw [wrap_i64 _ (by omega) (by omega)] at hb; simp at hb; omega
      refine .inl ⟨Nat × Nat, fun x => x.2 - x.1, fun x => m ≤ x.1 ∧ x.1 ≤ x.2 ∧ x.2 ≤ b ∧ (∀ p, m ≤ p → p < x.1 → lessB (gD l p) (gD l a) = true) ∧ ∀ p, x.2 ≤ p → p < b → lessB (gD l p) (gD l a) = false,
        fun x => ⟨[(0, .one (.c (.sl 0 0 3 0 l.length cap))), (1, .one (.c (vI a))), (3, .one (.c (vI b))), (4, .one (.c (.fn 132 []))), (10, .one (.c (vI x.1))), (11, .one (.c (vI x.2)))], [(0, .arr 3 (l.map r3))], _⟩,
        (m, b), ⟨Nat.le_refl _, by show m ≤ b; omega, Nat.le_refl _, fun p h1 h2 => by omega, fun p h1 h2 => by omega⟩, weak_of rfl ?_ rfl (Nat.le_of_ble_eq_true rfl), ?_⟩
      · (repeat' first | exact rfl | exact trivial | apply And.intro | (simp [getE]; done))
      rintro ⟨i, j⟩ ⟨k1, k2, k3, k4, k5⟩
      dsimp only at k1 k2 k3 k4 k5 ⊢
      conv => whnf
      refine Br.mk (fun hb1 => ?_) (fun hb1 => ?_) <;> conv => whnf
      · have hij : i < j := by simp at hb1; omega
        have hmid := mid_ok (i := i) (j := j) (by omega)
        obtain ⟨h, hh⟩ : ∃ h, h = (i + j) / 2 := ⟨_, rfl⟩
        rw [← hh] at hmid
        have hhi : i ≤ h ∧ h < j := by omega
        refine ⟨by decide, ?_⟩
        conv => whnf
        rw [hmid]
        have hw1 : IntKind.i64.wrap ((h : Int) + 1) = ((h + 1 : Nat) : Int) := by rw [wrap_i64 _ (by omega) (by omega)]; omega
        have e1 : (l.map r3)[0 + ((h : Int)).toNat]? = some [dI (gD l h).1, dI (gD l h).2.1, dI (gD l h).2.2] := by rw [Nat.zero_add, Int.toNat_natCast]; exact row_at (by omega)
        have e2 : (l.map r3)[0 + ((a : Int)).toNat]? = some [dI (gD l a).1, dI (gD l a).2.1, dI (gD l a).2.2] := by rw [Nat.zero_add, Int.toNat_natCast]; exact row_at (by omega)
        have hcmp := compare_ok (gD l h) (gD l a) (ok_at hok (by omega)) (ok_at hok (by omega))
        have hcl := cfP_lt (gD l h) (gD l a)
        refine draw_mk (by kernel_rfl) ?_
        conv => whnf
        repeat' first
          | (refine El.get e2 ?_; conv => whnf)
          | (refine El.get e1 ?_; conv => whnf)
          | exact True.intro
          | (refine Both.mk ?_ ?_ <;> conv => whnf)
          | (refine OwnQ.own ?_; conv => whnf)
          | (refine NilQ.mk (fun hnil => ?_) ?_ <;> conv => whnf)
          | (refine Br.mk (fun hb => ?_) (fun hb => ?_) <;> conv => whnf)
          | (refine call_sn ?_ (hcmp) ?_; (focus ((repeat' first | exact snapRow | exact snap_row (by simp; done) | exact rfl | exact trivial | apply And.intro | omega | (simp; done)); done)); conv => whnf)
          | (refine callP_sn ?_ (hcmp) ?_; (focus ((repeat' first | exact snapRow | exact snap_row (by simp; done) | exact rfl | exact trivial | apply And.intro | omega | (simp; done)); done)); conv => whnf)
          | (refine And.intro ?_ ?_; (focus (first | decide | omega | (simp [contentOK, objRd, objAt, peel, List.length_map]; done) | (simp [contentOK, objRd, objAt, peel, List.length_map]; omega) | (simp [contentOK, objRd, objAt, peel, List.length_map] at *; omega))); conv => whnf)
        · have hlt : lessB (gD l h) (gD l a) = true := by rw [← hcl]; assumption
          refine ⟨(h + 1, j), ⟨by show m ≤ h + 1; omega, by show h + 1 ≤ j; omega, k3, fun p q1 q2 => ?_, k5⟩, by show j - (h + 1) < j - i; omega, weak_of rfl ?_ rfl (Nat.le_of_ble_eq_true rfl)⟩
          · replace q2 : p < h + 1 := q2
            by_cases hp : p = h
            · subst hp; exact hlt
            · cases hc : lessB (gD l p) (gD l a) with
              | true => rfl
              | false =>
                have := lessB_ntrans _ _ _ (hB p h (by omega) (by omega) (by omega)) hc
                rw [hlt] at this; cases this
          · rw [hw1]
            (repeat' first | exact rfl | exact trivial | apply And.intro | (simp [getE]; done))
        · have hlt : lessB (gD l h) (gD l a) = false := by rw [← hcl]; assumption
          refine ⟨(i, h), ⟨k1, hhi.1, by show h ≤ b; omega, k4, fun p q1 q2 => ?_⟩, by show h - i < j - i; omega, weak_of rfl ?_ rfl (Nat.le_of_ble_eq_true rfl)⟩
          · replace q1 : h ≤ p := q1
            by_cases hp : p = h
            · subst hp; exact hlt
            · exact lessB_ntrans _ _ _ (hB h p (by omega) (by omega) q2) hlt
          · (repeat' first | exact rfl | exact trivial | apply And.intro | (simp [getE]; done))
      · have hij : i = j := by simp at hb1; omega
        subst hij
        refine .inl ⟨Nat × List S3, fun x => i - 1 - x.1, fun x => a ≤ x.1 ∧ x.1 ≤ i - 1 ∧ Seg a b l x.2 ∧ UpR l x.2 a x.1,
          fun x => ⟨[(0, .one (.c (.sl 0 0 3 0 l.length cap))), (10, .one (.c (vI i))), (13, .one (.c (vI x.1)))], [(0, .arr 3 (x.2.map r3))], _⟩,
          (a, l), ⟨Nat.le_refl _, by show a ≤ i - 1; omega, Seg.refl _ _ _, .start l a⟩, weak_of rfl ?_ rfl (Nat.le_of_ble_eq_true rfl), ?_⟩
        · (repeat' first | exact rfl | exact trivial | apply And.intro | (simp [getE]; done))
        have hwi : IntKind.i64.wrap ((i : Int) - 1) = ((i - 1 : Nat) : Int) := by rw [wrap_i64 _ (by omega) (by omega)]; omega
        rintro ⟨k, L⟩ ⟨c1, c2, hseg, hup⟩
        dsimp only at c1 c2 hseg hup ⊢
        have hLl := hseg.len
        have hwk : IntKind.i64.wrap ((k : Int) + 1) = ((k + 1 : Nat) : Int) := by rw [wrap_i64 _ (by omega) (by omega)]; omega
        conv => whnf
        refine Br.mk (fun hb3 => ?_) (fun hb3 => ?_) <;> conv => whnf
        · have hki : k < i - 1 := by rw [hwi] at hb3; simp at hb3; omega
          have e1 : (L.map r3)[0 + ((k : Int)).toNat]? = some [dI (gD L k).1, dI (gD L k).2.1, dI (gD L k).2.2] := by rw [Nat.zero_add, Int.toNat_natCast]; exact row_at (by omega)
          have e2 : (L.map r3)[0 + (IntKind.i64.wrap ((k : Int) + 1)).toNat]? = some [dI (gD L (k + 1)).1, dI (gD L (k + 1)).2.1, dI (gD L (k + 1)).2.2] := by rw [hwk, Nat.zero_add, Int.toNat_natCast]; exact row_at (by omega)
          repeat' first
            | (refine draw_mkW (by kernel_rfl) ?_; conv => whnf)
            | (refine El.get e2 ?_; conv => whnf)
            | (refine El.get e1 ?_; conv => whnf)
            | exact True.intro
            | (refine Both.mk ?_ ?_ <;> conv => whnf)
            | (refine OwnQ.own ?_; conv => whnf)
            | (refine NilQ.mk (fun hnil => ?_) ?_ <;> conv => whnf)
            | (refine Br.mk (fun hb => ?_) (fun hb => ?_) <;> conv => whnf)
            | (refine And.intro ?_ ?_; (focus (first | decide | omega | (simp [contentOK, objRd, objAt, peel, List.length_map, hwk, hLl]; done) | (simp [contentOK, objRd, objAt, peel, List.length_map, hwk, hLl]; omega) | (simp [contentOK, objRd, objAt, peel, List.length_map, hwk, hLl] at *; omega))); conv => whnf)
            | (refine And.intro ?_ ?_ <;> conv => whnf)
          all_goals
            refine ⟨(k + 1, swapL L k (k + 1)), ⟨by show a ≤ k + 1; omega, by show k + 1 ≤ i - 1; omega, hseg.trans (swap_seg (by omega) (by omega) (by omega) (by omega)), hup.step c1 (by omega)⟩, by show i - 1 - (k + 1) < i - 1 - k; omega, weak_of ?_ ?_ rfl (Nat.le_of_ble_eq_true rfl)⟩
            · rw [hwk, Nat.zero_add, Nat.zero_add, Int.toNat_natCast, Int.toNat_natCast]
              exact congrArg (fun z => [(0, OB.arr 3 z)]) swap_rows
            · rw [hwk]
              (repeat' first | exact rfl | exact trivial | apply And.intro | (simp [getE]; done))
        · have hki : k = i - 1 := by rw [hwi] at hb3; simp at hb3; omega
          subst hki
          exact ⟨rfl, L, [], hseg, up_asc lessB_asym (fun p q q1 q2 q3 => hB p q (by omega) q2 q3) (by omega) k3 hup (fun p q1 q2 => k4 p (by omega) q2) k5, rfl⟩
    refine Br.mk (fun hb2 => ?_) (fun hb2 => ?_) <;> conv => whnf
    · have hbm : b = m + 1 := by rw [wrap_i64 _ (by omega) (by omega)] at hb2; simp at hb2; omega
      refine .inl ⟨Nat × Nat, fun x => x.2 - x.1, fun x => a ≤ x.1 ∧ x.1 ≤ x.2 ∧ x.2 ≤ m ∧ (∀ p, a ≤ p → p < x.1 → lessB (gD l m) (gD l p) = false) ∧ ∀ p, x.2 ≤ p → p < m → lessB (gD l m) (gD l p) = true,
        fun x => ⟨[(0, .one (.c (.sl 0 0 3 0 l.length cap))), (2, .one (.c (vI m))), (4, .one (.c (.fn 132 []))), (14, .one (.c (vI x.1))), (15, .one (.c (vI x.2)))], [(0, .arr 3 (l.map r3))], _⟩,
        (a, m), ⟨Nat.le_refl _, by show a ≤ m; omega, Nat.le_refl _, fun p h1 h2 => by omega, fun p h1 h2 => by omega⟩, weak_of rfl ?_ rfl (Nat.le_of_ble_eq_true rfl), ?_⟩
      · (repeat' first | exact rfl | exact trivial | apply And.intro | (simp [getE]; done))
      rintro ⟨i, j⟩ ⟨k1, k2, k3, k4, k5⟩
      dsimp only at k1 k2 k3 k4 k5 ⊢
      conv => whnf
      refine Br.mk (fun hb1 => ?_) (fun hb1 => ?_) <;> conv => whnf
      · have hij : i < j := by simp at hb1; omega
        have hmid := mid_ok (i := i) (j := j) (by omega)
        obtain ⟨h, hh⟩ : ∃ h, h = (i + j) / 2 := ⟨_, rfl⟩
        rw [← hh] at hmid
        have hhi : i ≤ h ∧ h < j := by omega
        refine ⟨by decide, ?_⟩
        conv => whnf
        rw [hmid]
        have hw1 : IntKind.i64.wrap ((h : Int) + 1) = ((h + 1 : Nat) : Int) := by rw [wrap_i64 _ (by omega) (by omega)]; omega
        have e1 : (l.map r3)[0 + ((h : Int)).toNat]? = some [dI (gD l h).1, dI (gD l h).2.1, dI (gD l h).2.2] := by rw [Nat.zero_add, Int.toNat_natCast]; exact row_at (by omega)
        have e2 : (l.map r3)[0 + ((m : Int)).toNat]? = some [dI (gD l m).1, dI (gD l m).2.1, dI (gD l m).2.2] := by rw [Nat.zero_add, Int.toNat_natCast]; exact row_at (by omega)
        have hcmp := compare_ok (gD l m) (gD l h) (ok_at hok (by omega)) (ok_at hok (by omega))
        have hcl := cfP_lt (gD l m) (gD l h)
        refine draw_mk (by kernel_rfl) ?_
        conv => whnf
        repeat' first
          | (refine El.get e2 ?_; conv => whnf)
          | (refine El.get e1 ?_; conv => whnf)
          | exact True.intro
          | (refine Both.mk ?_ ?_ <;> conv => whnf)
          | (refine OwnQ.own ?_; conv => whnf)
          | (refine NilQ.mk (fun hnil => ?_) ?_ <;> conv => whnf)
          | (refine Br.mk (fun hb => ?_) (fun hb => ?_) <;> conv => whnf)
          | (refine call_sn ?_ (hcmp) ?_; (focus ((repeat' first | exact snapRow | exact snap_row (by simp; done) | exact rfl | exact trivial | apply And.intro | omega | (simp; done)); done)); conv => whnf)
          | (refine callP_sn ?_ (hcmp) ?_; (focus ((repeat' first | exact snapRow | exact snap_row (by simp; done) | exact rfl | exact trivial | apply And.intro | omega | (simp; done)); done)); conv => whnf)
          | (refine And.intro ?_ ?_; (focus (first | decide | omega | (simp [contentOK, objRd, objAt, peel, List.length_map]; done) | (simp [contentOK, objRd, objAt, peel, List.length_map]; omega) | (simp [contentOK, objRd, objAt, peel, List.length_map] at *; omega))); conv => whnf)
        · have hq : (!decide (cfP (gD l m) (gD l h) < 0)) = true := by assumption
          have hlt : lessB (gD l m) (gD l h) = false := by rw [← hcl]; simpa using hq
          refine ⟨(h + 1, j), ⟨by show a ≤ h + 1; omega, by show h + 1 ≤ j; omega, k3, fun p q1 q2 => ?_, k5⟩, by show j - (h + 1) < j - i; omega, weak_of rfl ?_ rfl (Nat.le_of_ble_eq_true rfl)⟩
          · replace q2 : p < h + 1 := q2
            by_cases hp : p = h
            · subst hp; exact hlt
            · exact lessB_ntrans _ _ _ hlt (hA p h (by omega) (by omega) (by omega))
          · rw [hw1]
            (repeat' first | exact rfl | exact trivial | apply And.intro | (simp [getE]; done))
        · have hq : (!decide (cfP (gD l m) (gD l h) < 0)) = false := by assumption
          have hlt : lessB (gD l m) (gD l h) = true := by rw [← hcl]; simpa using hq
          refine ⟨(i, h), ⟨k1, hhi.1, by show h ≤ m; omega, k4, fun p q1 q2 => ?_⟩, by show h - i < j - i; omega, weak_of rfl ?_ rfl (Nat.le_of_ble_eq_true rfl)⟩
          · replace q1 : h ≤ p := q1
            by_cases hp : p = h
            · subst hp; exact hlt
            · cases hc : lessB (gD l m) (gD l p) with
              | true => rfl
              | false =>
                have := lessB_ntrans _ _ _ hc (hA h p (by omega) (by omega) q2)
                rw [hlt] at this; cases this
          · (repeat' first | exact rfl | exact trivial | apply And.intro | (simp [getE]; done))
      · have hij : i = j := by simp at hb1; omega
        subst hij
        refine .inl ⟨Nat × List S3, fun x => x.1 - i, fun x => i ≤ x.1 ∧ x.1 ≤ m ∧ Seg a b l x.2 ∧ DnR l x.2 m x.1,
          fun x => ⟨[(0, .one (.c (.sl 0 0 3 0 l.length cap))), (14, .one (.c (vI i))), (17, .one (.c (vI x.1)))], [(0, .arr 3 (x.2.map r3))], _⟩,
          (m, l), ⟨by show i ≤ m; omega, Nat.le_refl _, Seg.refl _ _ _, .start l m⟩, weak_of rfl ?_ rfl (Nat.le_of_ble_eq_true rfl), ?_⟩
        · (repeat' first | exact rfl | exact trivial | apply And.intro | (simp [getE]; done))
        rintro ⟨k, L⟩ ⟨c1, c2, hseg, hdn⟩
        dsimp only at c1 c2 hseg hdn ⊢
        have hLl := hseg.len
        conv => whnf
        refine Br.mk (fun hb3 => ?_) (fun hb3 => ?_) <;> conv => whnf
        · have hki : i < k := by simp at hb3; omega
          have hwk : IntKind.i64.wrap ((k : Int) - 1) = ((k - 1 : Nat) : Int) := by rw [wrap_i64 _ (by omega) (by omega)]; omega
          have e1 : (L.map r3)[0 + ((k : Int)).toNat]? = some [dI (gD L k).1, dI (gD L k).2.1, dI (gD L k).2.2] := by rw [Nat.zero_add, Int.toNat_natCast]; exact row_at (by omega)
          have e2 : (L.map r3)[0 + (IntKind.i64.wrap ((k : Int) - 1)).toNat]? = some [dI (gD L (k - 1)).1, dI (gD L (k - 1)).2.1, dI (gD L (k - 1)).2.2] := by rw [hwk, Nat.zero_add, Int.toNat_natCast]; exact row_at (by omega)
          repeat' first
            | (refine draw_mkW (by kernel_rfl) ?_; conv => whnf)
            | (refine El.get e2 ?_; conv => whnf)
            | (refine El.get e1 ?_; conv => whnf)
            | exact True.intro
            | (refine Both.mk ?_ ?_ <;> conv => whnf)
            | (refine OwnQ.own ?_; conv => whnf)
            | (refine NilQ.mk (fun hnil => ?_) ?_ <;> conv => whnf)
            | (refine Br.mk (fun hb => ?_) (fun hb => ?_) <;> conv => whnf)
            | (refine And.intro ?_ ?_; (focus (first | decide | omega | (simp [contentOK, objRd, objAt, peel, List.length_map, hwk, hLl]; done) | (simp [contentOK, objRd, objAt, peel, List.length_map, hwk, hLl]; omega) | (simp [contentOK, objRd, objAt, peel, List.length_map, hwk, hLl] at *; omega))); conv => whnf)
            | (refine And.intro ?_ ?_ <;> conv => whnf)
          all_goals
            refine ⟨(k - 1, swapL L k (k - 1)), ⟨by show i ≤ k - 1; omega, by show k - 1 ≤ m; omega, hseg.trans (swap_seg (by omega) (by omega) (by omega) (by omega)), hdn.step c2 (by omega) (by omega)⟩, by show k - 1 - i < k - i; omega, weak_of ?_ ?_ rfl (Nat.le_of_ble_eq_true rfl)⟩
            · rw [hwk, Nat.zero_add, Nat.zero_add, Int.toNat_natCast, Int.toNat_natCast]
              exact congrArg (fun z => [(0, OB.arr 3 z)]) swap_rows
            · rw [hwk]
              (repeat' first | exact rfl | exact trivial | apply And.intro | (simp [getE]; done))
        · have hki : k = i := by simp at hb3; omega
          subst hki
          refine ⟨rfl, L, [], hseg, ?_, rfl⟩
          rw [hbm]
          exact dn_asc lessB_asym hA (by omega) c2 hdn k4 k5
    have hma : a + 1 < m := by rw [wrap_i64 _ (by omega) (by omega)] at hb; simp at hb; omega
    have hmb2 : m + 1 < b := by rw [wrap_i64 _ (by omega) (by omega)] at hb2; simp at hb2; omega
    have hmid := mid_ok (i := a) (j := b) (by omega)
    obtain ⟨mid, hmd⟩ : ∃ h, h = (a + b) / 2 := ⟨_, rfl⟩
    rw [← hmd] at hmid
    refine ⟨by decide, ?_⟩
    conv => whnf
    rw [hmid]
    have hw1 : IntKind.i64.wrap ((mid : Int) + (m : Int)) = ((mid + m : Nat) : Int) := by rw [wrap_i64 _ (by omega) (by omega)]; omega
    have hw2 : IntKind.i64.wrap (((mid + m : Nat) : Int) - 1) = ((mid + m - 1 : Nat) : Int) := by rw [wrap_i64 _ (by omega) (by omega)]; omega
    have hw3 : IntKind.i64.wrap (((mid + m : Nat) : Int) - (b : Int)) = (mid : Int) + m - b := by rw [wrap_i64 _ (by omega) (by omega)]; omega
    apply go_both (Pr := fun x : Nat × Nat => a ≤ x.1 ∧ x.1 ≤ x.2 ∧ x.2 ≤ m ∧ x.2 ≤ mid ∧ mid + m ≤ b + x.1 ∧ (x.1 = a ∨ mid + m - x.1 = b ∨ lessB (gD l (mid + m - x.1)) (gD l (x.1 - 1)) = false) ∧ (x.2 = m ∨ x.2 = mid ∨ lessB (gD l (mid + m - 1 - x.2)) (gD l x.2) = true))
    · intro key
      refine Br.mk (fun hb3 => ?_) (fun hb3 => ?_) <;> conv => whnf
      · have hmm : mid < m := by simp at hb3; omega
        refine .inl ⟨Nat × Nat, fun x => x.2 - x.1, _, fun x => ⟨[(0, .one (.c (.sl 0 0 3 0 l.length cap))), (1, .one (.c (vI a))), (2, .one (.c (vI m))), (3, .one (.c (vI b))), (4, .one (.c (.fn 132 []))), (18, .one (.c (vI mid))), (19, .one (.c (vI ((mid + m : Nat) : Int)))), (20, .one (.c (vI x.1))), (21, .one (.c (vI x.2))), (22, .one (.c (vI ((mid + m - 1 : Nat) : Int))))], [(0, .arr 3 (l.map r3))], _⟩,
          (mid + m - b, mid), ⟨by show a ≤ mid + m - b; omega, by show mid + m - b ≤ mid; omega, by show mid ≤ m; omega, Nat.le_refl _, by show mid + m ≤ b + (mid + m - b); omega, ?_, .inr (.inl rfl)⟩, weak_of rfl ?_ rfl (Nat.le_of_ble_eq_true rfl), key⟩
        · have hw4 : (mid : Int) + m - b = ((mid + m - b : Nat) : Int) := by omega
          rw [hw1, hw2, hw3, hw4]
          (repeat' first | exact rfl | exact trivial | apply And.intro | (simp [getE]; done))
        · by_cases e : mid + m - b = a
          · exact .inl e
          · exact .inr (.inl (by show mid + m - (mid + m - b) = b; omega))
      · have hmm : m ≤ mid := by simp at hb3; omega
        refine .inl ⟨Nat × Nat, fun x => x.2 - x.1, _, fun x => ⟨[(0, .one (.c (.sl 0 0 3 0 l.length cap))), (1, .one (.c (vI a))), (2, .one (.c (vI m))), (3, .one (.c (vI b))), (4, .one (.c (.fn 132 []))), (18, .one (.c (vI mid))), (19, .one (.c (vI ((mid + m : Nat) : Int)))), (20, .one (.c (vI x.1))), (21, .one (.c (vI x.2))), (22, .one (.c (vI ((mid + m - 1 : Nat) : Int))))], [(0, .arr 3 (l.map r3))], _⟩,
          (a, m), ⟨Nat.le_refl _, by show a ≤ m; omega, Nat.le_refl _, hmm, by show mid + m ≤ b + a; omega, .inl rfl, .inl rfl⟩, weak_of rfl ?_ rfl (Nat.le_of_ble_eq_true rfl), key⟩
        rw [hw1, hw2]
        (repeat' first | exact rfl | exact trivial | apply And.intro | (simp [getE]; done))
    rintro ⟨st, r⟩ ⟨k1, k2, k3, k4, k5, k6, k7⟩
    dsimp only at k1 k2 k3 k4 k5 k6 k7 ⊢
    conv => whnf
    refine Br.mk (fun hb4 => ?_) (fun hb4 => ?_) <;> conv => whnf
    · have hij : st < r := by simp at hb4; omega
      have hmid2 := mid_ok (i := st) (j := r) (by omega)
      obtain ⟨h, hh⟩ : ∃ h, h = (st + r) / 2 := ⟨_, rfl⟩
      rw [← hh] at hmid2
      have hhi : st ≤ h ∧ h < r := by omega
      refine ⟨by decide, ?_⟩
      conv => whnf
      rw [hmid2]
      have hv1 : IntKind.i64.wrap ((h : Int) + 1) = ((h + 1 : Nat) : Int) := by rw [wrap_i64 _ (by omega) (by omega)]; omega
      have hv2 : IntKind.i64.wrap (((mid + m - 1 : Nat) : Int) - (h : Int)) = ((mid + m - 1 - h : Nat) : Int) := by rw [wrap_i64 _ (by omega) (by omega)]; omega
      have e1 : (l.map r3)[0 + ((h : Int)).toNat]? = some [dI (gD l h).1, dI (gD l h).2.1, dI (gD l h).2.2] := by rw [Nat.zero_add, Int.toNat_natCast]; exact row_at (by omega)
      have e2 : (l.map r3)[0 + (IntKind.i64.wrap (((mid + m - 1 : Nat) : Int) - (h : Int))).toNat]? = some [dI (gD l (mid + m - 1 - h)).1, dI (gD l (mid + m - 1 - h)).2.1, dI (gD l (mid + m - 1 - h)).2.2] := by rw [hv2, Nat.zero_add, Int.toNat_natCast]; exact row_at (by omega)
      have hcmp := compare_ok (gD l (mid + m - 1 - h)) (gD l h) (ok_at hok (by omega)) (ok_at hok (by omega))
      have hcl := cfP_lt (gD l (mid + m - 1 - h)) (gD l h)
      refine draw_mk (by kernel_rfl) ?_
      conv => whnf
      repeat' first
        | (refine El.get e2 ?_; conv => whnf)
        | (refine El.get e1 ?_; conv => whnf)
        | exact True.intro
        | (refine Both.mk ?_ ?_ <;> conv => whnf)
        | (refine OwnQ.own ?_; conv => whnf)
        | (refine NilQ.mk (fun hnil => ?_) ?_ <;> conv => whnf)
        | (refine Br.mk (fun hb => ?_) (fun hb => ?_) <;> conv => whnf)
        | (refine call_sn ?_ (hcmp) ?_; (focus ((repeat' first | exact snapRow | exact snap_row (by simp; done) | exact rfl | exact trivial | apply And.intro | omega | (simp; done)); done)); conv => whnf)
        | (refine callP_sn ?_ (hcmp) ?_; (focus ((repeat' first | exact snapRow | exact snap_row (by simp; done) | exact rfl | exact trivial | apply And.intro | omega | (simp; done)); done)); conv => whnf)
        | (refine And.intro ?_ ?_; (focus (first | decide | omega | (simp [contentOK, objRd, objAt, peel, List.length_map, hv2]; done) | (simp [contentOK, objRd, objAt, peel, List.length_map, hv2]; omega) | (simp [contentOK, objRd, objAt, peel, List.length_map, hv2] at *; omega))); conv => whnf)
      · have hq : (!decide (cfP (gD l (mid + m - 1 - h)) (gD l h) < 0)) = true := by assumption
        have hlt : lessB (gD l (mid + m - 1 - h)) (gD l h) = false := by rw [← hcl]; simpa using hq
        refine ⟨(h + 1, r), ⟨by show a ≤ h + 1; omega, by show h + 1 ≤ r; omega, k3, k4, by show mid + m ≤ b + (h + 1); omega, .inr (.inr ?_), k7⟩, by show r - (h + 1) < r - st; omega, weak_of rfl ?_ rfl (Nat.le_of_ble_eq_true rfl)⟩
        · show lessB (gD l (mid + m - (h + 1))) (gD l (h + 1 - 1)) = false
          rw [show mid + m - (h + 1) = mid + m - 1 - h by omega, show h + 1 - 1 = h by omega]
          exact hlt
        · rw [hv1]
          (repeat' first | exact rfl | exact trivial | apply And.intro | (simp [getE]; done))
      · have hq : (!decide (cfP (gD l (mid + m - 1 - h)) (gD l h) < 0)) = false := by assumption
        have hlt : lessB (gD l (mid + m - 1 - h)) (gD l h) = true := by rw [← hcl]; simpa using hq
        refine ⟨(st, h), ⟨k1, hhi.1, by show h ≤ m; omega, by show h ≤ mid; omega, k5, k6, .inr (.inr hlt)⟩, by show h - st < r - st; omega, weak_of rfl ?_ rfl (Nat.le_of_ble_eq_true rfl)⟩
        (repeat' first | exact rfl | exact trivial | apply And.intro | (simp [getE]; done))
    · have hij : st = r := by simp at hb4; omega
      subst hij
      obtain ⟨e, hee⟩ : ∃ e, e = mid + m - st := ⟨_, rfl⟩
      have hwe : IntKind.i64.wrap (((mid + m : Nat) : Int) - (st : Int)) = (e : Int) := by rw [wrap_i64 _ (by omega) (by omega)]; omega
      have he1 : m ≤ e := by omega
      have he2 : e ≤ b := by omega
      have hlo : a < st → e < b → lessB (gD l e) (gD l (st - 1)) = false := fun c1 c2 => by
        rcases k6 with c | c | c
        · omega
        · omega
        · rw [hee]; exact c
      have hup : st < m → m < e → lessB (gD l (e - 1)) (gD l st) = true := fun c1 c2 => by
        rcases k7 with c | c | c
        · omega
        · omega
        · rw [hee, show mid + m - st - 1 = mid + m - 1 - st by omega]; exact c
      rw [hwe]
      have hsm : st + (e - m) = mid := by omega
      have hab : mid < b := by omega
      have ham2 : a < mid := by omega
      by_cases cA : st < m
      · refine Br.mk (fun hx => ?_) (fun hx => ?_) <;> conv => whnf
        all_goals first | (exfalso; simp at hx; omega) | skip
        all_goals
          by_cases cB : m < e
          · refine Br.mk (fun hx => ?_) (fun hx => ?_) <;> conv => whnf
            all_goals first | (exfalso; simp at hx; omega) | skip
            all_goals
              refine frameN [0] (rotate_min l st m e cap cA cB (by omega) hl) rfl (by decide) ⟨rfl, rfl⟩ rfl ?_
              rintro _ _ ⟨rfl, L1, gs1, hs1, hr1, rfl⟩
              refine ⟨[_], gs1, rfl, Nat.le_refl _, rfl, ?_⟩
              conv => whnf
              obtain ⟨f1, f2, f3, f4, f5⟩ := mid_facts lessB_asym lessB_ntrans hA hB ⟨k1, k3⟩ ⟨he1, he2⟩ hsm hr1 hlo hup
              have hok1 := (hs1.wide k1 he2).ok hok
              have hl1 := hs1.len
              rw [← hl1]
              by_cases cC : a < st
              · refine Br.mk (fun hx => ?_) (fun hx => ?_) <;> conv => whnf
                all_goals first | (exfalso; simp at hx; omega) | skip
                all_goals
                  by_cases cD : st < mid
                  · refine Br.mk (fun hx => ?_) (fun hx => ?_) <;> conv => whnf
                    all_goals first | (exfalso; simp at hx; omega) | skip
                    all_goals
                      have hm1 := merge_rec n L1 a st mid cap (by omega) cC cD (by omega) (by omega) hok1 f1 f2
                      refine frameN [0] hm1 rfl (by decide) ⟨rfl, rfl⟩ rfl ?_
                      rintro _ _ ⟨rfl, L2, gs2, hs2, ha2, rfl⟩
                      refine ⟨[_], gs2, rfl, Nat.le_refl _, rfl, ?_⟩
                      conv => whnf
                      have g1 : AscR lessB mid e L2 := fun p q q1 q2 q3 => by rw [hs2.out p (.inr q1), hs2.out q (.inr (by omega))]; exact f3 p q q1 q2 q3
                      have g2 : AscR lessB e b L2 := fun p q q1 q2 q3 => by rw [hs2.out p (.inr (by omega)), hs2.out q (.inr (by omega))]; exact f4 p q q1 q2 q3
                      have hl2 := hs2.len
                      rw [← hl2]
                      by_cases cE : mid < e
                      · refine Br.mk (fun hx => ?_) (fun hx => ?_) <;> conv => whnf
                        all_goals first | (exfalso; simp at hx; omega) | skip
                        all_goals
                          by_cases cF : e < b
                          · refine Br.mk (fun hx => ?_) (fun hx => ?_) <;> conv => whnf
                            all_goals first | (exfalso; simp at hx; omega) | skip
                            all_goals
                              have hm2 := merge_rec n L2 mid e b cap (by omega) cE cF (by omega) (by omega) (hs2.ok hok1) g1 g2
                              refine frameN [0] hm2 rfl (by decide) ⟨rfl, rfl⟩ rfl ?_
                              rintro _ _ ⟨rfl, M, gs3, hs3, ha3, rfl⟩
                              refine ⟨[_], gs3, rfl, Nat.le_refl _, rfl, ?_⟩
                              conv => whnf
                              exact ⟨rfl, M, [], ((hs1.wide k1 he2).trans (hs2.wide (Nat.le_refl _) (by omega))).trans (hs3.wide (by omega) (Nat.le_refl _)), halves_asc f5 hs2 hs3 ha2 ha3 (by omega) (by omega), rfl⟩
                          · refine Br.mk (fun hx => ?_) (fun hx => ?_) <;> conv => whnf
                            all_goals first | (exfalso; simp at hx; omega) | skip
                            all_goals
                              have hs3 : Seg mid b L2 L2 := Seg.refl _ _ _
                              have ha3 : AscR lessB mid b L2 := fun p q q1 q2 q3 => g1 p q q1 q2 (by omega)
                              exact ⟨rfl, L2, [], ((hs1.wide k1 he2).trans (hs2.wide (Nat.le_refl _) (by omega))).trans (hs3.wide (by omega) (Nat.le_refl _)), halves_asc f5 hs2 hs3 ha2 ha3 (by omega) (by omega), rfl⟩
                      · refine Br.mk (fun hx => ?_) (fun hx => ?_) <;> conv => whnf
                        all_goals first | (exfalso; simp at hx; omega) | skip
                        all_goals
                          have hs3 : Seg mid b L2 L2 := Seg.refl _ _ _
                          have ha3 : AscR lessB mid b L2 := fun p q q1 q2 q3 => g2 p q (by omega) q2 q3
                          exact ⟨rfl, L2, [], ((hs1.wide k1 he2).trans (hs2.wide (Nat.le_refl _) (by omega))).trans (hs3.wide (by omega) (Nat.le_refl _)), halves_asc f5 hs2 hs3 ha2 ha3 (by omega) (by omega), rfl⟩
                  · refine Br.mk (fun hx => ?_) (fun hx => ?_) <;> conv => whnf
                    all_goals first | (exfalso; simp at hx; omega) | skip
                    all_goals
                      have hs2 : Seg a mid L1 L1 := Seg.refl _ _ _
                      have ha2 : AscR lessB a mid L1 := fun p q q1 q2 q3 => f1 p q q1 q2 (by omega)
                      have g1 : AscR lessB mid e L1 := fun p q q1 q2 q3 => by rw [hs2.out p (.inr q1), hs2.out q (.inr (by omega))]; exact f3 p q q1 q2 q3
                      have g2 : AscR lessB e b L1 := fun p q q1 q2 q3 => by rw [hs2.out p (.inr (by omega)), hs2.out q (.inr (by omega))]; exact f4 p q q1 q2 q3
                      have hl2 := hs2.len
                      by_cases cE : mid < e
                      · refine Br.mk (fun hx => ?_) (fun hx => ?_) <;> conv => whnf
                        all_goals first | (exfalso; simp at hx; omega) | skip
                        all_goals
                          by_cases cF : e < b
                          · refine Br.mk (fun hx => ?_) (fun hx => ?_) <;> conv => whnf
                            all_goals first | (exfalso; simp at hx; omega) | skip
                            all_goals
                              have hm2 := merge_rec n L1 mid e b cap (by omega) cE cF (by omega) (by omega) (hs2.ok hok1) g1 g2
                              refine frameN [0] hm2 rfl (by decide) ⟨rfl, rfl⟩ rfl ?_
                              rintro _ _ ⟨rfl, M, gs3, hs3, ha3, rfl⟩
                              refine ⟨[_], gs3, rfl, Nat.le_refl _, rfl, ?_⟩
                              conv => whnf
                              exact ⟨rfl, M, [], ((hs1.wide k1 he2).trans (hs2.wide (Nat.le_refl _) (by omega))).trans (hs3.wide (by omega) (Nat.le_refl _)), halves_asc f5 hs2 hs3 ha2 ha3 (by omega) (by omega), rfl⟩
                          · refine Br.mk (fun hx => ?_) (fun hx => ?_) <;> conv => whnf
                            all_goals first | (exfalso; simp at hx; omega) | skip
                            all_goals
                              have hs3 : Seg mid b L1 L1 := Seg.refl _ _ _
                              have ha3 : AscR lessB mid b L1 := fun p q q1 q2 q3 => g1 p q q1 q2 (by omega)
                              exact ⟨rfl, L1, [], ((hs1.wide k1 he2).trans (hs2.wide (Nat.le_refl _) (by omega))).trans (hs3.wide (by omega) (Nat.le_refl _)), halves_asc f5 hs2 hs3 ha2 ha3 (by omega) (by omega), rfl⟩
                      · refine Br.mk (fun hx => ?_) (fun hx => ?_) <;> conv => whnf
                        all_goals first | (exfalso; simp at hx; omega) | skip
                        all_goals
                          have hs3 : Seg mid b L1 L1 := Seg.refl _ _ _
                          have ha3 : AscR lessB mid b L1 := fun p q q1 q2 q3 => g2 p q (by omega) q2 q3
                          exact ⟨rfl, L1, [], ((hs1.wide k1 he2).trans (hs2.wide (Nat.le_refl _) (by omega))).trans (hs3.wide (by omega) (Nat.le_refl _)), halves_asc f5 hs2 hs3 ha2 ha3 (by omega) (by omega), rfl⟩
              · refine Br.mk (fun hx => ?_) (fun hx => ?_) <;> conv => whnf
                all_goals first | (exfalso; simp at hx; omega) | skip
                all_goals
                  have hs2 : Seg a mid L1 L1 := Seg.refl _ _ _
                  have ha2 : AscR lessB a mid L1 := fun p q q1 q2 q3 => f2 p q (by omega) q2 q3
                  have g1 : AscR lessB mid e L1 := fun p q q1 q2 q3 => by rw [hs2.out p (.inr q1), hs2.out q (.inr (by omega))]; exact f3 p q q1 q2 q3
                  have g2 : AscR lessB e b L1 := fun p q q1 q2 q3 => by rw [hs2.out p (.inr (by omega)), hs2.out q (.inr (by omega))]; exact f4 p q q1 q2 q3
                  have hl2 := hs2.len
                  by_cases cE : mid < e
                  · refine Br.mk (fun hx => ?_) (fun hx => ?_) <;> conv => whnf
                    all_goals first | (exfalso; simp at hx; omega) | skip
                    all_goals
                      by_cases cF : e < b
                      · refine Br.mk (fun hx => ?_) (fun hx => ?_) <;> conv => whnf
                        all_goals first | (exfalso; simp at hx; omega) | skip
                        all_goals
                          have hm2 := merge_rec n L1 mid e b cap (by omega) cE cF (by omega) (by omega) (hs2.ok hok1) g1 g2
                          refine frameN [0] hm2 rfl (by decide) ⟨rfl, rfl⟩ rfl ?_
                          rintro _ _ ⟨rfl, M, gs3, hs3, ha3, rfl⟩
                          refine ⟨[_], gs3, rfl, Nat.le_refl _, rfl, ?_⟩
                          conv => whnf
                          exact ⟨rfl, M, [], ((hs1.wide k1 he2).trans (hs2.wide (Nat.le_refl _) (by omega))).trans (hs3.wide (by omega) (Nat.le_refl _)), halves_asc f5 hs2 hs3 ha2 ha3 (by omega) (by omega), rfl⟩
                      · refine Br.mk (fun hx => ?_) (fun hx => ?_) <;> conv => whnf
                        all_goals first | (exfalso; simp at hx; omega) | skip
                        all_goals
                          have hs3 : Seg mid b L1 L1 := Seg.refl _ _ _
                          have ha3 : AscR lessB mid b L1 := fun p q q1 q2 q3 => g1 p q q1 q2 (by omega)
                          exact ⟨rfl, L1, [], ((hs1.wide k1 he2).trans (hs2.wide (Nat.le_refl _) (by omega))).trans (hs3.wide (by omega) (Nat.le_refl _)), halves_asc f5 hs2 hs3 ha2 ha3 (by omega) (by omega), rfl⟩
                  · refine Br.mk (fun hx => ?_) (fun hx => ?_) <;> conv => whnf
                    all_goals first | (exfalso; simp at hx; omega) | skip
                    all_goals
                      have hs3 : Seg mid b L1 L1 := Seg.refl _ _ _
                      have ha3 : AscR lessB mid b L1 := fun p q q1 q2 q3 => g2 p q (by omega) q2 q3
                      exact ⟨rfl, L1, [], ((hs1.wide k1 he2).trans (hs2.wide (Nat.le_refl _) (by omega))).trans (hs3.wide (by omega) (Nat.le_refl _)), halves_asc f5 hs2 hs3 ha2 ha3 (by omega) (by omega), rfl⟩
          · refine Br.mk (fun hx => ?_) (fun hx => ?_) <;> conv => whnf
            all_goals first | (exfalso; simp at hx; omega) | skip
            all_goals
              have hs1 : Seg st e l l := Seg.refl _ _ _
              have hr1 : ∀ p, gD l p = rotG l st m e p := fun p => (rot_triv (by omega) (by omega) (.inr (by omega))).symm
              obtain ⟨f1, f2, f3, f4, f5⟩ := mid_facts lessB_asym lessB_ntrans hA hB ⟨k1, k3⟩ ⟨he1, he2⟩ hsm hr1 hlo hup
              have hok1 := (hs1.wide k1 he2).ok hok
              have hl1 := hs1.len
              by_cases cC : a < st
              · refine Br.mk (fun hx => ?_) (fun hx => ?_) <;> conv => whnf
                all_goals first | (exfalso; simp at hx; omega) | skip
                all_goals
                  by_cases cD : st < mid
                  · refine Br.mk (fun hx => ?_) (fun hx => ?_) <;> conv => whnf
                    all_goals first | (exfalso; simp at hx; omega) | skip
                    all_goals
                      have hm1 := merge_rec n l a st mid cap (by omega) cC cD (by omega) (by omega) hok1 f1 f2
                      refine frameN [0] hm1 rfl (by decide) ⟨rfl, rfl⟩ rfl ?_
                      rintro _ _ ⟨rfl, L2, gs2, hs2, ha2, rfl⟩
                      refine ⟨[_], gs2, rfl, Nat.le_refl _, rfl, ?_⟩
                      conv => whnf
                      have g1 : AscR lessB mid e L2 := fun p q q1 q2 q3 => by rw [hs2.out p (.inr q1), hs2.out q (.inr (by omega))]; exact f3 p q q1 q2 q3
                      have g2 : AscR lessB e b L2 := fun p q q1 q2 q3 => by rw [hs2.out p (.inr (by omega)), hs2.out q (.inr (by omega))]; exact f4 p q q1 q2 q3
                      have hl2 := hs2.len
                      rw [← hl2]
                      by_cases cE : mid < e
                      · refine Br.mk (fun hx => ?_) (fun hx => ?_) <;> conv => whnf
                        all_goals first | (exfalso; simp at hx; omega) | skip
                        all_goals
                          by_cases cF : e < b
                          · refine Br.mk (fun hx => ?_) (fun hx => ?_) <;> conv => whnf
                            all_goals first | (exfalso; simp at hx; omega) | skip
                            all_goals
                              have hm2 := merge_rec n L2 mid e b cap (by omega) cE cF (by omega) (by omega) (hs2.ok hok1) g1 g2
                              refine frameN [0] hm2 rfl (by decide) ⟨rfl, rfl⟩ rfl ?_
                              rintro _ _ ⟨rfl, M, gs3, hs3, ha3, rfl⟩
                              refine ⟨[_], gs3, rfl, Nat.le_refl _, rfl, ?_⟩
                              conv => whnf
                              exact ⟨rfl, M, [], ((hs1.wide k1 he2).trans (hs2.wide (Nat.le_refl _) (by omega))).trans (hs3.wide (by omega) (Nat.le_refl _)), halves_asc f5 hs2 hs3 ha2 ha3 (by omega) (by omega), rfl⟩
                          · refine Br.mk (fun hx => ?_) (fun hx => ?_) <;> conv => whnf
                            all_goals first | (exfalso; simp at hx; omega) | skip
                            all_goals
                              have hs3 : Seg mid b L2 L2 := Seg.refl _ _ _
                              have ha3 : AscR lessB mid b L2 := fun p q q1 q2 q3 => g1 p q q1 q2 (by omega)
                              exact ⟨rfl, L2, [], ((hs1.wide k1 he2).trans (hs2.wide (Nat.le_refl _) (by omega))).trans (hs3.wide (by omega) (Nat.le_refl _)), halves_asc f5 hs2 hs3 ha2 ha3 (by omega) (by omega), rfl⟩
                      · refine Br.mk (fun hx => ?_) (fun hx => ?_) <;> conv => whnf
                        all_goals first | (exfalso; simp at hx; omega) | skip
                        all_goals
                          have hs3 : Seg mid b L2 L2 := Seg.refl _ _ _
                          have ha3 : AscR lessB mid b L2 := fun p q q1 q2 q3 => g2 p q (by omega) q2 q3
                          exact ⟨rfl, L2, [], ((hs1.wide k1 he2).trans (hs2.wide (Nat.le_refl _) (by omega))).trans (hs3.wide (by omega) (Nat.le_refl _)), halves_asc f5 hs2 hs3 ha2 ha3 (by omega) (by omega), rfl⟩
                  · refine Br.mk (fun hx => ?_) (fun hx => ?_) <;> conv => whnf
                    all_goals first | (exfalso; simp at hx; omega) | skip
                    all_goals
                      have hs2 : Seg a mid l l := Seg.refl _ _ _
                      have ha2 : AscR lessB a mid l := fun p q q1 q2 q3 => f1 p q q1 q2 (by omega)
                      have g1 : AscR lessB mid e l := fun p q q1 q2 q3 => by rw [hs2.out p (.inr q1), hs2.out q (.inr (by omega))]; exact f3 p q q1 q2 q3
                      have g2 : AscR lessB e b l := fun p q q1 q2 q3 => by rw [hs2.out p (.inr (by omega)), hs2.out q (.inr (by omega))]; exact f4 p q q1 q2 q3
                      have hl2 := hs2.len
                      by_cases cE : mid < e
                      · refine Br.mk (fun hx => ?_) (fun hx => ?_) <;> conv => whnf
                        all_goals first | (exfalso; simp at hx; omega) | skip
                        all_goals
                          by_cases cF : e < b
                          · refine Br.mk (fun hx => ?_) (fun hx => ?_) <;> conv => whnf
                            all_goals first | (exfalso; simp at hx; omega) | skip
                            all_goals
                              have hm2 := merge_rec n l mid e b cap (by omega) cE cF (by omega) (by omega) (hs2.ok hok1) g1 g2
                              refine frameN [0] hm2 rfl (by decide) ⟨rfl, rfl⟩ rfl ?_
                              rintro _ _ ⟨rfl, M, gs3, hs3, ha3, rfl⟩
                              refine ⟨[_], gs3, rfl, Nat.le_refl _, rfl, ?_⟩
                              conv => whnf
                              exact ⟨rfl, M, [], ((hs1.wide k1 he2).trans (hs2.wide (Nat.le_refl _) (by omega))).trans (hs3.wide (by omega) (Nat.le_refl _)), halves_asc f5 hs2 hs3 ha2 ha3 (by omega) (by omega), rfl⟩
                          · refine Br.mk (fun hx => ?_) (fun hx => ?_) <;> conv => whnf
                            all_goals first | (exfalso; simp at hx; omega) | skip
                            all_goals
                              have hs3 : Seg mid b l l := Seg.refl _ _ _
                              have ha3 : AscR lessB mid b l := fun p q q1 q2 q3 => g1 p q q1 q2 (by omega)
                              exact ⟨rfl, l, [], ((hs1.wide k1 he2).trans (hs2.wide (Nat.le_refl _) (by omega))).trans (hs3.wide (by omega) (Nat.le_refl _)), halves_asc f5 hs2 hs3 ha2 ha3 (by omega) (by omega), rfl⟩
                      · refine Br.mk (fun hx => ?_) (fun hx => ?_) <;> conv => whnf
                        all_goals first | (exfalso; simp at hx; omega) | skip
                        all_goals
                          have hs3 : Seg mid b l l := Seg.refl _ _ _
                          have ha3 : AscR lessB mid b l := fun p q q1 q2 q3 => g2 p q (by omega) q2 q3
                          exact ⟨rfl, l, [], ((hs1.wide k1 he2).trans (hs2.wide (Nat.le_refl _) (by omega))).trans (hs3.wide (by omega) (Nat.le_refl _)), halves_asc f5 hs2 hs3 ha2 ha3 (by omega) (by omega), rfl⟩
              · refine Br.mk (fun hx => ?_) (fun hx => ?_) <;> conv => whnf
                all_goals first | (exfalso; simp at hx; omega) | skip
                all_goals
                  have hs2 : Seg a mid l l := Seg.refl _ _ _
                  have ha2 : AscR lessB a mid l := fun p q q1 q2 q3 => f2 p q (by omega) q2 q3
                  have g1 : AscR lessB mid e l := fun p q q1 q2 q3 => by rw [hs2.out p (.inr q1), hs2.out q (.inr (by omega))]; exact f3 p q q1 q2 q3
                  have g2 : AscR lessB e b l := fun p q q1 q2 q3 => by rw [hs2.out p (.inr (by omega)), hs2.out q (.inr (by omega))]; exact f4 p q q1 q2 q3
                  have hl2 := hs2.len
                  by_cases cE : mid < e
                  · refine Br.mk (fun hx => ?_) (fun hx => ?_) <;> conv => whnf
                    all_goals first | (exfalso; simp at hx; omega) | skip
                    all_goals
                      by_cases cF : e < b
                      · refine Br.mk (fun hx => ?_) (fun hx => ?_) <;> conv => whnf
                        all_goals first | (exfalso; simp at hx; omega) | skip
                        all_goals
                          have hm2 := merge_rec n l mid e b cap (by omega) cE cF (by omega) (by omega) (hs2.ok hok1) g1 g2
                          refine frameN [0] hm2 rfl (by decide) ⟨rfl, rfl⟩ rfl ?_
                          rintro _ _ ⟨rfl, M, gs3, hs3, ha3, rfl⟩
                          refine ⟨[_], gs3, rfl, Nat.le_refl _, rfl, ?_⟩
                          conv => whnf
                          exact ⟨rfl, M, [], ((hs1.wide k1 he2).trans (hs2.wide (Nat.le_refl _) (by omega))).trans (hs3.wide (by omega) (Nat.le_refl _)), halves_asc f5 hs2 hs3 ha2 ha3 (by omega) (by omega), rfl⟩
                      · refine Br.mk (fun hx => ?_) (fun hx => ?_) <;> conv => whnf
                        all_goals first | (exfalso; simp at hx; omega) | skip
                        all_goals
                          have hs3 : Seg mid b l l := Seg.refl _ _ _
                          have ha3 : AscR lessB mid b l := fun p q q1 q2 q3 => g1 p q q1 q2 (by omega)
                          exact ⟨rfl, l, [], ((hs1.wide k1 he2).trans (hs2.wide (Nat.le_refl _) (by omega))).trans (hs3.wide (by omega) (Nat.le_refl _)), halves_asc f5 hs2 hs3 ha2 ha3 (by omega) (by omega), rfl⟩
                  · refine Br.mk (fun hx => ?_) (fun hx => ?_) <;> conv => whnf
                    all_goals first | (exfalso; simp at hx; omega) | skip
                    all_goals
                      have hs3 : Seg mid b l l := Seg.refl _ _ _
                      have ha3 : AscR lessB mid b l := fun p q q1 q2 q3 => g2 p q (by omega) q2 q3
                      exact ⟨rfl, l, [], ((hs1.wide k1 he2).trans (hs2.wide (Nat.le_refl _) (by omega))).trans (hs3.wide (by omega) (Nat.le_refl _)), halves_asc f5 hs2 hs3 ha2 ha3 (by omega) (by omega), rfl⟩
      · refine Br.mk (fun hx => ?_) (fun hx => ?_) <;> conv => whnf
        all_goals first | (exfalso; simp at hx; omega) | skip
        all_goals
          have hs1 : Seg st e l l := Seg.refl _ _ _
          have hr1 : ∀ p, gD l p = rotG l st m e p := fun p => (rot_triv (by omega) (by omega) (.inl (by omega))).symm
          obtain ⟨f1, f2, f3, f4, f5⟩ := mid_facts lessB_asym lessB_ntrans hA hB ⟨k1, k3⟩ ⟨he1, he2⟩ hsm hr1 hlo hup
          have hok1 := (hs1.wide k1 he2).ok hok
          have hl1 := hs1.len
          by_cases cC : a < st
          · refine Br.mk (fun hx => ?_) (fun hx => ?_) <;> conv => whnf
            all_goals first | (exfalso; simp at hx; omega) | skip
            all_goals
              by_cases cD : st < mid
              · refine Br.mk (fun hx => ?_) (fun hx => ?_) <;> conv => whnf
                all_goals first | (exfalso; simp at hx; omega) | skip
                all_goals
                  have hm1 := merge_rec n l a st mid cap (by omega) cC cD (by omega) (by omega) hok1 f1 f2
                  refine frameN [0] hm1 rfl (by decide) ⟨rfl, rfl⟩ rfl ?_
                  rintro _ _ ⟨rfl, L2, gs2, hs2, ha2, rfl⟩
                  refine ⟨[_], gs2, rfl, Nat.le_refl _, rfl, ?_⟩
                  conv => whnf
                  have g1 : AscR lessB mid e L2 := fun p q q1 q2 q3 => by rw [hs2.out p (.inr q1), hs2.out q (.inr (by omega))]; exact f3 p q q1 q2 q3
                  have g2 : AscR lessB e b L2 := fun p q q1 q2 q3 => by rw [hs2.out p (.inr (by omega)), hs2.out q (.inr (by omega))]; exact f4 p q q1 q2 q3
                  have hl2 := hs2.len
                  rw [← hl2]
                  by_cases cE : mid < e
                  · refine Br.mk (fun hx => ?_) (fun hx => ?_) <;> conv => whnf
                    all_goals first | (exfalso; simp at hx; omega) | skip
                    all_goals
                      by_cases cF : e < b
                      · refine Br.mk (fun hx => ?_) (fun hx => ?_) <;> conv => whnf
                        all_goals first | (exfalso; simp at hx; omega) | skip
                        all_goals
                          have hm2 := merge_rec n L2 mid e b cap (by omega) cE cF (by omega) (by omega) (hs2.ok hok1) g1 g2
                          refine frameN [0] hm2 rfl (by decide) ⟨rfl, rfl⟩ rfl ?_
                          rintro _ _ ⟨rfl, M, gs3, hs3, ha3, rfl⟩
                          refine ⟨[_], gs3, rfl, Nat.le_refl _, rfl, ?_⟩
                          conv => whnf
                          exact ⟨rfl, M, [], ((hs1.wide k1 he2).trans (hs2.wide (Nat.le_refl _) (by omega))).trans (hs3.wide (by omega) (Nat.le_refl _)), halves_asc f5 hs2 hs3 ha2 ha3 (by omega) (by omega), rfl⟩
                      · refine Br.mk (fun hx => ?_) (fun hx => ?_) <;> conv => whnf
                        all_goals first | (exfalso; simp at hx; omega) | skip
                        all_goals
                          have hs3 : Seg mid b L2 L2 := Seg.refl _ _ _
                          have ha3 : AscR lessB mid b L2 := fun p q q1 q2 q3 => g1 p q q1 q2 (by omega)
                          exact ⟨rfl, L2, [], ((hs1.wide k1 he2).trans (hs2.wide (Nat.le_refl _) (by omega))).trans (hs3.wide (by omega) (Nat.le_refl _)), halves_asc f5 hs2 hs3 ha2 ha3 (by omega) (by omega), rfl⟩
                  · refine Br.mk (fun hx => ?_) (fun hx => ?_) <;> conv => whnf
                    all_goals first | (exfalso; simp at hx; omega) | skip
                    all_goals
                      have hs3 : Seg mid b L2 L2 := Seg.refl _ _ _
                      have ha3 : AscR lessB mid b L2 := fun p q q1 q2 q3 => g2 p q (by omega) q2 q3
                      exact ⟨rfl, L2, [], ((hs1.wide k1 he2).trans (hs2.wide (Nat.le_refl _) (by omega))).trans (hs3.wide (by omega) (Nat.le_refl _)), halves_asc f5 hs2 hs3 ha2 ha3 (by omega) (by omega), rfl⟩
              · refine Br.mk (fun hx => ?_) (fun hx => ?_) <;> conv => whnf
                all_goals first | (exfalso; simp at hx; omega) | skip
                all_goals
                  have hs2 : Seg a mid l l := Seg.refl _ _ _
                  have ha2 : AscR lessB a mid l := fun p q q1 q2 q3 => f1 p q q1 q2 (by omega)
                  have g1 : AscR lessB mid e l := fun p q q1 q2 q3 => by rw [hs2.out p (.inr q1), hs2.out q (.inr (by omega))]; exact f3 p q q1 q2 q3
                  have g2 : AscR lessB e b l := fun p q q1 q2 q3 => by rw [hs2.out p (.inr (by omega)), hs2.out q (.inr (by omega))]; exact f4 p q q1 q2 q3
                  have hl2 := hs2.len
                  by_cases cE : mid < e
                  · refine Br.mk (fun hx => ?_) (fun hx => ?_) <;> conv => whnf
                    all_goals first | (exfalso; simp at hx; omega) | skip
                    all_goals
                      by_cases cF : e < b
                      · refine Br.mk (fun hx => ?_) (fun hx => ?_) <;> conv => whnf
                        all_goals first | (exfalso; simp at hx; omega) | skip
                        all_goals
                          have hm2 := merge_rec n l mid e b cap (by omega) cE cF (by omega) (by omega) (hs2.ok hok1) g1 g2
                          refine frameN [0] hm2 rfl (by decide) ⟨rfl, rfl⟩ rfl ?_
                          rintro _ _ ⟨rfl, M, gs3, hs3, ha3, rfl⟩
                          refine ⟨[_], gs3, rfl, Nat.le_refl _, rfl, ?_⟩
                          conv => whnf
                          exact ⟨rfl, M, [], ((hs1.wide k1 he2).trans (hs2.wide (Nat.le_refl _) (by omega))).trans (hs3.wide (by omega) (Nat.le_refl _)), halves_asc f5 hs2 hs3 ha2 ha3 (by omega) (by omega), rfl⟩
                      · refine Br.mk (fun hx => ?_) (fun hx => ?_) <;> conv => whnf
                        all_goals first | (exfalso; simp at hx; omega) | skip
                        all_goals
                          have hs3 : Seg mid b l l := Seg.refl _ _ _
                          have ha3 : AscR lessB mid b l := fun p q q1 q2 q3 => g1 p q q1 q2 (by omega)
                          exact ⟨rfl, l, [], ((hs1.wide k1 he2).trans (hs2.wide (Nat.le_refl _) (by omega))).trans (hs3.wide (by omega) (Nat.le_refl _)), halves_asc f5 hs2 hs3 ha2 ha3 (by omega) (by omega), rfl⟩
                  · refine Br.mk (fun hx => ?_) (fun hx => ?_) <;> conv => whnf
                    all_goals first | (exfalso; simp at hx; omega) | skip
                    all_goals
                      have hs3 : Seg mid b l l := Seg.refl _ _ _
                      have ha3 : AscR lessB mid b l := fun p q q1 q2 q3 => g2 p q (by omega) q2 q3
                      exact ⟨rfl, l, [], ((hs1.wide k1 he2).trans (hs2.wide (Nat.le_refl _) (by omega))).trans (hs3.wide (by omega) (Nat.le_refl _)), halves_asc f5 hs2 hs3 ha2 ha3 (by omega) (by omega), rfl⟩
          · refine Br.mk (fun hx => ?_) (fun hx => ?_) <;> conv => whnf
            all_goals first | (exfalso; simp at hx; omega) | skip
            all_goals
              have hs2 : Seg a mid l l := Seg.refl _ _ _
              have ha2 : AscR lessB a mid l := fun p q q1 q2 q3 => f2 p q (by omega) q2 q3
              have g1 : AscR lessB mid e l := fun p q q1 q2 q3 => by rw [hs2.out p (.inr q1), hs2.out q (.inr (by omega))]; exact f3 p q q1 q2 q3
              have g2 : AscR lessB e b l := fun p q q1 q2 q3 => by rw [hs2.out p (.inr (by omega)), hs2.out q (.inr (by omega))]; exact f4 p q q1 q2 q3
              have hl2 := hs2.len
              by_cases cE : mid < e
              · refine Br.mk (fun hx => ?_) (fun hx => ?_) <;> conv => whnf
                all_goals first | (exfalso; simp at hx; omega) | skip
                all_goals
                  by_cases cF : e < b
                  · refine Br.mk (fun hx => ?_) (fun hx => ?_) <;> conv => whnf
                    all_goals first | (exfalso; simp at hx; omega) | skip
                    all_goals
                      have hm2 := merge_rec n l mid e b cap (by omega) cE cF (by omega) (by omega) (hs2.ok hok1) g1 g2
                      refine frameN [0] hm2 rfl (by decide) ⟨rfl, rfl⟩ rfl ?_
                      rintro _ _ ⟨rfl, M, gs3, hs3, ha3, rfl⟩
                      refine ⟨[_], gs3, rfl, Nat.le_refl _, rfl, ?_⟩
                      conv => whnf
                      exact ⟨rfl, M, [], ((hs1.wide k1 he2).trans (hs2.wide (Nat.le_refl _) (by omega))).trans (hs3.wide (by omega) (Nat.le_refl _)), halves_asc f5 hs2 hs3 ha2 ha3 (by omega) (by omega), rfl⟩
                  · refine Br.mk (fun hx => ?_) (fun hx => ?_) <;> conv => whnf
                    all_goals first | (exfalso; simp at hx; omega) | skip
                    all_goals
                      have hs3 : Seg mid b l l := Seg.refl _ _ _
                      have ha3 : AscR lessB mid b l := fun p q q1 q2 q3 => g1 p q q1 q2 (by omega)
                      exact ⟨rfl, l, [], ((hs1.wide k1 he2).trans (hs2.wide (Nat.le_refl _) (by omega))).trans (hs3.wide (by omega) (Nat.le_refl _)), halves_asc f5 hs2 hs3 ha2 ha3 (by omega) (by omega), rfl⟩
              · refine Br.mk (fun hx => ?_) (fun hx => ?_) <;> conv => whnf
                all_goals first | (exfalso; simp at hx; omega) | skip
                all_goals
                  have hs3 : Seg mid b l l := Seg.refl _ _ _
                  have ha3 : AscR lessB mid b l := fun p q q1 q2 q3 => g2 p q (by omega) q2 q3
                  exact ⟨rfl, l, [], ((hs1.wide k1 he2).trans (hs2.wide (Nat.le_refl _) (by omega))).trans (hs3.wide (by omega) (Nat.le_refl _)), halves_asc f5 hs2 hs3 ha2 ha3 (by omega) (by omega), rfl⟩

end Go.Proofs.Ytmfdkjjhdjkgpaa

/- Puzzles: a clue less; the law. -/
import Derived.Test.YtbmaofepmheeeaaDclue
namespace Go.Proofs.Ytbmaofepmheeeaa
open Go Go.RowKit
set_option maxRecDepth 10000
set_option linter.unusedSimpArgs false

/-- A row's capacity, told. -/
theorem callX_cap {P : Program} {f : FuncId} {o ver e off len : Nat} {args : List V1} {objs : Objs} {K : SV → Objs → Prop} (h : ∀ cp, len ≤ cp → CallX P f (.c (.sl o ver e off len (some cp)) :: args) objs K) :
    CallX P f (.c (.sl o ver e off len none) :: args) objs K := by
  refine ⟨(h len (Nat.le_refl _)).enter, fun c w vals hr hl hv => ?_⟩
  obtain ⟨u, h1, h2⟩ := hv 0 _ rfl
  have key : ∃ cp, len ≤ cp ∧ RelCV c objs w (.sl o ver e off len (some cp)) u := by
    obtain ⟨k1, k2, k3⟩ := h2
    by_cases hlive : Live objs o ver
    · obtain ⟨a, cp, m1, m2, m3, m4⟩ := k3 hlive
      exact ⟨cp, m2, k1, k2, fun _ => ⟨a, cp, m1, m2, by rintro _ ⟨rfl⟩; rfl, m4⟩⟩
    · exact ⟨len, Nat.le_refl _, k1, k2, fun hl => (hlive hl).elim⟩
  obtain ⟨cp, hc, hrel⟩ := key
  exact (h cp hc).calls c w vals hr hl (fun i x hi => by
    cases i with
    | zero => cases hi; exact ⟨u, h1, hrel⟩
    | succ i => exact hv (i + 1) x hi)

theorem del_splice (L : List (List DC)) (k : Nat) (z : List DC) (hk : k < L.length) {a b c d e : Nat} (ha : a = L.length - (k + 1)) (hb : b = k + 1) (hc : c = k) (hd : d = 1) (he : e = L.length - 1) :
    spliceL (spliceL L ((L.drop b).take a) c) (List.replicate d z) e = L.eraseIdx k ++ [z] := by
  subst ha hb hc hd he
  rw [List.eraseIdx_eq_take_drop_succ, List.take_of_length_le (by rw [List.length_drop]; exact Nat.le_refl _ : (L.drop (c + 1)).length ≤ _)]
  obtain ⟨A, hA⟩ : ∃ A, A = L.take c := ⟨_, rfl⟩
  obtain ⟨B, hB⟩ : ∃ B, B = L.drop (c + 1) := ⟨_, rfl⟩
  have la : A.length = c := by rw [hA]; simp; omega
  have lb : B.length = L.length - (c + 1) := by rw [hB]; simp
  have e1 : spliceL L B c = (A ++ B) ++ L.drop (c + B.length) := by rw [hA]; rfl
  have ll : (A ++ B).length = L.length - 1 := by rw [List.length_append, la, lb]; omega
  rw [← hA, ← hB, e1]
  show List.take _ _ ++ _ ++ List.drop _ _ = _
  rw [List.take_append_of_le_length (by omega), List.take_of_length_le (by omega), List.drop_eq_nil_of_le, List.append_nil]
  · rfl
  · simp only [List.length_append, List.length_drop, List.length_replicate, la, lb]; omega

theorem map_erase {α β : Type} (f : α → β) : ∀ (l : List α) (k : Nat), (l.map f).eraseIdx k = (l.eraseIdx k).map f
  | [], _ => rfl
  | _ :: _, 0 => rfl
  | x :: l, k + 1 => by simp only [List.map_cons, List.eraseIdx_cons_succ, map_erase f l k]

theorem deleteClue_min (cl : List (Int × Int × Int)) (k : Nat) (hk : k < cl.length) (hn : cl.length ≤ 2 ^ 20) :
    CallX G.P 97 [.c (.sl 0 0 3 0 cl.length none), .c (vI k), .c (vI ((k + 1 : Nat) : Int))] [(0, .arr 3 (cl.map r3))]
      (fun sv objs' => ∃ cp, sv = .one (.c (.sl 0 0 3 0 (cl.length - 1) (some cp))) ∧ ∃ ys gs, objs' = (0, .arr 3 ((cl.eraseIdx k).map r3 ++ ys)) :: gs) := by
  refine callX_cap fun cp hcp => ?_
  refine call_body (G := G) Try.func97 rfl (by decide) (Nat.le_of_ble_eq_true rfl) ?_
  conv => whnf
  refine ⟨by simp, by simp; omega, by simp; omega, ?_⟩
  conv => whnf
  refine .inr ⟨rfl, by simp; omega, by simp; omega, ?_⟩
  conv => whnf
  have e1 : (some (k : Int)).getD 0 = k := rfl
  repeat' first
    | exact True.intro
    | (refine Both.mk ?_ ?_ <;> conv => whnf)
    | (refine NilQ.mk (fun hnil => ?_) ?_ <;> conv => whnf)
    | ((fail_if_success (refine draw_mkF ?_ ?_ ?_; (focus (decide +kernel)))); refine draw_mk (by kernel_rfl) ?_; conv => whnf)
    | (refine Br.mk (fun hb => ?_) (fun hb => ?_) <;> conv => whnf)
    | (refine And.intro ?_ ?_; (focus (first | decide | omega | (simp [contentOK, objRd, objAt, peel, List.length_map]; done) | (simp [contentOK, objRd, objAt, peel, List.length_map]; omega) | (simp [contentOK, objRd, objAt, peel, List.length_map] at *; omega))); conv => whnf)
  · exfalso; simp at hb; omega
  refine draw_mkW (by kernel_rfl) ?_
  conv => whnf
  refine ⟨?_, ?_⟩ <;> conv => whnf
  repeat' first
    | exact True.intro
    | (refine Both.mk ?_ ?_ <;> conv => whnf)
    | (refine NilQ.mk (fun hnil => ?_) ?_ <;> conv => whnf)
    | ((fail_if_success (refine draw_mkF ?_ ?_ ?_; (focus (decide +kernel)))); refine draw_mk (by kernel_rfl) ?_; conv => whnf)
    | (refine Br.mk (fun hb => ?_) (fun hb => ?_) <;> conv => whnf)
    | (refine And.intro ?_ ?_; (focus (first | decide | omega | (simp [contentOK, objRd, objAt, peel, List.length_map]; done) | (simp [contentOK, objRd, objAt, peel, List.length_map]; omega) | (simp [contentOK, objRd, objAt, peel, List.length_map] at *; omega))); conv => whnf)
  all_goals
    refine ⟨by simp [spliceL]; omega, ?_⟩
    conv => whnf
    refine ⟨cp, ?_, ?_⟩
    · simp
      omega
    · refine ⟨[[dI 0, dI 0, dI 0]], [], ?_⟩
      rw [del_splice _ k _ (by simpa using hk) (by simp) (by simp) (by simp) (by simp; omega) (by simp; omega)]
      rw [map_erase]

theorem deleteClue_x {objs : Objs} {o n : Nat} {a b : Int} {ys : List (List DC)} {cl : List (Int × Int × Int)} {K : SV → Objs → Prop} (k : Nat) (hob : objs[o]? = some (0, .arr 3 ys)) (hy : ys = cl.map r3) (hn : n = cl.length) (ha : a = (k : Int)) (hb : b = ((k + 1 : Nat) : Int)) (hk : k < cl.length) (hl : cl.length ≤ 2 ^ 20)
    (hK : ∀ cp zs, K (.one (.c (.sl o 0 3 0 (cl.length - 1) (some cp)))) (objs.set o (0, .arr 3 ((cl.eraseIdx k).map r3 ++ zs)))) : CallX G.P 97 [.c (.sl o 0 3 0 n none), .c (vI a), .c (vI b)] objs K := by
  subst hy hn ha hb
  refine frameN [o] (deleteClue_min cl k hk hl) rfl (by simp) ⟨hob, rfl⟩ rfl ?_
  rintro _ _ ⟨cp, rfl, zs, gs, rfl⟩
  refine ⟨[_], gs, rfl, Nat.le_refl _, rfl, ?_⟩
  show K _ (objs.set o _ ++ [])
  rw [List.append_nil]
  exact hK cp zs

theorem res_row' {ver e : Nat} {xs ys : List (List DC)} {cap : Option Nat} {objs : Objs} {o n : Nat} (ho : objs[o]? = some (ver, .arr e ys)) (hn : n ≤ ys.length) (hx : xs = ys.take n) (hf : ∀ y ∈ xs, ∀ d ∈ y, flatDC d) :
    ResOK objs [.c (.sl o ver e 0 n cap)] [.c (.list e xs)] := by
  refine ⟨⟨?_, trivial⟩, by simp [refVs, refCV]⟩
  rw [resCell_sl, show objAt objs o ver = some (.arr e ys) by simp [objAt, ho]]
  exact ⟨rfl, rfl, by omega, by simpa using hx, hf⟩

theorem dropped_ok (cl : List (Int × Int × Int)) (j : Nat) (hj : j < cl.length) (hn : cl.length ≤ 2 ^ 20) : Fn G.P 78 [.c (.list 3 (cl.map r3)), aI j] (.one (.c (.list 3 ((cl.eraseIdx j).map r3)))) := by
  have hclone := cloneClues_ok cl hn
  have hwj : IntKind.i64.wrap ((j : Int) + 1) = ((j + 1 : Nat) : Int) := by rw [wrap_i64 _ (by omega) (by omega)]; omega
  refine fn_of_body (G := G) Try.func78 rfl (by decide) (Nat.le_of_ble_eq_true rfl) ?_
  conv => whnf
  repeat' first
    | exact True.intro
    | (refine draw_mkF ?_ ?_ ?_; (focus (decide +kernel)); (focus (kernel_rfl)); conv => whnf)
    | (refine Both.mk ?_ ?_ <;> conv => whnf)
    | (refine NilQ.mk (fun hnil => ?_) ?_ <;> conv => whnf)
    | (refine draw_mk (by kernel_rfl) ?_; conv => whnf)
    | (refine Br.mk (fun hb => ?_) (fun hb => ?_) <;> conv => whnf)
    | (refine call_sn ?_ (hclone) ?_; (focus ((repeat' first | exact snapRow | exact snap_row (by simp; done) | exact rfl | exact trivial | apply And.intro | omega | (simp; done)); done)); conv => whnf)
    | (refine callP_sn ?_ (hclone) ?_; (focus ((repeat' first | exact snapRow | exact snap_row (by simp; done) | exact rfl | exact trivial | apply And.intro | omega | (simp; done)); done)); conv => whnf)
    | (refine And.intro ?_ ?_; (focus (first | decide | omega | (simp [contentOK, objRd, objAt, peel, List.length_map]; done) | (simp [contentOK, objRd, objAt, peel, List.length_map]; omega) | (simp [contentOK, objRd, objAt, peel, List.length_map] at *; omega))); conv => whnf)
  refine deleteClue_x j rfl rfl (List.length_map _) rfl hwj hj hn fun cp zs => ?_
  conv => whnf
  refine res_row' rfl ?_ ?_ r3_flat
  · simp [List.length_eraseIdx, hj]
  · rw [List.take_append_of_le_length (by simp [List.length_eraseIdx, hj]), List.take_of_length_le (by simp [List.length_eraseIdx, hj])]

theorem pzWithout_ok (cl : List (Int × Int × Int)) (j : Nat) (hj : j < cl.length) (hn : cl.length ≤ 2 ^ 20) : Fn G.P 77 [.c (.list 3 (cl.map r3)), aI j] (.one (.c (.list 3 ((cl.eraseIdx j).map r3)))) := by
  have hwj : IntKind.i64.wrap ((j : Int) + 1) = ((j + 1 : Nat) : Int) := by rw [wrap_i64 _ (by omega) (by omega)]; omega
  refine fn_of_body (G := G) Try.func77 rfl (by decide) (Nat.le_of_ble_eq_true rfl) ?_
  conv => whnf
  repeat' first
    | exact True.intro
    | (refine draw_mkF ?_ ?_ ?_; (focus (decide +kernel)); (focus (kernel_rfl)); conv => whnf)
    | (refine Both.mk ?_ ?_ <;> conv => whnf)
    | (refine NilQ.mk (fun hnil => ?_) ?_ <;> conv => whnf)
    | (refine draw_mk (by kernel_rfl) ?_; conv => whnf)
    | (refine Br.mk (fun hb => ?_) (fun hb => ?_) <;> conv => whnf)
    | (refine And.intro ?_ ?_; (focus (first | decide | omega | (simp [contentOK, objRd, objAt, peel, List.length_map, hwj]; done) | (simp [contentOK, objRd, objAt, peel, List.length_map, hwj]; omega) | (simp [contentOK, objRd, objAt, peel, List.length_map, hwj] at *; omega))); conv => whnf)
  refine res_row' rfl ?_ ?_ r3_flat
  · simp
  · simp only [hwj, Option.getD_some, Option.getD_none, Int.toNat_natCast, Int.toNat_zero, Nat.sub_zero, List.drop_zero, List.take_nil, List.replicate_zero, List.take_zero, List.nil_append, Nat.zero_add]
    rw [← map_erase, List.eraseIdx_eq_take_drop_succ, show (cl.map r3).length - (j + 1) = ((cl.map r3).drop (j + 1)).length from by rw [List.length_drop], List.take_length, List.take_length]
    rw [← List.length_append, List.take_length]

/-- What comes of a clue less. -/
def dropB (w h : Int) (cl : List (Int × Int × Int)) (k : Int) : Bool := goodB w h cl && inB k 0 ((cl.length : Int) - 1)

def dropW (w h : Int) (cl : List (Int × Int × Int)) (k : Int) : Int × Int × List (Int × Int × Int) := if dropB w h cl k then (w, h, cl.eraseIdx k.toNat) else (0, 0, [])

theorem wrap_len1 {n : Nat} (h : n ≤ 2 ^ 40) : IntKind.i64.wrap ((n : Int) - 1) = (n : Int) - 1 := wrap_i64 _ (by omega) (by omega)

theorem implDrop (w h : Int) (cl : List (Int × Int × Int)) (k : Int) (hn : cl.length ≤ 2 ^ 40) : Fn G.P 41 [.agg (dPuzzle w h cl), aI k]
    (.tup [.agg (dPuzzle (dropW w h cl k).1 (dropW w h cl k).2.1 (dropW w h cl k).2.2), aB (dropB w h cl k)]) := by
  have hw1 := wrap_len1 hn
  unfold dropW
  by_cases hg : dropB w h cl k = true
  · rw [if_pos hg, hg]
    have hg' := hg
    simp only [dropB, inB, Bool.and_eq_true, decide_eq_true_eq] at hg'
    obtain ⟨hgd, hk⟩ := hg'
    have hcl := goodB_len hgd
    obtain ⟨j, rfl⟩ : ∃ j : Nat, k = j := ⟨k.toNat, by omega⟩
    have hdr := dropped_ok cl j (by omega) (Nat.le_trans hcl (by decide))
    refine fn_of_body (G := G) Try.func41 rfl (by decide) (Nat.le_of_ble_eq_true rfl) ?_
    conv => whnf
    repeat' first
      | exact True.intro
      | (refine draw_mkF ?_ ?_ ?_; (focus (decide +kernel)); (focus (kernel_rfl)); conv => whnf)
      | (refine Both.mk ?_ ?_ <;> conv => whnf)
      | (refine NilQ.mk (fun hnil => ?_) ?_ <;> conv => whnf)
      | (refine draw_mk (by kernel_rfl) ?_; conv => whnf)
      | (refine Br.mk (fun hb => ?_) (fun hb => ?_) <;> conv => whnf)
      | (refine call_sn ?_ (isPuzzle_ok ?_ ?_ ?_ ?_) ?_; (focus ((repeat' first | exact snapRow | exact snap_row (by simp; done) | exact rfl | exact trivial | apply And.intro | omega | (simp; done)); done)); assumption; conv => whnf)
      | (refine callP_sn ?_ (isPuzzle_ok ?_ ?_ ?_ ?_) ?_; (focus ((repeat' first | exact snapRow | exact snap_row (by simp; done) | exact rfl | exact trivial | apply And.intro | omega | (simp; done)); done)); assumption; conv => whnf)
      | (refine call_sn ?_ (within_ok ?_ ?_ ?_) ?_; (focus ((repeat' first | exact snapRow | exact snap_row (by simp; done) | exact rfl | exact trivial | apply And.intro | omega | (simp; done)); done)); conv => whnf)
      | (refine callP_sn ?_ (within_ok ?_ ?_ ?_) ?_; (focus ((repeat' first | exact snapRow | exact snap_row (by simp; done) | exact rfl | exact trivial | apply And.intro | omega | (simp; done)); done)); conv => whnf)
      | (refine call_sn ?_ (hdr) ?_; (focus ((repeat' first | exact snapRow | exact snap_row (by simp; done) | exact rfl | exact trivial | apply And.intro | omega | (simp; done)); done)); conv => whnf)
      | (refine callP_sn ?_ (hdr) ?_; (focus ((repeat' first | exact snapRow | exact snap_row (by simp; done) | exact rfl | exact trivial | apply And.intro | omega | (simp; done)); done)); conv => whnf)
      | (refine And.intro ?_ ?_; (focus (first | decide | omega | (simp at *; omega) | (simp_all; done))); conv => whnf)
    all_goals first | exact res_pz rfl rfl (List.length_map _) | (exfalso; simp_all [inB]; done) | (exfalso; simp_all [inB]; omega)
  · rw [if_neg hg]
    have hg0 : dropB w h cl k = false := by simpa using hg
    rw [hg0]
    refine fn_of_body (G := G) Try.func41 rfl (by decide) (Nat.le_of_ble_eq_true rfl) ?_
    conv => whnf
    repeat' first
      | exact True.intro
      | (refine draw_mkF ?_ ?_ ?_; (focus (decide +kernel)); (focus (kernel_rfl)); conv => whnf)
      | (refine Both.mk ?_ ?_ <;> conv => whnf)
      | (refine NilQ.mk (fun hnil => ?_) ?_ <;> conv => whnf)
      | (refine draw_mk (by kernel_rfl) ?_; conv => whnf)
      | (refine Br.mk (fun hb => ?_) (fun hb => ?_) <;> conv => whnf)
      | (refine call_sn ?_ (isPuzzle_ok ?_ ?_ ?_ ?_) ?_; (focus ((repeat' first | exact snapRow | exact snap_row (by simp; done) | exact rfl | exact trivial | apply And.intro | omega | (simp; done)); done)); assumption; conv => whnf)
      | (refine callP_sn ?_ (isPuzzle_ok ?_ ?_ ?_ ?_) ?_; (focus ((repeat' first | exact snapRow | exact snap_row (by simp; done) | exact rfl | exact trivial | apply And.intro | omega | (simp; done)); done)); assumption; conv => whnf)
      | (refine call_sn ?_ (within_ok ?_ ?_ ?_) ?_; (focus ((repeat' first | exact snapRow | exact snap_row (by simp; done) | exact rfl | exact trivial | apply And.intro | omega | (simp; done)); done)); conv => whnf)
      | (refine callP_sn ?_ (within_ok ?_ ?_ ?_) ?_; (focus ((repeat' first | exact snapRow | exact snap_row (by simp; done) | exact rfl | exact trivial | apply And.intro | omega | (simp; done)); done)); conv => whnf)
    all_goals first | exact res_pz0 | (exfalso; simp_all [dropB]; done) | (exfalso; simp_all [dropB]; omega)

theorem specDrop (w h : Int) (cl : List (Int × Int × Int)) (k : Int) (hn : cl.length ≤ 2 ^ 40) : Fn G.P 40 [.agg (dPuzzle w h cl), aI k]
    (.tup [.agg (dPuzzle (dropW w h cl k).1 (dropW w h cl k).2.1 (dropW w h cl k).2.2), aB (dropB w h cl k)]) := by
  have hw1 := wrap_len1 hn
  unfold dropW
  by_cases hg : dropB w h cl k = true
  · rw [if_pos hg, hg]
    have hg' := hg
    simp only [dropB, inB, Bool.and_eq_true, decide_eq_true_eq] at hg'
    obtain ⟨hgd, hk⟩ := hg'
    have hcl := goodB_len hgd
    obtain ⟨j, rfl⟩ : ∃ j : Nat, k = j := ⟨k.toNat, by omega⟩
    have hdr := pzWithout_ok cl j (by omega) (Nat.le_trans hcl (by decide))
    refine fn_of_body (G := G) Try.func40 rfl (by decide) (Nat.le_of_ble_eq_true rfl) ?_
    conv => whnf
    repeat' first
      | exact True.intro
      | (refine draw_mkF ?_ ?_ ?_; (focus (decide +kernel)); (focus (kernel_rfl)); conv => whnf)
      | (refine Both.mk ?_ ?_ <;> conv => whnf)
      | (refine NilQ.mk (fun hnil => ?_) ?_ <;> conv => whnf)
      | (refine draw_mk (by kernel_rfl) ?_; conv => whnf)
      | (refine Br.mk (fun hb => ?_) (fun hb => ?_) <;> conv => whnf)
      | (refine call_sn ?_ (pzGood_ok ?_ ?_ ?_ ?_) ?_; (focus ((repeat' first | exact snapRow | exact snap_row (by simp; done) | exact rfl | exact trivial | apply And.intro | omega | (simp; done)); done)); assumption; conv => whnf)
      | (refine callP_sn ?_ (pzGood_ok ?_ ?_ ?_ ?_) ?_; (focus ((repeat' first | exact snapRow | exact snap_row (by simp; done) | exact rfl | exact trivial | apply And.intro | omega | (simp; done)); done)); assumption; conv => whnf)
      | (refine call_sn ?_ (l1In_ok ?_ ?_ ?_) ?_; (focus ((repeat' first | exact snapRow | exact snap_row (by simp; done) | exact rfl | exact trivial | apply And.intro | omega | (simp; done)); done)); conv => whnf)
      | (refine callP_sn ?_ (l1In_ok ?_ ?_ ?_) ?_; (focus ((repeat' first | exact snapRow | exact snap_row (by simp; done) | exact rfl | exact trivial | apply And.intro | omega | (simp; done)); done)); conv => whnf)
      | (refine call_body (G := G) Try.func69 rfl (by decide) (Nat.le_of_ble_eq_true rfl) ?_; conv => whnf)
      | (refine callP_text (call_body (G := G) Try.func69 rfl (by decide) (Nat.le_of_ble_eq_true rfl) ?_); conv => whnf)
      | (refine call_sn ?_ (hdr) ?_; (focus ((repeat' first | exact snapRow | exact snap_row (by simp; done) | exact rfl | exact trivial | apply And.intro | omega | (simp; done)); done)); conv => whnf)
      | (refine callP_sn ?_ (hdr) ?_; (focus ((repeat' first | exact snapRow | exact snap_row (by simp; done) | exact rfl | exact trivial | apply And.intro | omega | (simp; done)); done)); conv => whnf)
      | (refine And.intro ?_ ?_; (focus (first | decide | omega | (simp at *; omega) | (simp_all; done))); conv => whnf)
    all_goals first | exact res_pz rfl rfl (List.length_map _) | (exfalso; simp_all [inB]; done) | (exfalso; simp_all [inB]; omega)
  · rw [if_neg hg]
    have hg0 : dropB w h cl k = false := by simpa using hg
    rw [hg0]
    refine fn_of_body (G := G) Try.func40 rfl (by decide) (Nat.le_of_ble_eq_true rfl) ?_
    conv => whnf
    repeat' first
      | exact True.intro
      | (refine draw_mkF ?_ ?_ ?_; (focus (decide +kernel)); (focus (kernel_rfl)); conv => whnf)
      | (refine Both.mk ?_ ?_ <;> conv => whnf)
      | (refine NilQ.mk (fun hnil => ?_) ?_ <;> conv => whnf)
      | (refine draw_mk (by kernel_rfl) ?_; conv => whnf)
      | (refine Br.mk (fun hb => ?_) (fun hb => ?_) <;> conv => whnf)
      | (refine call_sn ?_ (pzGood_ok ?_ ?_ ?_ ?_) ?_; (focus ((repeat' first | exact snapRow | exact snap_row (by simp; done) | exact rfl | exact trivial | apply And.intro | omega | (simp; done)); done)); assumption; conv => whnf)
      | (refine callP_sn ?_ (pzGood_ok ?_ ?_ ?_ ?_) ?_; (focus ((repeat' first | exact snapRow | exact snap_row (by simp; done) | exact rfl | exact trivial | apply And.intro | omega | (simp; done)); done)); assumption; conv => whnf)
      | (refine call_sn ?_ (l1In_ok ?_ ?_ ?_) ?_; (focus ((repeat' first | exact snapRow | exact snap_row (by simp; done) | exact rfl | exact trivial | apply And.intro | omega | (simp; done)); done)); conv => whnf)
      | (refine callP_sn ?_ (l1In_ok ?_ ?_ ?_) ?_; (focus ((repeat' first | exact snapRow | exact snap_row (by simp; done) | exact rfl | exact trivial | apply And.intro | omega | (simp; done)); done)); conv => whnf)
    all_goals first | exact res_pz0 | (exfalso; simp_all [dropB]; done) | (exfalso; simp_all [dropB]; omega)

theorem dropW_len {w h : Int} {cl : List (Int × Int × Int)} {k : Int} (hn : cl.length ≤ 2 ^ 20) : (dropW w h cl k).2.2.length ≤ 2 ^ 21 := by
  unfold dropW
  split
  · have := List.length_eraseIdx_le cl k.toNat
    show (cl.eraseIdx k.toNat).length ≤ _
    omega
  · simp

theorem dropLaw_ok (w h : Int) (cl : List (Int × Int × Int)) (k : Int) (hn : cl.length ≤ maxLen) : Fn G.P 11 [.agg (dPuzzle w h cl), aI k] (.one (aB true)) := by
  have hs := fun hn => specDrop w h cl k hn
  have hi := fun hn => implDrop w h cl k hn
  have hl := dropW_len (w := w) (h := h) (cl := cl) (k := k)
  generalize dropW w h cl k = r at hs hi hl
  obtain ⟨W, H, CL⟩ := r
  generalize dropB w h cl k = t at hs hi
  dsimp only at hs hi hl
  refine fn_of_body (G := G) Try.func11 rfl (by decide) (Nat.le_of_ble_eq_true rfl) ?_
  conv => whnf
  repeat' first
    | exact True.intro
    | (refine Both.mk ?_ ?_ <;> conv => whnf)
    | (refine NilQ.mk (fun hnil => ?_) ?_ <;> conv => whnf)
    | (refine Br.mk (fun hb => ?_) (fun hb => ?_) <;> conv => whnf)
    | (refine call_sn ?_ (szPuzzle_ok ?_ ?_ ?_ ?_) ?_; (focus ((repeat' first | exact snapRow | exact snap_row (by simp; done) | exact rfl | exact trivial | apply And.intro | omega | (simp; done)); done)); assumption; conv => whnf)
    | (refine callP_sn ?_ (szPuzzle_ok ?_ ?_ ?_ ?_) ?_; (focus ((repeat' first | exact snapRow | exact snap_row (by simp; done) | exact rfl | exact trivial | apply And.intro | omega | (simp; done)); done)); assumption; conv => whnf)
    | (refine And.intro ?_ ?_; (focus (first | decide | omega | (simp at *; omega) | (simp_all; done))); conv => whnf)
  · exact ⟨⟨rfl, trivial⟩, by simp [refVs, refCV]⟩
  have hn1 : cl.length ≤ 2 ^ 20 := by
    by_cases hc : cl.length ≤ 1048576
    · omega
    · simp [hc] at hb
  clear hb hn
  have hn2 : cl.length ≤ 2 ^ 40 := by omega
  have hs := hs hn2
  have hi := hi hn2
  have hl := hl hn1
  have hl2 : CL.length ≤ 2 ^ 40 := by omega
  have heq := eqPuzzle_ok W H CL W H CL hl2
  have heq0 := eqPuzzle_ok w h cl w h cl hn2
  repeat' first
    | exact True.intro
    | (refine Both.mk ?_ ?_ <;> conv => whnf)
    | (refine NilQ.mk (fun hnil => ?_) ?_ <;> conv => whnf)
    | ((fail_if_success (refine draw_mkF ?_ ?_ ?_; (focus (decide +kernel)))); refine draw_mk (by kernel_rfl) ?_; conv => whnf)
    | (refine Br.mk (fun hb => ?_) (fun hb => ?_) <;> conv => whnf)
    | (refine call_sn ?_ (toPuzzle_ok ?_ ?_ ?_ ?_) ?_; (focus ((repeat' first | exact snapRow | exact snap_row (by simp; done) | exact rfl | exact trivial | apply And.intro | omega | (simp; done)); done)); assumption; conv => whnf)
    | (refine callP_sn ?_ (toPuzzle_ok ?_ ?_ ?_ ?_) ?_; (focus ((repeat' first | exact snapRow | exact snap_row (by simp; done) | exact rfl | exact trivial | apply And.intro | omega | (simp; done)); done)); assumption; conv => whnf)
    | (refine call_sn ?_ (hs) ?_; (focus ((repeat' first | exact snapRow | exact snap_row (by simp; done) | exact rfl | exact trivial | apply And.intro | omega | (simp; done)); done)); conv => whnf)
    | (refine callP_sn ?_ (hs) ?_; (focus ((repeat' first | exact snapRow | exact snap_row (by simp; done) | exact rfl | exact trivial | apply And.intro | omega | (simp; done)); done)); conv => whnf)
    | (refine call_sn ?_ (hi) ?_; (focus ((repeat' first | exact snapRow | exact snap_row (by simp; done) | exact rfl | exact trivial | apply And.intro | omega | (simp; done)); done)); conv => whnf)
    | (refine callP_sn ?_ (hi) ?_; (focus ((repeat' first | exact snapRow | exact snap_row (by simp; done) | exact rfl | exact trivial | apply And.intro | omega | (simp; done)); done)); conv => whnf)
    | (refine call_sn ?_ (heq) ?_; (focus ((repeat' first | exact snapRow | exact snap_row (by simp; done) | exact rfl | exact trivial | apply And.intro | omega | (simp; done)); done)); conv => whnf)
    | (refine callP_sn ?_ (heq) ?_; (focus ((repeat' first | exact snapRow | exact snap_row (by simp; done) | exact rfl | exact trivial | apply And.intro | omega | (simp; done)); done)); conv => whnf)
    | (refine call_sn ?_ (heq0) ?_; (focus ((repeat' first | exact snapRow | exact snap_row (by simp; done) | exact rfl | exact trivial | apply And.intro | omega | (simp; done)); done)); conv => whnf)
    | (refine callP_sn ?_ (heq0) ?_; (focus ((repeat' first | exact snapRow | exact snap_row (by simp; done) | exact rfl | exact trivial | apply And.intro | omega | (simp; done)); done)); conv => whnf)
    | (refine markPuzzle_x rfl rfl ?_ ?_ ?_ ?_; iterate 3 (focus (first | exact rfl | decide | omega | (simp; done) | (simp; omega) | (constructor <;> omega))); conv => whnf)
    | (refine heldPuzzle_x rfl ?_ ?_ ?_ ?_; iterate 3 (focus (first | exact rfl | decide | omega | (simp; done) | (simp; omega) | (constructor <;> omega))); conv => whnf)
    | (refine And.intro ?_ ?_; (focus (first | decide | omega | (simp at *; omega) | (simp_all; done))); conv => whnf)
  all_goals first | (exfalso; simp at hb; done) | (exfalso; simp at hb; omega) | skip
  exact ⟨⟨rfl, trivial⟩, by simp [refVs, refCV]⟩

theorem dropLaw {W : World} {R : Nat → Prop} (ds : List DC) (hg : ∃ us, Good W R [.int .i64, .int .i64, .slice [.int .i64, .int .i64, .int .i64]] ds us) (k : Int) (_ : (Lit.int .i64 k).wf = true) :
    Fn G.P 11 [.agg ds, aI k] (.one (aB true)) := by
  obtain ⟨us, hg⟩ := hg
  obtain ⟨w, h, cl, rfl, hn⟩ := puzzle_of_good hg
  exact dropLaw_ok w h cl k hn

end Go.Proofs.Ytbmaofepmheeeaa

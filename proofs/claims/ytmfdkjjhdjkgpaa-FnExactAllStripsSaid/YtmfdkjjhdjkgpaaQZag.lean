/- All strips: both walks. -/
import Derived.Test.YtmfdkjjhdjkgpaaQGood
namespace Go.Proofs.Ytmfdkjjhdjkgpaa
open Go Go.RowKit
set_option maxRecDepth 10000
set_option maxHeartbeats 4000000
set_option linter.unusedSimpArgs false

abbrev C3 := Int × Int × List S3

/-- A cut in a row of cuts. -/
def gcut (c : C3) : List GC := [.d (dI c.1), .d (dI c.2.1), .row 3 (c.2.2.map r3)]

/-- A row of n cuts. -/
def gOn : Nat → List C3 → OB
  | 0, _ => .arr 3 []
  | _ + 1, L => .grid 3 (L.map gcut)

/-- The cuts of the ranks below n. -/
noncomputable def allC (h l n : Nat) : List C3 := (List.range n).map fun k : Nat => (cofL h (ranked h l (k : Int))).1

theorem allC_len (h l n : Nat) : (allC h l n).length = n := by simp [allC]

theorem allC_succ (h l n : Nat) : allC h l (n + 1) = allC h l n ++ [(cofL h (ranked h l n)).1] := by simp [allC, List.range_succ]

theorem implAll_yes (h l : Nat) (hh : 1 ≤ h ∧ h < 5) (hl : 1 ≤ l ∧ l ≤ 30) (hc : Cn h l 0 ≤ 100) (hA : h * l ≤ 30) :
    CallX G.P 12 [.c (vI h), .c (vI l)] [] (fun sv objs' => sv = .tup [.c (.sl 0 0 3 0 (Cn h l 0) none), .c (.d (.v (.bool true)))] ∧ ∃ gs, objs' = (0, gOn (Cn h l 0) (allC h l (Cn h l 0))) :: gs) := by
  have hcnt := implCount h l
  rw [countR_eq hh hl] at hcnt
  have hHl : (h : Int) * (l : Int) = ((h * l : Nat) : Int) := (Int.natCast_mul _ _).symm
  have hw : IntKind.i64.wrap ((h : Int) * (l : Int)) = ((h * l : Nat) : Int) := by rw [hHl, wrap_i64 _ (by omega) (by omega)]
  have hc1 : ¬ ((100 : Int) < ((Cn h l 0 : Nat) : Int)) := by omega
  have hc2 : ¬ ((30 : Int) < ((h * l : Nat) : Int)) := by omega
  generalize hN : Cn h l 0 = N at hc hcnt hc1 ⊢
  refine call_body (G := G) Try.func12 rfl (by decide) (Nat.le_of_ble_eq_true rfl) ?_
  conv => whnf
  repeat' first
    | exact True.intro
    | (refine draw_mkF ?_ ?_ ?_; (focus (decide +kernel)); (focus (kernel_rfl)); conv => whnf)
    | (refine Both.mk ?_ ?_ <;> conv => whnf)
    | (refine OwnQ.own ?_; conv => whnf)
    | (refine NilQ.mk (fun hnil => ?_) ?_ <;> conv => whnf)
    | (refine draw_mk (by kernel_rfl) ?_; conv => whnf)
    | (refine Br.mk (fun hb => (by exfalso; first | (simp [hw, hc1, hc2, hA, Int.not_lt.2, hc] at hb; done) | (simp [hw, hc1, hc2, hA, Int.not_lt.2, hc] at hb; omega))) (fun hb => ?_); clear hb; conv => whnf)
    | (refine Br.mk (fun hb => ?_) (fun hb => (by exfalso; first | (simp [hw, hc1, hc2, hA, Int.not_lt.2, hc] at hb; done) | (simp [hw, hc1, hc2, hA, Int.not_lt.2, hc] at hb; omega))); clear hb; conv => whnf)
    | (refine Br.mk (fun hb => ?_) (fun hb => ?_) <;> conv => whnf)
    | (refine call_sn ?_ (hcnt) ?_; (focus ((repeat' first | exact snapRow | exact snap_row (by simp; done) | exact rfl | exact trivial | apply And.intro | omega | (simp; done)); done)); conv => whnf)
    | (refine callP_sn ?_ (hcnt) ?_; (focus ((repeat' first | exact snapRow | exact snap_row (by simp; done) | exact rfl | exact trivial | apply And.intro | omega | (simp; done)); done)); conv => whnf)
    | (refine And.intro ?_ ?_; (focus (first | decide | omega | (simp at *; omega) | (simp_all; done))); conv => whnf)
  refine .inl ⟨Nat, fun i => N - i, fun i => i ≤ N, fun i => ⟨[(0, .one (.c (vI h))), (1, .one (.c (vI l))), (4, .one (.c .nilsl)), (5, .one (.c (.d (.v (.bool false))))), (8, .one (.c (.sl 0 0 3 0 i none))), (31, .one (.c (vI N))), (32, .one (.c (vI i)))],
    [(0, gOn i (allC h l i))], _⟩, 0, Nat.zero_le _, weak_cap.trans (weak_of rfl ?_ rfl (Nat.zero_le _)), fun i hi => ?_⟩
  · (repeat' first | exact rfl | exact trivial | apply And.intro | (simp [getE]; done))
  replace hi : i ≤ N := hi
  have hend : i = N → gOn i (allC h l i) = gOn N (allC h l N) := fun e => by rw [e]
  have hf := fun hlt : i < N => implRanked_yes h l i hh hl ⟨by omega, by omega⟩
  have hsucc := allC_succ h l i
  have hlen := allC_len h l i
  generalize cofL h (ranked h l i) = C at hf hsucc
  obtain ⟨⟨cw, ch, cl⟩, cb⟩ := C
  have hwi : IntKind.i64.wrap ((i : Int) + 1) = ((i + 1 : Nat) : Int) := by rw [wrap_i64 _ (by omega) (by omega)]; omega
  cases i with
  | zero =>
    conv => whnf
    refine Br.mk (fun hb => ?_) (fun hb => ?_) <;> conv => whnf
    · have hltN := of_decide_eq_true hb
      have hf := hf (by omega)
      clear hb
      repeat' first
        | exact True.intro
        | (refine draw_mkF ?_ ?_ ?_; (focus (decide +kernel)); (focus (kernel_rfl)); conv => whnf)
        | (refine Both.mk ?_ ?_ <;> conv => whnf)
        | (refine OwnQ.own ?_; conv => whnf)
        | (refine NilQ.mk (fun hnil => ?_) ?_ <;> conv => whnf)
        | (refine draw_mk (by kernel_rfl) ?_; conv => whnf)
        | (refine Br.mk (fun hb => ?_) (fun hb => ?_) <;> conv => whnf)
        | (refine call_sn ?_ (hf) ?_; (focus ((repeat' first | exact snapRow | exact snap_row (by simp; done) | exact rfl | exact trivial | apply And.intro | omega | (simp; done)); done)); conv => whnf)
        | (refine callP_sn ?_ (hf) ?_; (focus ((repeat' first | exact snapRow | exact snap_row (by simp; done) | exact rfl | exact trivial | apply And.intro | omega | (simp; done)); done)); conv => whnf)
        | (refine And.intro ?_ ?_; (focus (first | decide | omega | (simp at *; omega) | (simp_all; done))); conv => whnf)
      refine ⟨0 + 1, by omega, by show N - (0 + 1) < N - 0; omega, weak_capver 0 1 0 ?_ ?_ rfl rfl (Nat.zero_le _) (Nat.zero_le _)⟩
      · show [(1, OB.grid 3 _)] = [(1, OB.grid 3 ((allC h l (0 + 1)).map gcut))]
        rw [hsucc, List.take_length]
        rfl
      · rw [hwi]
        (repeat' first | exact rfl | exact trivial | apply And.intro | (simp [getE]; done))
    · have hie : N = 0 := by simp at hb; omega
      subst hie
      exact ⟨rfl, [], rfl⟩
  | succ i =>
    conv => whnf
    refine Br.mk (fun hb => ?_) (fun hb => ?_) <;> conv => whnf
    · have hltN := of_decide_eq_true hb
      have hf := hf (by omega)
      clear hb
      repeat' first
        | exact True.intro
        | (refine draw_mkF ?_ ?_ ?_; (focus (decide +kernel)); (focus (kernel_rfl)); conv => whnf)
        | (refine Both.mk ?_ ?_ <;> conv => whnf)
        | (refine OwnQ.own ?_; conv => whnf)
        | (refine NilQ.mk (fun hnil => ?_) ?_ <;> conv => whnf)
        | (refine draw_mk (by kernel_rfl) ?_; conv => whnf)
        | (refine Br.mk (fun hb => ?_) (fun hb => ?_) <;> conv => whnf)
        | (refine call_sn ?_ (hf) ?_; (focus ((repeat' first | exact snapRow | exact snap_row (by simp; done) | exact rfl | exact trivial | apply And.intro | omega | (simp; done)); done)); conv => whnf)
        | (refine callP_sn ?_ (hf) ?_; (focus ((repeat' first | exact snapRow | exact snap_row (by simp; done) | exact rfl | exact trivial | apply And.intro | omega | (simp; done)); done)); conv => whnf)
        | (refine And.intro ?_ ?_; (focus (first | decide | omega | (simp at *; omega) | (simp_all; done))); conv => whnf)
      refine ⟨i + 1 + 1, by omega, by show N - (i + 1 + 1) < N - (i + 1); omega, weak_capver 0 1 0 ?_ ?_ rfl rfl (Nat.zero_le _) (Nat.zero_le _)⟩
      · show [(1, OB.grid 3 _)] = [(1, OB.grid 3 ((allC h l (i + 1 + 1)).map gcut))]
        rw [hsucc, List.take_length, List.map_append]
        rfl
      · rw [hwi]
        (repeat' first | exact rfl | exact trivial | apply And.intro | (simp [getE]; done))
    · have hie : N = i + 1 := by simp at hb; omega
      subst hie
      exact ⟨rfl, [], rfl⟩

/-- Each strip is a cut. -/
theorem fine_all {h l : Nat} (hh : 1 ≤ h ∧ h < 5) (hl : 1 ≤ l ∧ l ≤ 30) (hA : h * l ≤ 30) {k : Nat} (hk : k < Cn h l 0) : (stF h (ranked h l (k : Int))).2 = true ∧ (stF h (ranked h l (k : Int))).1 = (cofL h (ranked h l (k : Int))).1 ∧ (ranked h l (k : Int)).length ≤ 30 ∧ ∀ s ∈ ranked h l (k : Int), 1 ≤ s ∧ s ≤ 4 := by
  have hr : 0 ≤ (k : Int) ∧ (k : Int) < (Cn h l 0 : Nat) := by omega
  obtain ⟨g1, _⟩ := ranked_len hh hl hr
  obtain ⟨g2, _⟩ := ranked_good hh hl hr (by omega)
  obtain ⟨_, g3⟩ := ranked_facts hh hl hr
  have e := cofL_stF (h := h) (S := ranked h l (k : Int))
  by_cases c : (stF h (ranked h l (k : Int))).2 = true
  · rw [if_pos c] at e
    exact ⟨c, by rw [e], by omega, g3⟩
  · rw [if_neg c] at e
    rw [e] at g2
    cases g2

theorem specAll_yes (h l : Nat) (hh : 1 ≤ h ∧ h < 5) (hl : 1 ≤ l ∧ l ≤ 30) (hc : Cn h l 0 ≤ 100) (hA : h * l ≤ 30) :
    CallX G.P 11 [.c (vI h), .c (vI l)] [] (fun sv objs' => sv = .tup [.c (.sl 0 0 3 0 (Cn h l 0) none), .c (.d (.v (.bool true)))] ∧ ∃ gs, objs' = (0, gOn (Cn h l 0) (allC h l (Cn h l 0))) :: gs) := by
  have hcnt := specCount h l
  rw [countR_eq hh hl] at hcnt
  have hfine := fun {k : Nat} (hk : k < Cn h l 0) => fine_all hh hl hA hk
  have hc1 : ¬ ((100 : Int) < ((Cn h l 0 : Nat) : Int)) := by omega
  have hrk := fun (k : Nat) (hk : k < Cn h l 0) => stRanked_ok h l k hh hl ⟨by omega, by omega⟩
  generalize hN : Cn h l 0 = N at hc hcnt hc1 hfine hrk ⊢
  refine call_body (G := G) Try.func11 rfl (by decide) (Nat.le_of_ble_eq_true rfl) ?_
  conv => whnf
  repeat' first
    | exact True.intro
    | (refine draw_mkF ?_ ?_ ?_; (focus (decide +kernel)); (focus (kernel_rfl)); conv => whnf)
    | (refine Both.mk ?_ ?_ <;> conv => whnf)
    | (refine OwnQ.own ?_; conv => whnf)
    | (refine NilQ.mk (fun hnil => ?_) ?_ <;> conv => whnf)
    | (refine draw_mk (by kernel_rfl) ?_; conv => whnf)
    | (refine Br.mk (fun hb => (by exfalso; first | (simp [hc1, Int.not_lt.2, hc] at hb; done) | (simp [hc1, Int.not_lt.2, hc] at hb; omega))) (fun hb => ?_); clear hb; conv => whnf)
    | (refine Br.mk (fun hb => ?_) (fun hb => (by exfalso; first | (simp [hc1, Int.not_lt.2, hc] at hb; done) | (simp [hc1, Int.not_lt.2, hc] at hb; omega))); clear hb; conv => whnf)
    | (refine Br.mk (fun hb => ?_) (fun hb => ?_) <;> conv => whnf)
    | (refine call_sn ?_ (hcnt) ?_; (focus ((repeat' first | exact snapRow | exact snap_row (by simp; done) | exact rfl | exact trivial | apply And.intro | omega | (simp; done)); done)); conv => whnf)
    | (refine callP_sn ?_ (hcnt) ?_; (focus ((repeat' first | exact snapRow | exact snap_row (by simp; done) | exact rfl | exact trivial | apply And.intro | omega | (simp; done)); done)); conv => whnf)
    | (refine And.intro ?_ ?_; (focus (first | decide | omega | (simp at *; omega) | (simp_all; done))); conv => whnf)
  refine .inl ⟨Nat, fun i => N - i, fun i => i ≤ N, fun i => ⟨[(0, .one (.c (vI h))), (1, .one (.c (vI l))), (4, .one (.c .nilsl)), (5, .one (.c (.d (.v (.bool false))))), (6, .one (.c (vI N))), (8, .one (.c (.sl 0 0 3 0 i none))), (9, .one (.c (vI i)))],
    [(0, gOn i (allC h l i))], _⟩, 0, Nat.zero_le _, weak_cap.trans (weak_nilof (t := []) 0 3 rfl ?_ rfl rfl rfl (Nat.zero_le _) (Nat.zero_le _)), fun i hi => ?_⟩
  · (repeat' first | exact rfl | exact trivial | apply And.intro | (simp [getE]; done))
  replace hi : i ≤ N := hi
  have hsucc := allC_succ h l i
  have hlen := allC_len h l i
  have hf0 := fun hlt : i < N => hrk i hlt
  have hf1 := fun hlt : i < N => (stFill_ok h (ranked h l i) hh (by have := (hfine hlt).2.2.1; omega) (fun s hs => by have := (hfine hlt).2.2.2 s hs; omega))
  have hf2 := fun hlt : i < N => (hfine hlt).1
  have hf3 := fun hlt : i < N => (hfine hlt).2.1
  have hf4 := fun hlt : i < N => (hfine hlt).2.2.1
  generalize cofL h (ranked h l i) = C at hsucc hf3
  generalize hD : stF h (ranked h l i) = D at hf1 hf2 hf3
  generalize ranked h l i = S at hf0 hf1 hf4
  obtain ⟨⟨cw, ch, cl⟩, cb⟩ := C
  obtain ⟨⟨dw, dh, dl⟩, D2⟩ := D
  clear hD
  have hwi : IntKind.i64.wrap ((i : Int) + 1) = ((i + 1 : Nat) : Int) := by rw [wrap_i64 _ (by omega) (by omega)]; omega
  cases i with
  | zero =>
    conv => whnf
    refine Br.mk (fun hb => ?_) (fun hb => ?_) <;> conv => whnf
    · have hltN := of_decide_eq_true hb
      have hlt : 0 < N := by omega
      have hf0 := hf0 hlt
      have hf1 := hf1 hlt
      have hf2 := hf2 hlt
      have hf3 := hf3 hlt
      have hf4 := hf4 hlt
      simp only [Prod.mk.injEq] at hf2 hf3
      obtain ⟨rfl, rfl, rfl⟩ := hf3
      subst hf2
      dsimp only at hf1
      clear hb
      repeat' first
        | exact True.intro
        | (refine draw_mkF ?_ ?_ ?_; (focus (decide +kernel)); (focus (kernel_rfl)); conv => whnf)
        | (refine Both.mk ?_ ?_ <;> conv => whnf)
        | (refine OwnQ.own ?_; conv => whnf)
        | (refine NilQ.mk (fun hnil => ?_) ?_ <;> conv => whnf)
        | (refine draw_mk (by kernel_rfl) ?_; conv => whnf)
        | (refine Br.mk (fun hb => (by exfalso; first | (simp [not_true_eq_false] at hb; done) | (simp [not_true_eq_false] at hb; omega))) (fun hb => ?_); clear hb; conv => whnf)
        | (refine Br.mk (fun hb => ?_) (fun hb => (by exfalso; first | (simp [not_true_eq_false] at hb; done) | (simp [not_true_eq_false] at hb; omega))); clear hb; conv => whnf)
        | (refine Br.mk (fun hb => ?_) (fun hb => ?_) <;> conv => whnf)
        | (refine call_sn ?_ (hf0) ?_; (focus ((repeat' first | exact snapRow | exact snap_row (by simp; done) | exact rfl | exact trivial | apply And.intro | omega | (simp; done)); done)); conv => whnf)
        | (refine callP_sn ?_ (hf0) ?_; (focus ((repeat' first | exact snapRow | exact snap_row (by simp; done) | exact rfl | exact trivial | apply And.intro | omega | (simp; done)); done)); conv => whnf)
        | (refine call_sn ?_ (hf1) ?_; (focus ((repeat' first | exact snapRow | exact snap_row (by simp; done) | exact rfl | exact trivial | apply And.intro | omega | (simp; done)); done)); conv => whnf)
        | (refine callP_sn ?_ (hf1) ?_; (focus ((repeat' first | exact snapRow | exact snap_row (by simp; done) | exact rfl | exact trivial | apply And.intro | omega | (simp; done)); done)); conv => whnf)
        | (refine And.intro ?_ ?_; (focus (first | decide | omega | (simp [contentOK, objRd, objAt, peel, List.length_map]; done) | (simp [contentOK, objRd, objAt, peel, List.length_map]; omega) | (simp [contentOK, objRd, objAt, peel, List.length_map] at *; omega))); conv => whnf)
      refine ⟨0 + 1, by omega, by show N - (0 + 1) < N - 0; omega, weak_capver 0 1 0 ?_ ?_ rfl rfl (Nat.zero_le _) (Nat.zero_le _)⟩
      · show [(1, OB.grid 3 _)] = [(1, OB.grid 3 ((allC h l (0 + 1)).map gcut))]
        rw [hsucc, List.take_length]
        rfl
      · rw [hwi]
        (repeat' first | exact rfl | exact trivial | apply And.intro | (simp [getE]; done))
    · have hie : N = 0 := by simp at hb; omega
      subst hie
      exact ⟨rfl, [], rfl⟩
  | succ i =>
    conv => whnf
    refine Br.mk (fun hb => ?_) (fun hb => ?_) <;> conv => whnf
    · have hltN := of_decide_eq_true hb
      have hlt : i + 1 < N := by omega
      have hf0 := hf0 hlt
      have hf1 := hf1 hlt
      have hf2 := hf2 hlt
      have hf3 := hf3 hlt
      have hf4 := hf4 hlt
      simp only [Prod.mk.injEq] at hf2 hf3
      obtain ⟨rfl, rfl, rfl⟩ := hf3
      subst hf2
      dsimp only at hf1
      clear hb
      repeat' first
        | exact True.intro
        | (refine draw_mkF ?_ ?_ ?_; (focus (decide +kernel)); (focus (kernel_rfl)); conv => whnf)
        | (refine Both.mk ?_ ?_ <;> conv => whnf)
        | (refine OwnQ.own ?_; conv => whnf)
        | (refine NilQ.mk (fun hnil => ?_) ?_ <;> conv => whnf)
        | (refine draw_mk (by kernel_rfl) ?_; conv => whnf)
        | (refine Br.mk (fun hb => (by exfalso; first | (simp [not_true_eq_false] at hb; done) | (simp [not_true_eq_false] at hb; omega))) (fun hb => ?_); clear hb; conv => whnf)
        | (refine Br.mk (fun hb => ?_) (fun hb => (by exfalso; first | (simp [not_true_eq_false] at hb; done) | (simp [not_true_eq_false] at hb; omega))); clear hb; conv => whnf)
        | (refine Br.mk (fun hb => ?_) (fun hb => ?_) <;> conv => whnf)
        | (refine call_sn ?_ (hf0) ?_; (focus ((repeat' first | exact snapRow | exact snap_row (by simp; done) | exact rfl | exact trivial | apply And.intro | omega | (simp; done)); done)); conv => whnf)
        | (refine callP_sn ?_ (hf0) ?_; (focus ((repeat' first | exact snapRow | exact snap_row (by simp; done) | exact rfl | exact trivial | apply And.intro | omega | (simp; done)); done)); conv => whnf)
        | (refine call_sn ?_ (hf1) ?_; (focus ((repeat' first | exact snapRow | exact snap_row (by simp; done) | exact rfl | exact trivial | apply And.intro | omega | (simp; done)); done)); conv => whnf)
        | (refine callP_sn ?_ (hf1) ?_; (focus ((repeat' first | exact snapRow | exact snap_row (by simp; done) | exact rfl | exact trivial | apply And.intro | omega | (simp; done)); done)); conv => whnf)
        | (refine And.intro ?_ ?_; (focus (first | decide | omega | (simp [contentOK, objRd, objAt, peel, List.length_map]; done) | (simp [contentOK, objRd, objAt, peel, List.length_map]; omega) | (simp [contentOK, objRd, objAt, peel, List.length_map] at *; omega))); conv => whnf)
      refine ⟨i + 1 + 1, by omega, by show N - (i + 1 + 1) < N - (i + 1); omega, weak_capver 0 1 0 ?_ ?_ rfl rfl (Nat.zero_le _) (Nat.zero_le _)⟩
      · show [(1, OB.grid 3 _)] = [(1, OB.grid 3 ((allC h l (i + 1 + 1)).map gcut))]
        rw [hsucc, List.take_length, List.map_append]
        rfl
      · rw [hwi]
        (repeat' first | exact rfl | exact trivial | apply And.intro | (simp [getE]; done))
    · have hie : N = i + 1 := by simp at hb; omega
      subst hie
      exact ⟨rfl, [], rfl⟩

end Go.Proofs.Ytmfdkjjhdjkgpaa

namespace Go.Proofs.Ytmfdkjjhdjkgpaa
open Go Go.RowKit
set_option maxRecDepth 10000
set_option maxHeartbeats 4000000
set_option linter.unusedSimpArgs false

theorem ElG.get {xs : List (List GC)} {i : Nat} {p : List GC → Prop} {x : List GC} (h : xs[i]? = some x) (g : p x) : ElG xs i p :=
  ⟨fun y hy => by rw [h] at hy; cases hy; exact g⟩

theorem gcut_row {L : List C3} {i : Nat} {w hh : Int} {sq : List S3} (h : L[i]? = some (w, hh, sq)) : rowAt 3 (L.map gcut) ((0 + ((i : Int)).toNat) * 3 + 1 + 1) = some (3, sq.map r3) := by
  unfold rowAt
  rw [Nat.zero_add, Int.toNat_natCast, show i * 3 + 1 + 1 = 3 * i + 2 by omega, Nat.mul_add_div (by omega), Nat.mul_add_mod, List.getElem?_map, show i + 2 / 3 = i by omega, h]
  rfl

theorem eqCutS_x (L : List C3) (c1 c2 : Option Nat) (hn : L.length ≤ 2 ^ 20) (hs : ∀ c ∈ L, c.2.2.length ≤ 30) :
    CallX G.P 13 [.c (.sl 0 0 3 0 L.length c1), .c (.sl 1 0 3 0 L.length c2)] [(0, gOn L.length L), (0, gOn L.length L)]
      (fun sv objs' => sv = .one (.c (.d (.v (.bool true)))) ∧ ∃ gs, objs' = (0, gOn L.length L) :: (0, gOn L.length L) :: gs) := by
  generalize hN : L.length = N at hn ⊢
  refine call_body (G := G) Try.func13 rfl (by decide) (Nat.le_of_ble_eq_true rfl) ?_
  cases N with
  | zero =>
    conv => whnf
    repeat' first
      | exact True.intro
      | (refine draw_mkF ?_ ?_ ?_; (focus (decide +kernel)); (focus (kernel_rfl)); conv => whnf)
      | (refine Both.mk ?_ ?_ <;> conv => whnf)
      | (refine OwnQ.own ?_; conv => whnf)
      | (refine NilQ.mk (fun hnil => ?_) ?_ <;> conv => whnf)
      | (refine draw_mk (by kernel_rfl) ?_; conv => whnf)
      | (refine Br.mk (fun hb => (by exfalso; first | (simp [not_true_eq_false] at hb; done) | (simp [not_true_eq_false] at hb; omega))) (fun hb => ?_); clear hb; conv => whnf)
      | (refine Br.mk (fun hb => ?_) (fun hb => (by exfalso; first | (simp [not_true_eq_false] at hb; done) | (simp [not_true_eq_false] at hb; omega))); clear hb; conv => whnf)
      | (refine Br.mk (fun hb => ?_) (fun hb => ?_) <;> conv => whnf)
      | (refine And.intro ?_ ?_; (focus (first | decide | omega | (simp at *; omega) | (simp_all; done))); conv => whnf)
    refine .inl ⟨Unit, fun _ => 0, fun _ => True, fun _ => ⟨[(0, .one (.c (.sl 0 0 3 0 0 c1))), (1, .one (.c (.sl 1 0 3 0 0 c2))), (4, .one (.c (.d (.v (.bool false))))), (5, .one (.c (vI 0)))], [(0, .arr 3 []), (0, .arr 3 [])], _⟩, (), trivial, weak_of rfl ?_ rfl (Nat.le_refl _), fun _ _ => ?_⟩
    · (repeat' first | exact rfl | exact trivial | apply And.intro | (simp [getE]; done))
    conv => whnf
    exact ⟨rfl, [], rfl⟩
  | succ N =>
    conv => whnf
    repeat' first
      | exact True.intro
      | (refine draw_mkF ?_ ?_ ?_; (focus (decide +kernel)); (focus (kernel_rfl)); conv => whnf)
      | (refine Both.mk ?_ ?_ <;> conv => whnf)
      | (refine OwnQ.own ?_; conv => whnf)
      | (refine NilQ.mk (fun hnil => ?_) ?_ <;> conv => whnf)
      | (refine draw_mk (by kernel_rfl) ?_; conv => whnf)
      | (refine Br.mk (fun hb => (by exfalso; first | (simp [not_true_eq_false] at hb; done) | (simp [not_true_eq_false] at hb; omega))) (fun hb => ?_); clear hb; conv => whnf)
      | (refine Br.mk (fun hb => ?_) (fun hb => (by exfalso; first | (simp [not_true_eq_false] at hb; done) | (simp [not_true_eq_false] at hb; omega))); clear hb; conv => whnf)
      | (refine Br.mk (fun hb => ?_) (fun hb => ?_) <;> conv => whnf)
      | (refine And.intro ?_ ?_; (focus (first | decide | omega | (simp at *; omega) | (simp_all; done))); conv => whnf)
    refine .inl ⟨Nat, fun i => N + 1 - i, fun i => i ≤ N + 1, fun i => ⟨[(0, .one (.c (.sl 0 0 3 0 (N + 1) c1))), (1, .one (.c (.sl 1 0 3 0 (N + 1) c2))), (4, .one (.c (.d (.v (.bool false))))), (5, .one (.c (vI i)))], [(0, .grid 3 (L.map gcut)), (0, .grid 3 (L.map gcut))], _⟩, 0, Nat.zero_le _, weak_of rfl ?_ rfl (Nat.le_refl _), fun i hi => ?_⟩
    · (repeat' first | exact rfl | exact trivial | apply And.intro | (simp [getE]; done))
    replace hi : i ≤ N + 1 := hi
    conv => whnf
    refine Br.mk (fun hb => ?_) (fun hb => ?_) <;> conv => whnf
    · have hlt : i < L.length := by have := of_decide_eq_true hb; omega
      obtain ⟨⟨w, hh, sq⟩, hc⟩ : ∃ c, L[i]? = some c := ⟨_, List.getElem?_eq_getElem hlt⟩
      have hx : (L.map gcut)[0 + ((i : Int)).toNat]? = some [.d (dI w), .d (dI hh), .row 3 (sq.map r3)] := by
        rw [Nat.zero_add, Int.toNat_natCast, List.getElem?_map, hc]; rfl
      have hsq : sq.length ≤ 30 := hs _ (List.mem_of_getElem? hc)
      have heq := eqCut_ok w hh sq w hh sq (by omega)
      have hwi : IntKind.i64.wrap ((i : Int) + 1) = ((i + 1 : Nat) : Int) := by rw [wrap_i64 _ (by omega) (by omega)]; omega
      clear hb
      have hrow := gcut_row hc
      repeat' first
        | (refine ElG.get hx ?_; conv => whnf)
        | exact True.intro
        | (refine draw_mkF ?_ ?_ ?_; (focus (decide +kernel)); (focus (kernel_rfl)); conv => whnf)
        | (refine Both.mk ?_ ?_ <;> conv => whnf)
        | (refine OwnQ.own ?_; conv => whnf)
        | (refine NilQ.mk (fun hnil => ?_) ?_ <;> conv => whnf)
        | (refine draw_mk (by kernel_rfl) ?_; conv => whnf)
        | (refine Br.mk (fun hb => (by exfalso; first | (simp [not_true_eq_false] at hb; done) | (simp [not_true_eq_false] at hb; omega))) (fun hb => ?_); clear hb; conv => whnf)
        | (refine Br.mk (fun hb => ?_) (fun hb => (by exfalso; first | (simp [not_true_eq_false] at hb; done) | (simp [not_true_eq_false] at hb; omega))); clear hb; conv => whnf)
        | (refine Br.mk (fun hb => ?_) (fun hb => ?_) <;> conv => whnf)
        | (refine And.intro ?_ ?_; (focus (first | decide | omega | (simp [contentOK, objRd, objAt, peel, List.length_map, List.length_range]; done) | (simp [contentOK, objRd, objAt, peel, List.length_map, List.length_range]; omega) | (simp [contentOK, objRd, objAt, peel, List.length_map, List.length_range] at *; omega))); conv => whnf)
      refine callP_sn ?_ heq ?_
      · exact ⟨⟨rfl, rfl, ⟨rfl, _, hrow, rfl, rfl, rfl⟩, trivial⟩, ⟨rfl, rfl, ⟨rfl, _, hrow, rfl, rfl, rfl⟩, trivial⟩, trivial⟩
      conv => whnf
      repeat' first
        | (refine ElG.get hx ?_; conv => whnf)
        | exact True.intro
        | (refine draw_mkF ?_ ?_ ?_; (focus (decide +kernel)); (focus (kernel_rfl)); conv => whnf)
        | (refine Both.mk ?_ ?_ <;> conv => whnf)
        | (refine OwnQ.own ?_; conv => whnf)
        | (refine NilQ.mk (fun hnil => ?_) ?_ <;> conv => whnf)
        | (refine draw_mk (by kernel_rfl) ?_; conv => whnf)
        | (refine Br.mk (fun hb => (by exfalso; first | (simp [not_true_eq_false] at hb; done) | (simp [not_true_eq_false] at hb; omega))) (fun hb => ?_); clear hb; conv => whnf)
        | (refine Br.mk (fun hb => ?_) (fun hb => (by exfalso; first | (simp [not_true_eq_false] at hb; done) | (simp [not_true_eq_false] at hb; omega))); clear hb; conv => whnf)
        | (refine Br.mk (fun hb => ?_) (fun hb => ?_) <;> conv => whnf)
        | (refine And.intro ?_ ?_; (focus (first | decide | omega | (simp [contentOK, objRd, objAt, peel, List.length_map, List.length_range]; done) | (simp [contentOK, objRd, objAt, peel, List.length_map, List.length_range]; omega) | (simp [contentOK, objRd, objAt, peel, List.length_map, List.length_range] at *; omega))); conv => whnf)
      refine ⟨i + 1, (by omega : i + 1 ≤ N + 1), (by omega : N + 1 - (i + 1) < N + 1 - i), weak_of rfl ?_ rfl (Nat.le_refl _)⟩
      rw [hwi]
      (repeat' first | exact rfl | exact trivial | apply And.intro | (simp [getE]; done))
    · exact ⟨rfl, [], rfl⟩

theorem setG_setG {e p : Nat} {zs : List (List GC)} {g g' : GC} : setG e (setG e zs p g) p g' = setG e zs p g' := by
  unfold setG
  cases h : zs[p / e]? with
  | none => dsimp only; rw [h]
  | some x =>
    dsimp only
    have hlt := (List.getElem?_eq_some_iff.1 h).1
    rw [List.getElem?_set_self hlt]
    dsimp only
    rw [List.set_set, List.set_set]

theorem rowAt_setG {e p e' : Nat} {zs : List (List GC)} {x : List GC} {ys : List (List DC)} (h : zs[p / e]? = some x) (hp : p % e < x.length) : rowAt e (setG e zs p (.row e' ys)) p = some (e', ys) := by
  unfold rowAt setG
  rw [h]
  dsimp only
  rw [List.getElem?_set_self (List.getElem?_eq_some_iff.1 h).1]
  simp only [Option.bind_some]
  rw [List.getElem?_set_self hp]

theorem markSq_g {xs : List (List GC)} {i p : Nat} {a b : DC} {sq : List S3} {k : Int} (hx : xs[i]? = some [.d a, .d b, .row 3 (sq.map r3)]) (hl : sq.length ≤ 30) (hk : 0 ≤ k ∧ k ≤ 2 ^ 40) (hp : p = 3 * i + 2) :
    CallX G.P 48 [.c (.gsl 0 0 p 3 0 sq.length), .c (vI k)] [(0, .grid 3 xs)]
      (fun sv objs' => sv = .one (.c (vI (k + 3 * sq.length))) ∧ ∃ gs, objs' = (0, .grid 3 (xs.set i [.d a, .d b, .row 3 ((mk3 k sq.length).map r3)])) :: gs) := by
  have hd : p / 3 = i := by omega
  have hm : p % 3 = 2 := by omega
  have hset : ∀ ys, setG 3 xs p (.row 3 ys) = xs.set i [.d a, .d b, .row 3 ys] := fun ys => by unfold setG; rw [hd, hm, hx]; rfl
  have hx' : xs[p / 3]? = some [.d a, .d b, .row 3 (sq.map r3)] := by rw [hd]; exact hx
  have h1 : ∀ ys, rowAt 3 (setG 3 xs p (.row 3 ys)) p = some (3, ys) := fun ys => rowAt_setG hx' (by rw [hm]; show 2 < 3; omega)
  have h0 : setG 3 xs p (.row 3 (sq.map r3)) = xs := by
    rw [hset]
    refine List.ext_getElem? fun j => ?_
    rw [List.getElem?_set]
    by_cases e : i = j
    · subst e
      rw [if_pos rfl, if_pos (List.getElem?_eq_some_iff.1 hx).1, hx]
    · rw [if_neg e]
  have h2 : ∀ ys ys', rowAt 3 (setG 3 (setG 3 xs p (.row 3 ys)) p (.row 3 ys')) p = some (3, ys') := fun ys ys' => by rw [setG_setG]; exact h1 _
  have h3 : ∀ ys ys' ys'', rowAt 3 (setG 3 (setG 3 (setG 3 xs p (.row 3 ys)) p (.row 3 ys')) p (.row 3 ys'')) p = some (3, ys'') := fun ys ys' ys'' => by rw [setG_setG, setG_setG]; exact h1 _
  refine call_body (G := G) Try.func48 rfl (by decide) (Nat.le_of_ble_eq_true rfl) ?_
  conv => whnf
  refine .inl ⟨Nat, fun j => sq.length - j, fun j => j ≤ sq.length, fun j => ⟨[(0, .one (.c (.gsl 0 0 p 3 0 sq.length))), (1, .one (.c (vI (k + 3 * (j : Int))))), (5, .one (.c (vI j)))],
    [(0, .grid 3 (setG 3 xs p (.row 3 ((mk3 k j ++ sq.drop j).map r3))))], _⟩, 0, Nat.zero_le _, weak_of ?_ ?_ rfl (Nat.le_refl _), fun j hj => ?_⟩
  · show [(0, OB.grid 3 xs)] = _
    rw [show (mk3 k 0 ++ sq.drop 0) = sq by simp [mk3], h0]
  · simp [envOK, getE, envOf]
  have hml := mk3_len k j
  have hj' : j ≤ sq.length := hj
  conv => whnf
  repeat' first
    | (refine RowAt.mk' (h3 _ _ _) ?_; conv => whnf)
    | (refine RowAt.mk' (h2 _ _) ?_; conv => whnf)
    | (refine RowAt.mk' (h1 _) ?_; conv => whnf)
    | (refine And.intro True.intro ?_; conv => whnf)
    | exact True.intro
    | (refine draw_mkF ?_ ?_ ?_; (focus (decide +kernel)); (focus (kernel_rfl)); conv => whnf)
    | (refine Both.mk ?_ ?_ <;> conv => whnf)
    | (refine OwnQ.own ?_; conv => whnf)
    | (refine NilQ.mk (fun hnil => ?_) ?_ <;> conv => whnf)
    | (refine draw_mk (by kernel_rfl) ?_; conv => whnf)
    | (refine Br.mk (fun hb => ?_) (fun hb => ?_) <;> conv => whnf)
    | (refine El.mk (fun el hel => ?_); obtain rfl := set_get hel; conv => whnf)
    | (refine El.mk (fun el hel => ?_); obtain ⟨a1, b1, c1, hk1, rfl⟩ := r3_get hel; conv => whnf)
    | (refine And.intro ?_ ?_; (focus (first | decide | omega | (simp [contentOK, objRd, objAt, peel, List.length_map, List.length_set]; done) | (simp [contentOK, objRd, objAt, peel, List.length_map, List.length_set]; omega) | (simp [contentOK, objRd, objAt, peel, List.length_map, List.length_set] at *; omega))); conv => whnf)
  · simp only [decide_eq_true_eq] at hb
    have hlt : j < sq.length := by omega
    have w1 : IntKind.i64.wrap (k + 3 * (j : Int) + 1) = k + 3 * (j : Int) + 1 := wrap_i64 _ (by omega) (by omega)
    have w2 : IntKind.i64.wrap (k + 3 * (j : Int) + 1 + 1) = k + 3 * (j : Int) + 2 := by rw [wrap_i64 _ (by omega) (by omega)]; omega
    have w3 : IntKind.i64.wrap (k + 3 * (j : Int) + 2 + 1) = k + 3 * (j : Int) + 3 := by rw [wrap_i64 _ (by omega) (by omega)]; omega
    have w4 : IntKind.i64.wrap ((j : Int) + 1) = ((j + 1 : Nat) : Int) := by rw [wrap_i64 _ (by omega) (by omega)]; omega
    refine ⟨j + 1, (by omega : j + 1 ≤ sq.length), (by omega : sq.length - (j + 1) < sq.length - j), weak_of ?_ ?_ rfl (Nat.le_refl _)⟩
    · show [(0, OB.grid 3 _)] = _
      rw [w1, w2, mk3_succ, ← mark_set hlt]
      simp only [setG_setG, List.set_set, Int.toNat_natCast, Nat.zero_add]
      rfl
    · rw [w1, w2, w3, w4]
      simp [envOK, getE]
      omega
  · simp only [decide_eq_false_iff_not] at hb
    have : j = sq.length := by omega
    subst this
    exact ⟨[], by rw [hset]; simp⟩

end Go.Proofs.Ytmfdkjjhdjkgpaa

namespace Go.Proofs.Ytmfdkjjhdjkgpaa
open Go Go.RowKit
set_option maxRecDepth 10000
set_option maxHeartbeats 4000000
set_option linter.unusedSimpArgs false

theorem ElG.set' {xs : List (List GC)} {i : Nat} {p : List GC → Prop} {y : List GC} (h : i < xs.length) (g : p y) : ElG (xs.set i y) i p :=
  ElG.get (List.getElem?_set_self h) g

def wC (c : C3) : Nat := 2 + 3 * c.2.2.length

def wLen (l : List C3) : Nat := (l.map wC).sum

def mkCut (k : Int) (c : C3) : C3 := (k, k + 1, mk3 (k + 2) c.2.2.length)

/-- Cuts marked from k on. -/
def mkL : Int → List C3 → List C3
  | _, [] => []
  | k, c :: r => mkCut k c :: mkL (k + wC c) r

theorem mkL_snoc (c : C3) : ∀ (l : List C3) (k : Int), mkL k (l ++ [c]) = mkL k l ++ [mkCut (k + wLen l) c]
  | [], k => by simp [mkL, wLen]
  | d :: r, k => by
    rw [List.cons_append, mkL, mkL_snoc c r, mkL, List.cons_append]
    have : k + (wC d : Nat) + (wLen r : Nat) = k + (wLen (d :: r) : Nat) := by simp [wLen]; omega
    rw [this]

theorem mkL_len : ∀ (l : List C3) (k : Int), (mkL k l).length = l.length
  | [], _ => rfl
  | c :: r, k => by rw [mkL, List.length_cons, List.length_cons, mkL_len r]

theorem wLen_snoc (l : List C3) (c : C3) : wLen (l ++ [c]) = wLen l + wC c := by simp [wLen]

theorem wLen_le (l : List C3) (hs : ∀ c ∈ l, c.2.2.length ≤ 30) : wLen l ≤ 92 * l.length := by
  induction l with
  | nil => simp [wLen]
  | cons c r ih =>
    have h1 := ih (fun d hd => hs d (by simp [hd]))
    have h2 := hs c (by simp)
    have e : wLen (c :: r) = wC c + wLen r := by simp [wLen]
    rw [e, List.length_cons]
    unfold wC
    omega

theorem cur_next {L : List C3} {i : Nat} {c : C3} {k : Int} (h : L[i]? = some c) : ((mkL k (L.take i) ++ L.drop i).map gcut).set i (gcut (mkCut (k + wLen (L.take i)) c)) = (mkL k (L.take (i + 1)) ++ L.drop (i + 1)).map gcut := by
  have hi := (List.getElem?_eq_some_iff.1 h).1
  have hc := (List.getElem?_eq_some_iff.1 h).2
  have ht : L.take (i + 1) = L.take i ++ [c] := by rw [List.take_add_one, h]; rfl
  rw [ht, mkL_snoc, ← List.map_set, List.set_append_right _ _ (by rw [mkL_len, List.length_take]; omega), mkL_len, List.length_take, Nat.min_eq_left (by omega), Nat.sub_self, List.drop_eq_getElem_cons hi, List.set_cons_zero, List.append_assoc]
  rfl

theorem markSq_g' {xs : List (List GC)} {i p n : Nat} {a b : DC} {sq : List S3} {k : Int} (hx : xs[i]? = some [.d a, .d b, .row 3 (sq.map r3)]) (hn : n = sq.length) (hl : sq.length ≤ 30) (hk : 0 ≤ k ∧ k ≤ 2 ^ 40) (hp : p = 3 * i + 2) :
    CallX G.P 48 [.c (.gsl 0 0 p 3 0 n), .c (vI k)] [(0, .grid 3 xs)]
      (fun sv objs' => sv = .one (.c (vI (k + 3 * sq.length))) ∧ ∃ gs, objs' = (0, .grid 3 (xs.set i [.d a, .d b, .row 3 ((mk3 k sq.length).map r3)])) :: gs) := by
  subst hn
  exact markSq_g hx hl hk hp

theorem markCutS_x (L : List C3) (k : Int) (cap : Option Nat) (hn : L.length ≤ 100) (hs : ∀ c ∈ L, c.2.2.length ≤ 30) (hk : 0 ≤ k ∧ k ≤ 1000) :
    CallX G.P 14 [.c (.sl 0 0 3 0 L.length cap), .c (vI k)] [(0, gOn L.length L)]
      (fun sv objs' => sv = .one (.c (vI (k + wLen L))) ∧ ∃ gs, objs' = (0, gOn L.length (mkL k L)) :: gs) := by
  generalize hN : L.length = N at hn ⊢
  refine call_body (G := G) Try.func14 rfl (by decide) (Nat.le_of_ble_eq_true rfl) ?_
  cases N with
  | zero =>
    have hL : L = [] := List.eq_nil_of_length_eq_zero hN
    subst hL
    conv => whnf
    refine .inl ⟨Unit, fun _ => 0, fun _ => True, fun _ => ⟨[(0, .one (.c (.sl 0 0 3 0 0 cap))), (1, .one (.c (vI k))), (5, .one (.c (vI 0)))], [(0, .arr 3 [])], _⟩, (), trivial, weak_of rfl ?_ rfl (Nat.le_refl _), fun _ _ => ?_⟩
    · (repeat' first | exact rfl | exact trivial | apply And.intro | (simp [getE]; done))
    conv => whnf
    exact ⟨by simp [wLen], [], rfl⟩
  | succ N =>
    conv => whnf
    refine .inl ⟨Nat, fun i => N + 1 - i, fun i => i ≤ N + 1, fun i => ⟨[(0, .one (.c (.sl 0 0 3 0 (N + 1) cap))), (1, .one (.c (vI (k + wLen (L.take i))))), (5, .one (.c (vI i)))], [(0, .grid 3 ((mkL k (L.take i) ++ L.drop i).map gcut))], _⟩, 0, Nat.zero_le _, weak_of rfl ?_ rfl (Nat.le_refl _), fun i hi => ?_⟩
    · simp [envOK, getE, envOf, wLen]
    replace hi : i ≤ N + 1 := hi
    conv => whnf
    refine Br.mk (fun hb => ?_) (fun hb => ?_) <;> conv => whnf
    · have hlt : i < L.length := by have := of_decide_eq_true hb; omega
      obtain ⟨⟨w, hh, sq⟩, hc⟩ : ∃ c, L[i]? = some c := ⟨_, List.getElem?_eq_getElem hlt⟩
      have hsq : sq.length ≤ 30 := hs _ (List.mem_of_getElem? hc)
      have hcl : ((mkL k (L.take i) ++ L.drop i).map gcut).length = L.length := by rw [List.length_map, List.length_append, mkL_len, List.length_take, List.length_drop]; omega
      have hx : ((mkL k (L.take i) ++ L.drop i).map gcut)[0 + ((i : Int)).toNat]? = some [.d (dI w), .d (dI hh), .row 3 (sq.map r3)] := by
        rw [Nat.zero_add, Int.toNat_natCast, List.getElem?_map, List.getElem?_append_right (by rw [mkL_len, List.length_take]; omega), mkL_len, List.length_take, Nat.min_eq_left (by omega), Nat.sub_self, List.getElem?_drop, Nat.add_zero, hc]
        rfl
      have hnext := cur_next (k := k) hc
      have hwl := wLen_le (L.take i) (fun c hc => hs c (List.mem_of_mem_take hc))
      rw [List.length_take] at hwl
      have hwn : wLen (L.take (i + 1)) = wLen (L.take i) + (2 + 3 * sq.length) := by
        have ht : L.take (i + 1) = L.take i ++ [(w, hh, sq)] := by rw [List.take_add_one, hc]; rfl
        rw [ht, wLen_snoc]; rfl
      generalize (mkL k (L.take i) ++ L.drop i).map gcut = cur at hcl hx hnext ⊢
      generalize hq : wLen (L.take i) = q at hnext hwl hwn ⊢
      have w1 : IntKind.i64.wrap (k + (q : Int) + 1) = k + (q : Int) + 1 := wrap_i64 _ (by omega) (by omega)
      have w2 : IntKind.i64.wrap (k + (q : Int) + 1 + 1) = k + (q : Int) + 2 := by rw [wrap_i64 _ (by omega) (by omega)]; omega
      have w4 : IntKind.i64.wrap ((i : Int) + 1) = ((i + 1 : Nat) : Int) := by rw [wrap_i64 _ (by omega) (by omega)]; omega
      have hb1 : (0 : Int) ≤ (i : Int) := by omega
      have hb2 : (i : Int) < ((N + 1 : Nat) : Int) := by omega
      clear hb
      repeat' first
        | (refine ElG.get hx ?_; conv => whnf)
        | (refine ElG.set' (by simp only [List.length_set, hcl]; omega) ?_; conv => whnf)
        | (refine And.intro (show isGD _ _ = true from rfl) ?_; conv => whnf)
        | (refine And.intro hb1 ?_; conv => whnf)
        | (refine And.intro hb2 ?_; conv => whnf)
        | (refine And.intro (by simp only [List.length_set, hcl]; omega) ?_; conv => whnf)
      have hx2 : ((cur.set (0 + ((i : Int)).toNat) ([GC.d (dI w), .d (dI hh), .row 3 (sq.map r3)].set 0 (.d (dI (k + (q : Int)))))).set (0 + ((i : Int)).toNat)
          (([GC.d (dI w), .d (dI hh), .row 3 (sq.map r3)].set 0 (.d (dI (k + (q : Int))))).set 1 (.d (dI (IntKind.i64.wrap (k + (q : Int) + 1))))))[0 + ((i : Int)).toNat]? =
          some [.d (dI (k + (q : Int))), .d (dI (IntKind.i64.wrap (k + (q : Int) + 1))), .row 3 (sq.map r3)] := by
        rw [List.getElem?_set_self (by rw [List.length_set, hcl]; omega)]
        rfl
      refine frameN [0] (markSq_g' (sq := sq) hx2 (List.length_map _) hsq (by rw [w1, w2]; omega) (by omega)) rfl (by decide) ⟨rfl, rfl⟩ rfl ?_
      rintro _ _ ⟨rfl, gs, rfl⟩
      refine ⟨[_], gs, rfl, Nat.le_refl _, rfl, ?_⟩
      conv => whnf
      refine ⟨i + 1, (by omega : i + 1 ≤ N + 1), (by omega : N + 1 - (i + 1) < N + 1 - i), weak_of ?_ ?_ rfl (Nat.le_refl _)⟩
      · show [(0, OB.grid 3 _)] = _
        rw [← hnext, List.set_set, List.set_set, w1, w2, Nat.zero_add, Int.toNat_natCast]
        rfl
      · rw [w1, w2, w4, hwn]
        simp [envOK, getE]
        omega
    · have hie : i = N + 1 := by have := of_decide_eq_false hb; omega
      subst hie
      rw [← hN, List.take_length, List.drop_length, List.append_nil]
      refine ⟨rfl, [], ?_⟩
      rw [hN]
      rfl

end Go.Proofs.Ytmfdkjjhdjkgpaa

namespace Go.Proofs.Ytmfdkjjhdjkgpaa
open Go Go.RowKit
set_option maxRecDepth 10000
set_option maxHeartbeats 4000000
set_option linter.unusedSimpArgs false

theorem mkL_get {c : C3} : ∀ {L : List C3} {i : Nat} {k : Int}, L[i]? = some c → (mkL k L)[i]? = some (mkCut (k + wLen (L.take i)) c)
  | [], i, k, h => by simp at h
  | d :: r, 0, k, h => by
    simp only [List.getElem?_cons_zero, Option.some.injEq] at h
    subst h
    simp [mkL, wLen]
  | d :: r, i + 1, k, h => by
    simp only [List.getElem?_cons_succ] at h
    rw [mkL, List.getElem?_cons_succ, mkL_get h, List.take_succ_cons]
    have : k + (wC d : Nat) + (wLen (r.take i) : Nat) = k + (wLen (d :: r.take i) : Nat) := by simp [wLen]; omega
    rw [this]

theorem heldCutS_x (L : List C3) (k : Int) (cap : Option Nat) (hn : L.length ≤ 100) (hs : ∀ c ∈ L, c.2.2.length ≤ 30) (hk : 0 ≤ k ∧ k ≤ 1000) :
    CallX G.P 15 [.c (.sl 0 0 3 0 L.length cap), .c (vI k)] [(0, gOn L.length (mkL k L))]
      (fun sv objs' => sv = .one (.c (vI (k + wLen L))) ∧ ∃ gs, objs' = (0, gOn L.length (mkL k L)) :: gs) := by
  generalize hN : L.length = N at hn ⊢
  refine call_body (G := G) Try.func15 rfl (by decide) (Nat.le_of_ble_eq_true rfl) ?_
  cases N with
  | zero =>
    have hL : L = [] := List.eq_nil_of_length_eq_zero hN
    subst hL
    conv => whnf
    refine .inl ⟨Unit, fun _ => 0, fun _ => True, fun _ => ⟨[(0, .one (.c (.sl 0 0 3 0 0 cap))), (1, .one (.c (vI k))), (5, .one (.c (vI 0)))], [(0, .arr 3 [])], _⟩, (), trivial, weak_of rfl ?_ rfl (Nat.le_refl _), fun _ _ => ?_⟩
    · (repeat' first | exact rfl | exact trivial | apply And.intro | (simp [getE]; done))
    conv => whnf
    exact ⟨by simp [wLen], [], rfl⟩
  | succ N =>
    conv => whnf
    refine .inl ⟨Nat, fun i => N + 1 - i, fun i => i ≤ N + 1, fun i => ⟨[(0, .one (.c (.sl 0 0 3 0 (N + 1) cap))), (1, .one (.c (vI (k + wLen (L.take i))))), (5, .one (.c (vI i)))], [(0, .grid 3 ((mkL k L).map gcut))], _⟩, 0, Nat.zero_le _, weak_of rfl ?_ rfl (Nat.le_refl _), fun i hi => ?_⟩
    · simp [envOK, getE, envOf, wLen]
    replace hi : i ≤ N + 1 := hi
    conv => whnf
    refine Br.mk (fun hb => ?_) (fun hb => ?_) <;> conv => whnf
    · have hlt : i < L.length := by have := of_decide_eq_true hb; omega
      obtain ⟨⟨w, hh, sq⟩, hc⟩ : ∃ c, L[i]? = some c := ⟨_, List.getElem?_eq_getElem hlt⟩
      have hsq : sq.length ≤ 30 := hs _ (List.mem_of_getElem? hc)
      have hm := mkL_get (k := k) hc
      have hrow := gcut_row hm
      have hml := mkL_len L k
      have hwl := wLen_le (L.take i) (fun c hc => hs c (List.mem_of_mem_take hc))
      rw [List.length_take] at hwl
      have hwn : wLen (L.take (i + 1)) = wLen (L.take i) + (2 + 3 * sq.length) := by
        have ht : L.take (i + 1) = L.take i ++ [(w, hh, sq)] := by rw [List.take_add_one, hc]; rfl
        rw [ht, wLen_snoc]; rfl
      generalize hq : wLen (L.take i) = q at hm hrow hwl hwn ⊢
      have hx : ((mkL k L).map gcut)[0 + ((i : Int)).toNat]? = some [.d (dI (k + (q : Int))), .d (dI (k + (q : Int) + 1)), .row 3 ((mk3 (k + (q : Int) + 2) sq.length).map r3)] := by
        rw [Nat.zero_add, Int.toNat_natCast, List.getElem?_map, hm]; rfl
      have hlen : ((mkL k L).map gcut).length = N + 1 := by rw [List.length_map, hml, hN]
      generalize (mkL k L).map gcut = cur at hx hrow hlen ⊢
      have w1 : IntKind.i64.wrap (k + (q : Int) + 1) = k + (q : Int) + 1 := wrap_i64 _ (by omega) (by omega)
      have w2 : IntKind.i64.wrap (k + (q : Int) + 1 + 1) = k + (q : Int) + 2 := by rw [wrap_i64 _ (by omega) (by omega)]; omega
      have w4 : IntKind.i64.wrap ((i : Int) + 1) = ((i + 1 : Nat) : Int) := by rw [wrap_i64 _ (by omega) (by omega)]; omega
      have hb1 : (0 : Int) ≤ (i : Int) := by omega
      have hb2 : (i : Int) < ((N + 1 : Nat) : Int) := by omega
      have hsqo := heldSquareS_ok sq.length (k + (q : Int) + 2) (by omega) (by omega)
      clear hb
      repeat' first
        | (refine ElG.get hx ?_; conv => whnf)
        | (refine And.intro hb1 ?_; conv => whnf)
        | (refine And.intro hb2 ?_; conv => whnf)
        | (refine And.intro (by rw [hlen, Int.toNat_natCast]; omega) ?_; conv => whnf)
        | (refine Br.mk (fun hb => by exfalso; simp [w1] at hb; done) (fun _ => ?_); conv => whnf)
      refine call_sn ?_ hsqo ?_
      · exact ⟨⟨rfl, _, hrow, rfl, rfl, rfl⟩, (by show DC.v _ = DC.v _; rw [w1, w2]), trivial⟩
      conv => whnf
      refine Br.mk (fun hb => by exfalso; simp at hb; omega) (fun _ => ?_)
      conv => whnf
      refine ⟨i + 1, (by omega : i + 1 ≤ N + 1), (by omega : N + 1 - (i + 1) < N + 1 - i), weak_of rfl ?_ rfl (Nat.le_refl _)⟩
      rw [w4, hwn]
      simp [envOK, getE]
      omega
    · have hie : i = N + 1 := by have := of_decide_eq_false hb; omega
      subst hie
      rw [← hN, List.take_length]
      refine ⟨rfl, [], ?_⟩
      rw [hN]
      rfl

/-- When there are all strips to tell. -/
def allB (h l : Int) : Prop := stripB h l = true ∧ Cn h.toNat l.toNat 0 ≤ 100 ∧ h.toNat * l.toNat ≤ 30

theorem all_not {h l : Int} (c : ¬ allB h l) : (countR h l).2 = false ∨ ∃ H L : Nat, h = H ∧ l = L ∧ (1 ≤ H ∧ H < 5) ∧ (1 ≤ L ∧ L ≤ 30) ∧ countR h l = (((Cn H L 0 : Nat) : Int), true) ∧ 1 ≤ Cn H L 0 ∧ (100 < Cn H L 0 ∨ (Cn H L 0 ≤ 100 ∧ 30 < H * L)) := by
  by_cases hb : stripB h l = true
  · obtain ⟨a, b, rfl, rfl, h1, h2, h3, h4⟩ := strip_nat hb
    right
    have hcn := Cn_pos ⟨h1, h2⟩ 1000 b 0 (Nat.lt_of_lt_of_le (mu_small h2 h4) (by omega)) h4 (Nat.pow_pos (by omega)) rch_zero
    refine ⟨a, b, rfl, rfl, ⟨h1, h2⟩, ⟨h3, h4⟩, countR_eq ⟨h1, h2⟩ ⟨h3, h4⟩, by omega, ?_⟩
    have c' : ¬ (Cn a b 0 ≤ 100 ∧ a * b ≤ 30) := fun g => c ⟨hb, by simpa using g⟩
    omega
  · left
    unfold countR
    rw [if_neg hb]

theorem implAll_no (h l : Int) (c : ¬ allB h l) : CallX G.P 12 [.c (vI h), .c (vI l)] [] (fun sv objs' => sv = .tup [.c .nilsl, .c (.d (.v (.bool false)))] ∧ ∃ gs, objs' = gs) := by
  have hc := implCount h l
  rcases all_not c with g | ⟨H, L, rfl, rfl, hh, hl, e, hp, g⟩
  · generalize countR h l = C at hc g
    obtain ⟨n, ok⟩ := C
    dsimp only at g hc
    subst g
    refine call_body (G := G) Try.func12 rfl (by decide) (Nat.le_of_ble_eq_true rfl) ?_
    conv => whnf
    repeat' first
      | exact True.intro
      | (refine draw_mkF ?_ ?_ ?_; (focus (decide +kernel)); (focus (kernel_rfl)); conv => whnf)
      | (refine Both.mk ?_ ?_ <;> conv => whnf)
      | (refine OwnQ.own ?_; conv => whnf)
      | (refine NilQ.mk (fun hnil => ?_) ?_ <;> conv => whnf)
      | (refine draw_mk (by kernel_rfl) ?_; conv => whnf)
      | (refine Br.mk (fun hb => ?_) (fun hb => ?_) <;> conv => whnf)
      | (refine call_sn ?_ (hc) ?_; (focus ((repeat' first | exact snapRow | exact snap_row (by simp; done) | exact rfl | exact trivial | apply And.intro | omega | (simp; done)); done)); conv => whnf)
      | (refine callP_sn ?_ (hc) ?_; (focus ((repeat' first | exact snapRow | exact snap_row (by simp; done) | exact rfl | exact trivial | apply And.intro | omega | (simp; done)); done)); conv => whnf)
      | (refine And.intro ?_ ?_; (focus (first | decide | omega | (simp at *; omega) | (simp_all; done))); conv => whnf)
    all_goals first | exact ⟨rfl, _, rfl⟩ | exact ⟨_, rfl⟩ | skip
  · rw [e] at hc
    dsimp only at hc
    have hHl : (H : Int) * (L : Int) = ((H * L : Nat) : Int) := (Int.natCast_mul _ _).symm
    have hb : H * L ≤ 120 := Nat.le_trans (Nat.mul_le_mul (show H ≤ 4 by omega) hl.2) (by omega)
    have hw : IntKind.i64.wrap ((H : Int) * (L : Int)) = ((H * L : Nat) : Int) := by rw [hHl, wrap_i64 _ (by omega) (by omega)]
    generalize Cn H L 0 = N at hc hp g
    refine call_body (G := G) Try.func12 rfl (by decide) (Nat.le_of_ble_eq_true rfl) ?_
    conv => whnf
    rcases g with g | ⟨g, g2⟩
    ·
      repeat' first
        | exact True.intro
        | (refine draw_mkF ?_ ?_ ?_; (focus (decide +kernel)); (focus (kernel_rfl)); conv => whnf)
        | (refine Both.mk ?_ ?_ <;> conv => whnf)
        | (refine OwnQ.own ?_; conv => whnf)
        | (refine NilQ.mk (fun hnil => ?_) ?_ <;> conv => whnf)
        | (refine draw_mk (by kernel_rfl) ?_; conv => whnf)
        | (refine Br.mk (fun hb => ?_) (fun hb => ?_) <;> conv => whnf)
        | (refine call_sn ?_ (hc) ?_; (focus ((repeat' first | exact snapRow | exact snap_row (by simp; done) | exact rfl | exact trivial | apply And.intro | omega | (simp; done)); done)); conv => whnf)
        | (refine callP_sn ?_ (hc) ?_; (focus ((repeat' first | exact snapRow | exact snap_row (by simp; done) | exact rfl | exact trivial | apply And.intro | omega | (simp; done)); done)); conv => whnf)
        | (refine And.intro ?_ ?_; (focus (first | decide | omega | (simp at *; omega) | (simp_all; done))); conv => whnf)
      all_goals first | exact ⟨rfl, _, rfl⟩ | exact ⟨_, rfl⟩ | (exfalso; simp at *; omega)
    ·
      repeat' first
        | exact True.intro
        | (refine draw_mkF ?_ ?_ ?_; (focus (decide +kernel)); (focus (kernel_rfl)); conv => whnf)
        | (refine Both.mk ?_ ?_ <;> conv => whnf)
        | (refine OwnQ.own ?_; conv => whnf)
        | (refine NilQ.mk (fun hnil => ?_) ?_ <;> conv => whnf)
        | (refine draw_mk (by kernel_rfl) ?_; conv => whnf)
        | (refine Br.mk (fun hb => (by exfalso; first | (simp [hw] at hb; done) | (simp [hw] at hb; omega))) (fun hb => ?_); clear hb; conv => whnf)
        | (refine Br.mk (fun hb => ?_) (fun hb => (by exfalso; first | (simp [hw] at hb; done) | (simp [hw] at hb; omega))); clear hb; conv => whnf)
        | (refine Br.mk (fun hb => ?_) (fun hb => ?_) <;> conv => whnf)
        | (refine call_sn ?_ (hc) ?_; (focus ((repeat' first | exact snapRow | exact snap_row (by simp; done) | exact rfl | exact trivial | apply And.intro | omega | (simp; done)); done)); conv => whnf)
        | (refine callP_sn ?_ (hc) ?_; (focus ((repeat' first | exact snapRow | exact snap_row (by simp; done) | exact rfl | exact trivial | apply And.intro | omega | (simp; done)); done)); conv => whnf)
        | (refine And.intro ?_ ?_; (focus (first | decide | omega | (simp at *; omega) | (simp_all; done))); conv => whnf)
      all_goals first | exact ⟨rfl, _, rfl⟩ | exact ⟨_, rfl⟩ | (exfalso; simp [hw] at *; omega)

theorem specAll_no (h l : Int) (c : ¬ allB h l) : CallX G.P 11 [.c (vI h), .c (vI l)] [] (fun sv objs' => sv = .tup [.c .nilsl, .c (.d (.v (.bool false)))] ∧ ∃ gs, objs' = gs) := by
  have hc := specCount h l
  rcases all_not c with g | ⟨H, L, rfl, rfl, hh, hl, e, hp, g⟩
  · generalize countR h l = C at hc g
    obtain ⟨n, ok⟩ := C
    dsimp only at g hc
    subst g
    refine call_body (G := G) Try.func11 rfl (by decide) (Nat.le_of_ble_eq_true rfl) ?_
    conv => whnf
    repeat' first
      | exact True.intro
      | (refine draw_mkF ?_ ?_ ?_; (focus (decide +kernel)); (focus (kernel_rfl)); conv => whnf)
      | (refine Both.mk ?_ ?_ <;> conv => whnf)
      | (refine OwnQ.own ?_; conv => whnf)
      | (refine NilQ.mk (fun hnil => ?_) ?_ <;> conv => whnf)
      | (refine draw_mk (by kernel_rfl) ?_; conv => whnf)
      | (refine Br.mk (fun hb => (by exfalso; first | (simp [not_true_eq_false] at hb; done) | (simp [not_true_eq_false] at hb; omega))) (fun hb => ?_); clear hb; conv => whnf)
      | (refine Br.mk (fun hb => ?_) (fun hb => (by exfalso; first | (simp [not_true_eq_false] at hb; done) | (simp [not_true_eq_false] at hb; omega))); clear hb; conv => whnf)
      | (refine Br.mk (fun hb => ?_) (fun hb => ?_) <;> conv => whnf)
      | (refine call_sn ?_ (hc) ?_; (focus ((repeat' first | exact snapRow | exact snap_row (by simp; done) | exact rfl | exact trivial | apply And.intro | omega | (simp; done)); done)); conv => whnf)
      | (refine callP_sn ?_ (hc) ?_; (focus ((repeat' first | exact snapRow | exact snap_row (by simp; done) | exact rfl | exact trivial | apply And.intro | omega | (simp; done)); done)); conv => whnf)
      | (refine And.intro ?_ ?_; (focus (first | decide | omega | (simp at *; omega) | (simp_all; done))); conv => whnf)
    all_goals first | exact ⟨rfl, _, rfl⟩ | exact ⟨_, rfl⟩
  · rw [e] at hc
    dsimp only at hc
    have hr := stRanked_ok H L 0 hh hl ⟨Int.le_refl _, by omega⟩
    obtain ⟨f1, f2⟩ := ranked_facts (r := 0) hh hl ⟨Int.le_refl _, by omega⟩
    have hbad := fun hA => ranked_bad hh hl hA
    generalize ranked H L 0 = S at hr f1 f2 hbad
    have hf := stFill_ok H S hh f1 (fun s hs => by have := f2 s hs; omega)
    generalize stF H S = D at hf hbad
    obtain ⟨⟨cw, ch, cl⟩, cb⟩ := D
    dsimp only at hf hbad
    generalize Cn H L 0 = N at hc hp g
    refine call_body (G := G) Try.func11 rfl (by decide) (Nat.le_of_ble_eq_true rfl) ?_
    conv => whnf
    rcases g with g | ⟨g, g2⟩
    ·
      repeat' first
        | exact True.intro
        | (refine draw_mkF ?_ ?_ ?_; (focus (decide +kernel)); (focus (kernel_rfl)); conv => whnf)
        | (refine Both.mk ?_ ?_ <;> conv => whnf)
        | (refine OwnQ.own ?_; conv => whnf)
        | (refine NilQ.mk (fun hnil => ?_) ?_ <;> conv => whnf)
        | (refine draw_mk (by kernel_rfl) ?_; conv => whnf)
        | (refine Br.mk (fun hb => ?_) (fun hb => ?_) <;> conv => whnf)
        | (refine call_sn ?_ (hc) ?_; (focus ((repeat' first | exact snapRow | exact snap_row (by simp; done) | exact rfl | exact trivial | apply And.intro | omega | (simp; done)); done)); conv => whnf)
        | (refine callP_sn ?_ (hc) ?_; (focus ((repeat' first | exact snapRow | exact snap_row (by simp; done) | exact rfl | exact trivial | apply And.intro | omega | (simp; done)); done)); conv => whnf)
      all_goals first | exact ⟨rfl, _, rfl⟩ | exact ⟨_, rfl⟩ | (exfalso; simp at *; omega)
    · have hcb := hbad g2
      subst hcb
      have g1 : ¬ (100 : Int) < (N : Int) := by omega
      have g3 : (0 : Int) < (N : Int) := by omega
      repeat' first
        | exact True.intro
        | (refine draw_mkF ?_ ?_ ?_; (focus (decide +kernel)); (focus (kernel_rfl)); conv => whnf)
        | (refine Both.mk ?_ ?_ <;> conv => whnf)
        | (refine OwnQ.own ?_; conv => whnf)
        | (refine NilQ.mk (fun hnil => ?_) ?_ <;> conv => whnf)
        | (refine draw_mk (by kernel_rfl) ?_; conv => whnf)
        | (refine Br.mk (fun hb => (by exfalso; first | (simp [g1, g3, not_true_eq_false] at hb; done) | (simp [g1, g3, not_true_eq_false] at hb; omega))) (fun hb => ?_); clear hb; conv => whnf)
        | (refine Br.mk (fun hb => ?_) (fun hb => (by exfalso; first | (simp [g1, g3, not_true_eq_false] at hb; done) | (simp [g1, g3, not_true_eq_false] at hb; omega))); clear hb; conv => whnf)
        | (refine Br.mk (fun hb => ?_) (fun hb => ?_) <;> conv => whnf)
        | (refine call_sn ?_ (hc) ?_; (focus ((repeat' first | exact snapRow | exact snap_row (by simp; done) | exact rfl | exact trivial | apply And.intro | omega | (simp; done)); done)); conv => whnf)
        | (refine callP_sn ?_ (hc) ?_; (focus ((repeat' first | exact snapRow | exact snap_row (by simp; done) | exact rfl | exact trivial | apply And.intro | omega | (simp; done)); done)); conv => whnf)
        | (refine And.intro ?_ ?_; (focus (first | decide | omega | (simp at *; omega) | (simp_all; done))); conv => whnf)
      refine .inr ⟨1, ?_⟩
      conv => whnf
      repeat' first
        | exact True.intro
        | (refine draw_mkF ?_ ?_ ?_; (focus (decide +kernel)); (focus (kernel_rfl)); conv => whnf)
        | (refine Both.mk ?_ ?_ <;> conv => whnf)
        | (refine OwnQ.own ?_; conv => whnf)
        | (refine NilQ.mk (fun hnil => ?_) ?_ <;> conv => whnf)
        | (refine draw_mk (by kernel_rfl) ?_; conv => whnf)
        | (refine Br.mk (fun hb => (by exfalso; first | (simp [g1, g3, not_true_eq_false] at hb; done) | (simp [g1, g3, not_true_eq_false] at hb; omega))) (fun hb => ?_); clear hb; conv => whnf)
        | (refine Br.mk (fun hb => ?_) (fun hb => (by exfalso; first | (simp [g1, g3, not_true_eq_false] at hb; done) | (simp [g1, g3, not_true_eq_false] at hb; omega))); clear hb; conv => whnf)
        | (refine Br.mk (fun hb => ?_) (fun hb => ?_) <;> conv => whnf)
        | (refine call_sn ?_ (hr) ?_; (focus ((repeat' first | exact snapRow | exact snap_row (by simp; done) | exact rfl | exact trivial | apply And.intro | omega | (simp; done)); done)); conv => whnf)
        | (refine callP_sn ?_ (hr) ?_; (focus ((repeat' first | exact snapRow | exact snap_row (by simp; done) | exact rfl | exact trivial | apply And.intro | omega | (simp; done)); done)); conv => whnf)
        | (refine call_sn ?_ (hf) ?_; (focus ((repeat' first | exact snapRow | exact snap_row (by simp; done) | exact rfl | exact trivial | apply And.intro | omega | (simp; done)); done)); conv => whnf)
        | (refine callP_sn ?_ (hf) ?_; (focus ((repeat' first | exact snapRow | exact snap_row (by simp; done) | exact rfl | exact trivial | apply And.intro | omega | (simp; done)); done)); conv => whnf)
        | (refine And.intro ?_ ?_; (focus (first | decide | omega | (simp [contentOK, objRd, objAt, peel, List.length_map]; done) | (simp [contentOK, objRd, objAt, peel, List.length_map]; omega) | (simp [contentOK, objRd, objAt, peel, List.length_map] at *; omega))); conv => whnf)
      all_goals first | exact ⟨rfl, _, rfl⟩ | exact ⟨_, rfl⟩

end Go.Proofs.Ytmfdkjjhdjkgpaa

namespace Go.Proofs.Ytmfdkjjhdjkgpaa
open Go Go.RowKit
set_option maxRecDepth 10000
set_option maxHeartbeats 4000000
set_option linter.unusedSimpArgs false

theorem allC_sq {H L : Nat} (n : Nat) : ∀ c ∈ allC H L n, c.2.2.length ≤ 30 := by
  intro c hc
  simp only [allC, List.mem_map] at hc
  obtain ⟨k, _, rfl⟩ := hc
  unfold cofL
  split
  · exact Nat.zero_le _
  · split
    · exact cofR_len _ _ _
    · exact Nat.zero_le _

theorem allLaw_yes (h l : Int) (N : Nat) (M : List C3) (hM : M.length = N + 1) (hN : N + 1 ≤ 100) (hs : ∀ c ∈ M, c.2.2.length ≤ 30)
    (himp : CallX G.P 12 [.c (vI h), .c (vI l)] [] (fun sv objs' => sv = .tup [.c (.sl 0 0 3 0 (N + 1) none), .c (.d (.v (.bool true)))] ∧ ∃ gs, objs' = (0, .grid 3 (M.map gcut)) :: gs))
    (hspec : CallX G.P 11 [.c (vI h), .c (vI l)] [] (fun sv objs' => sv = .tup [.c (.sl 0 0 3 0 (N + 1) none), .c (.d (.v (.bool true)))] ∧ ∃ gs, objs' = (0, .grid 3 (M.map gcut)) :: gs)) :
    Fn G.P 3 [aI h, aI l] (.one (aB true)) := by
  have heq := eqCutS_x M none none (by omega) hs
  have hmark := markCutS_x M 1 none (by omega) hs (by omega)
  have hheld := heldCutS_x M 1 none (by omega) hs (by omega)
  have hwl := wLen_le M hs
  rw [hM] at heq hmark hheld hwl
  replace heq : CallX G.P 13 [.c (.sl 0 0 3 0 (N + 1) none), .c (.sl 1 0 3 0 (N + 1) none)] [(0, .grid 3 (M.map gcut)), (0, .grid 3 (M.map gcut))]
      (fun sv objs' => sv = .one (.c (.d (.v (.bool true)))) ∧ ∃ gs, objs' = (0, .grid 3 (M.map gcut)) :: (0, .grid 3 (M.map gcut)) :: gs) := heq
  replace hmark : CallX G.P 14 [.c (.sl 0 0 3 0 (N + 1) none), .c (vI 1)] [(0, .grid 3 (M.map gcut))]
      (fun sv objs' => sv = .one (.c (vI (1 + wLen M))) ∧ ∃ gs, objs' = (0, .grid 3 ((mkL 1 M).map gcut)) :: gs) := hmark
  replace hheld : CallX G.P 15 [.c (.sl 0 0 3 0 (N + 1) none), .c (vI 1)] [(0, .grid 3 ((mkL 1 M).map gcut))]
      (fun sv objs' => sv = .one (.c (vI (1 + wLen M))) ∧ ∃ gs, objs' = (0, .grid 3 ((mkL 1 M).map gcut)) :: gs) := hheld
  generalize (mkL 1 M).map gcut = M2 at hmark hheld
  generalize wLen M = W at hmark hheld hwl
  generalize M.map gcut = M1 at himp hspec heq hmark
  refine fn_of_body (G := G) Try.func3 rfl (by decide) (Nat.le_of_ble_eq_true rfl) ?_
  conv => whnf
  refine frameN [] hspec rfl (by decide) rfl rfl ?_
  rintro _ _ ⟨rfl, gs, rfl⟩
  refine ⟨[_], gs, rfl, Nat.zero_le _, rfl, ?_⟩
  conv => whnf
  refine frameN [] himp rfl (by decide) rfl rfl ?_
  rintro _ _ ⟨rfl, gs, rfl⟩
  refine ⟨[_], gs, rfl, Nat.zero_le _, rfl, ?_⟩
  conv => whnf
  refine frameN [1, 0] heq rfl (by decide) ⟨rfl, rfl, rfl⟩ rfl ?_
  rintro _ _ ⟨rfl, gs, rfl⟩
  refine ⟨[_, _], gs, rfl, Nat.le_refl _, rfl, ?_⟩
  conv => whnf
  repeat' first
    | exact True.intro
    | (refine draw_mkF ?_ ?_ ?_; (focus (decide +kernel)); (focus (kernel_rfl)); conv => whnf)
    | (refine Both.mk ?_ ?_ <;> conv => whnf)
    | (refine OwnQ.own ?_; conv => whnf)
    | (refine NilQ.mk (fun hnil => ?_) ?_ <;> conv => whnf)
    | (refine draw_mk (by kernel_rfl) ?_; conv => whnf)
    | (refine Br.mk (fun hb => (by exfalso; first | (simp [not_true_eq_false] at hb; done) | (simp [not_true_eq_false] at hb; omega))) (fun hb => ?_); clear hb; conv => whnf)
    | (refine Br.mk (fun hb => ?_) (fun hb => (by exfalso; first | (simp [not_true_eq_false] at hb; done) | (simp [not_true_eq_false] at hb; omega))); clear hb; conv => whnf)
    | (refine Br.mk (fun hb => ?_) (fun hb => ?_) <;> conv => whnf)
    | (refine And.intro ?_ ?_; (focus (first | decide | omega | (simp at *; omega) | (simp_all; done))); conv => whnf)
  refine frameN [1] hmark rfl (by decide) ⟨rfl, rfl⟩ rfl ?_
  rintro _ _ ⟨rfl, gs, rfl⟩
  refine ⟨[_], gs, rfl, Nat.le_refl _, rfl, ?_⟩
  conv => whnf
  repeat' first
    | exact True.intro
    | (refine draw_mkF ?_ ?_ ?_; (focus (decide +kernel)); (focus (kernel_rfl)); conv => whnf)
    | (refine Both.mk ?_ ?_ <;> conv => whnf)
    | (refine OwnQ.own ?_; conv => whnf)
    | (refine NilQ.mk (fun hnil => ?_) ?_ <;> conv => whnf)
    | (refine draw_mk (by kernel_rfl) ?_; conv => whnf)
    | (refine Br.mk (fun hb => (by exfalso; first | (simp [not_true_eq_false] at hb; done) | (simp [not_true_eq_false] at hb; omega))) (fun hb => ?_); clear hb; conv => whnf)
    | (refine Br.mk (fun hb => ?_) (fun hb => (by exfalso; first | (simp [not_true_eq_false] at hb; done) | (simp [not_true_eq_false] at hb; omega))); clear hb; conv => whnf)
    | (refine Br.mk (fun hb => ?_) (fun hb => ?_) <;> conv => whnf)
    | (refine And.intro ?_ ?_; (focus (first | decide | omega | (simp at *; omega) | (simp_all; done))); conv => whnf)
  refine frameN [1] hheld rfl (by decide) ⟨rfl, rfl⟩ rfl ?_
  rintro _ _ ⟨rfl, gs, rfl⟩
  refine ⟨[_], gs, rfl, Nat.le_refl _, rfl, ?_⟩
  conv => whnf
  repeat' first
    | exact True.intro
    | (refine draw_mkF ?_ ?_ ?_; (focus (decide +kernel)); (focus (kernel_rfl)); conv => whnf)
    | (refine Both.mk ?_ ?_ <;> conv => whnf)
    | (refine OwnQ.own ?_; conv => whnf)
    | (refine NilQ.mk (fun hnil => ?_) ?_ <;> conv => whnf)
    | (refine draw_mk (by kernel_rfl) ?_; conv => whnf)
    | (refine Br.mk (fun hb => (by exfalso; first | (simp [not_true_eq_false, Int.not_lt.2] at hb; done) | (simp [not_true_eq_false, Int.not_lt.2] at hb; omega))) (fun hb => ?_); clear hb; conv => whnf)
    | (refine Br.mk (fun hb => ?_) (fun hb => (by exfalso; first | (simp [not_true_eq_false, Int.not_lt.2] at hb; done) | (simp [not_true_eq_false, Int.not_lt.2] at hb; omega))); clear hb; conv => whnf)
    | (refine Br.mk (fun hb => ?_) (fun hb => ?_) <;> conv => whnf)
    | (refine And.intro ?_ ?_; (focus (first | decide | omega | (simp at *; omega) | (simp_all; done))); conv => whnf)
  refine frameN [] himp rfl (by decide) rfl rfl ?_
  rintro _ _ ⟨rfl, gs, rfl⟩
  refine ⟨[_], gs, rfl, Nat.zero_le _, rfl, ?_⟩
  conv => whnf
  refine frameN [2, 0] heq rfl (by decide) ⟨rfl, rfl, rfl⟩ rfl ?_
  rintro _ _ ⟨rfl, gs, rfl⟩
  refine ⟨[_, _], gs, rfl, Nat.le_refl _, rfl, ?_⟩
  conv => whnf
  repeat' first
    | exact True.intro
    | (refine draw_mkF ?_ ?_ ?_; (focus (decide +kernel)); (focus (kernel_rfl)); conv => whnf)
    | (refine Both.mk ?_ ?_ <;> conv => whnf)
    | (refine OwnQ.own ?_; conv => whnf)
    | (refine NilQ.mk (fun hnil => ?_) ?_ <;> conv => whnf)
    | (refine draw_mk (by kernel_rfl) ?_; conv => whnf)
    | (refine Br.mk (fun hb => (by exfalso; first | (simp [not_true_eq_false] at hb; done) | (simp [not_true_eq_false] at hb; omega))) (fun hb => ?_); clear hb; conv => whnf)
    | (refine Br.mk (fun hb => ?_) (fun hb => (by exfalso; first | (simp [not_true_eq_false] at hb; done) | (simp [not_true_eq_false] at hb; omega))); clear hb; conv => whnf)
    | (refine Br.mk (fun hb => ?_) (fun hb => ?_) <;> conv => whnf)
    | (refine And.intro ?_ ?_; (focus (first | decide | omega | (simp at *; omega) | (simp_all; done))); conv => whnf)
  refine frameN [1] hheld rfl (by decide) ⟨rfl, rfl⟩ rfl ?_
  rintro _ _ ⟨rfl, gs, rfl⟩
  refine ⟨[_], gs, rfl, Nat.le_refl _, rfl, ?_⟩
  conv => whnf
  repeat' first
    | exact True.intro
    | (refine draw_mkF ?_ ?_ ?_; (focus (decide +kernel)); (focus (kernel_rfl)); conv => whnf)
    | (refine Both.mk ?_ ?_ <;> conv => whnf)
    | (refine OwnQ.own ?_; conv => whnf)
    | (refine NilQ.mk (fun hnil => ?_) ?_ <;> conv => whnf)
    | (refine draw_mk (by kernel_rfl) ?_; conv => whnf)
    | (refine Br.mk (fun hb => (by exfalso; first | (simp [not_true_eq_false, Int.not_lt.2] at hb; done) | (simp [not_true_eq_false, Int.not_lt.2] at hb; omega))) (fun hb => ?_); clear hb; conv => whnf)
    | (refine Br.mk (fun hb => ?_) (fun hb => (by exfalso; first | (simp [not_true_eq_false, Int.not_lt.2] at hb; done) | (simp [not_true_eq_false, Int.not_lt.2] at hb; omega))); clear hb; conv => whnf)
    | (refine Br.mk (fun hb => ?_) (fun hb => ?_) <;> conv => whnf)
    | (refine And.intro ?_ ?_; (focus (first | decide | omega | (simp at *; omega) | (simp_all; done))); conv => whnf)
  all_goals first
    | exact ⟨⟨rfl, trivial⟩, by simp [refVs, refCV]⟩
    | (exfalso; simp at hb; done)
    | (exfalso; simp at hb; omega)

theorem allLaw_no (h l : Int) (c : ¬ allB h l) : Fn G.P 3 [aI h, aI l] (.one (aB true)) := by
  have himp := implAll_no h l c
  have hspec := specAll_no h l c
  have heq : CallX G.P 13 [.c .nilsl, .c .nilsl] [] (fun sv objs' => sv = .one (.c (.d (.v (.bool true)))) ∧ ∃ gs, objs' = gs) := by
    refine call_body (G := G) Try.func13 rfl (by decide) (Nat.le_of_ble_eq_true rfl) ?_
    conv => whnf
    repeat' first
      | exact True.intro
      | (refine draw_mkF ?_ ?_ ?_; (focus (decide +kernel)); (focus (kernel_rfl)); conv => whnf)
      | (refine Both.mk ?_ ?_ <;> conv => whnf)
      | (refine OwnQ.own ?_; conv => whnf)
      | (refine NilQ.mk (fun hnil => ?_) ?_ <;> conv => whnf)
      | (refine draw_mk (by kernel_rfl) ?_; conv => whnf)
      | (refine Br.mk (fun hb => (by exfalso; first | (simp [not_true_eq_false] at hb; done) | (simp [not_true_eq_false] at hb; omega))) (fun hb => ?_); clear hb; conv => whnf)
      | (refine Br.mk (fun hb => ?_) (fun hb => (by exfalso; first | (simp [not_true_eq_false] at hb; done) | (simp [not_true_eq_false] at hb; omega))); clear hb; conv => whnf)
      | (refine Br.mk (fun hb => ?_) (fun hb => ?_) <;> conv => whnf)
      | (refine And.intro ?_ ?_; (focus (first | decide | omega | (simp at *; omega) | (simp_all; done))); conv => whnf)
    refine .inr ⟨1, ?_⟩
    conv => whnf
    repeat' first
      | exact True.intro
      | (refine draw_mkF ?_ ?_ ?_; (focus (decide +kernel)); (focus (kernel_rfl)); conv => whnf)
      | (refine Both.mk ?_ ?_ <;> conv => whnf)
      | (refine OwnQ.own ?_; conv => whnf)
      | (refine NilQ.mk (fun hnil => ?_) ?_ <;> conv => whnf)
      | (refine draw_mk (by kernel_rfl) ?_; conv => whnf)
      | (refine Br.mk (fun hb => (by exfalso; first | (simp [not_true_eq_false] at hb; done) | (simp [not_true_eq_false] at hb; omega))) (fun hb => ?_); clear hb; conv => whnf)
      | (refine Br.mk (fun hb => ?_) (fun hb => (by exfalso; first | (simp [not_true_eq_false] at hb; done) | (simp [not_true_eq_false] at hb; omega))); clear hb; conv => whnf)
      | (refine Br.mk (fun hb => ?_) (fun hb => ?_) <;> conv => whnf)
      | (refine And.intro ?_ ?_; (focus (first | decide | omega | (simp at *; omega) | (simp_all; done))); conv => whnf)
    all_goals first | exact ⟨rfl, _, rfl⟩ | exact ⟨_, rfl⟩
  have hmark : CallX G.P 14 [.c .nilsl, .c (vI 1)] [] (fun sv objs' => sv = .one (.c (vI 1)) ∧ ∃ gs, objs' = gs) := by
    refine call_body (G := G) Try.func14 rfl (by decide) (Nat.le_of_ble_eq_true rfl) ?_
    conv => whnf
    refine .inr ⟨1, ?_⟩
    conv => whnf
    repeat' first
      | exact True.intro
      | (refine draw_mkF ?_ ?_ ?_; (focus (decide +kernel)); (focus (kernel_rfl)); conv => whnf)
      | (refine Both.mk ?_ ?_ <;> conv => whnf)
      | (refine OwnQ.own ?_; conv => whnf)
      | (refine NilQ.mk (fun hnil => ?_) ?_ <;> conv => whnf)
      | (refine draw_mk (by kernel_rfl) ?_; conv => whnf)
      | (refine Br.mk (fun hb => (by exfalso; first | (simp [not_true_eq_false] at hb; done) | (simp [not_true_eq_false] at hb; omega))) (fun hb => ?_); clear hb; conv => whnf)
      | (refine Br.mk (fun hb => ?_) (fun hb => (by exfalso; first | (simp [not_true_eq_false] at hb; done) | (simp [not_true_eq_false] at hb; omega))); clear hb; conv => whnf)
      | (refine Br.mk (fun hb => ?_) (fun hb => ?_) <;> conv => whnf)
      | (refine And.intro ?_ ?_; (focus (first | decide | omega | (simp at *; omega) | (simp_all; done))); conv => whnf)
    all_goals first | exact ⟨rfl, _, rfl⟩ | exact ⟨_, rfl⟩
  have hheld : CallX G.P 15 [.c .nilsl, .c (vI 1)] [] (fun sv objs' => sv = .one (.c (vI 1)) ∧ ∃ gs, objs' = gs) := by
    refine call_body (G := G) Try.func15 rfl (by decide) (Nat.le_of_ble_eq_true rfl) ?_
    conv => whnf
    refine .inr ⟨1, ?_⟩
    conv => whnf
    repeat' first
      | exact True.intro
      | (refine draw_mkF ?_ ?_ ?_; (focus (decide +kernel)); (focus (kernel_rfl)); conv => whnf)
      | (refine Both.mk ?_ ?_ <;> conv => whnf)
      | (refine OwnQ.own ?_; conv => whnf)
      | (refine NilQ.mk (fun hnil => ?_) ?_ <;> conv => whnf)
      | (refine draw_mk (by kernel_rfl) ?_; conv => whnf)
      | (refine Br.mk (fun hb => (by exfalso; first | (simp [not_true_eq_false] at hb; done) | (simp [not_true_eq_false] at hb; omega))) (fun hb => ?_); clear hb; conv => whnf)
      | (refine Br.mk (fun hb => ?_) (fun hb => (by exfalso; first | (simp [not_true_eq_false] at hb; done) | (simp [not_true_eq_false] at hb; omega))); clear hb; conv => whnf)
      | (refine Br.mk (fun hb => ?_) (fun hb => ?_) <;> conv => whnf)
      | (refine And.intro ?_ ?_; (focus (first | decide | omega | (simp at *; omega) | (simp_all; done))); conv => whnf)
    all_goals first | exact ⟨rfl, _, rfl⟩ | exact ⟨_, rfl⟩
  refine fn_of_body (G := G) Try.func3 rfl (by decide) (Nat.le_of_ble_eq_true rfl) ?_
  conv => whnf
  repeat' first
    | (refine Br.mk (fun hb => by exfalso; simp at hb; done) (fun _ => ?_); conv => whnf)
    | (refine Br.mk (fun _ => ?_) (fun hb => by exfalso; simp at hb; done); conv => whnf)
    | (refine frameN [] hspec rfl (by decide) rfl rfl ?_; rintro _ gs ⟨rfl, -⟩; refine ⟨[], gs, rfl, Nat.zero_le _, rfl, ?_⟩; conv => whnf)
    | (refine frameN [] himp rfl (by decide) rfl rfl ?_; rintro _ gs ⟨rfl, -⟩; refine ⟨[], gs, rfl, Nat.zero_le _, rfl, ?_⟩; conv => whnf)
    | (refine frameN [] heq rfl (by decide) rfl rfl ?_; rintro _ gs ⟨rfl, -⟩; refine ⟨[], gs, rfl, Nat.zero_le _, rfl, ?_⟩; conv => whnf)
    | (refine frameN [] hmark rfl (by decide) rfl rfl ?_; rintro _ gs ⟨rfl, -⟩; refine ⟨[], gs, rfl, Nat.zero_le _, rfl, ?_⟩; conv => whnf)
    | (refine frameN [] hheld rfl (by decide) rfl rfl ?_; rintro _ gs ⟨rfl, -⟩; refine ⟨[], gs, rfl, Nat.zero_le _, rfl, ?_⟩; conv => whnf)
  exact ⟨⟨rfl, trivial⟩, by simp [refVs, refCV]⟩

theorem allLaw (h : Int) (_ : (Lit.int .i64 h).wf = true) (l : Int) (_ : (Lit.int .i64 l).wf = true) : Fn G.P 3 [aI h, aI l] (.one (aB true)) := by
  by_cases c : allB h l
  · obtain ⟨c1, c2, c3⟩ := c
    obtain ⟨a, b, rfl, rfl, h1, h2, h3, h4⟩ := strip_nat c1
    rw [Int.toNat_natCast, Int.toNat_natCast] at c2 c3
    have hpos := Cn_pos ⟨h1, h2⟩ 1000 b 0 (Nat.lt_of_lt_of_le (mu_small h2 h4) (by omega)) h4 (Nat.pow_pos (by omega)) rch_zero
    have hi := implAll_yes a b ⟨h1, h2⟩ ⟨h3, h4⟩ c2 c3
    have hs := specAll_yes a b ⟨h1, h2⟩ ⟨h3, h4⟩ c2 c3
    have hl := allC_len a b (Cn a b 0)
    have hq := allC_sq (H := a) (L := b) (Cn a b 0)
    obtain ⟨N, hN⟩ : ∃ N, Cn a b 0 = N + 1 := ⟨Cn a b 0 - 1, by omega⟩
    rw [hN] at hi hs hl hq c2
    exact allLaw_yes _ _ N (allC a b (N + 1)) hl c2 hq hi hs
  · exact allLaw_no h l c

end Go.Proofs.Ytmfdkjjhdjkgpaa

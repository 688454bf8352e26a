/- The law on cuts of a filling. -/
import Derived.Test.YtmjaefnmianfpaaQFcof
namespace Go.Proofs.Ytmjaefnmianfpaa
open Go Go.RowKit
set_option maxRecDepth 10000
set_option maxHeartbeats 4000000
set_option linter.unusedSimpArgs false

theorem toIntS_ok (S : List Int) (hn : S.length ≤ 2 ^ 40) : Fn G.P 30 [.c (.list 1 (S.map r1))] (.one (.c (.list 1 (S.map r1)))) := by
  refine fn_of_body (G := G) Try.func30 rfl (by decide) (Nat.le_of_ble_eq_true rfl) ?_
  conv => whnf
  refine ⟨by simp, by simp, by simp; omega, by simp; omega, ?_⟩
  conv => whnf
  refine .inl ⟨Nat, fun i => S.length - i, fun i => i ≤ S.length, fun i => ⟨[(0, .one (.c (.d (.list 1 (S.map r1))))), (3, .one (.c (.sl 0 0 1 0 S.length (some S.length)))), (4, .one (.c (vI i)))],
    [(0, .arr 1 ((S.take i).map r1 ++ List.replicate (S.length - i) [dI 0]))], _⟩, 0, Nat.zero_le _, weak_of ?_ ?_ rfl (Nat.zero_le _), fun i hi => ?_⟩
  · simp
  · (repeat' first | exact rfl | exact trivial | apply And.intro | (simp [getE]; done))
  conv => whnf
  repeat' first
    | exact True.intro
    | (refine draw_mkF ?_ ?_ ?_; (focus (decide +kernel)); (focus (kernel_rfl)); conv => whnf)
    | (refine Both.mk ?_ ?_ <;> conv => whnf)
    | (refine NilQ.mk (fun hnil => ?_) ?_ <;> conv => whnf)
    | (refine draw_mk (by kernel_rfl) ?_; conv => whnf)
    | (refine Br.mk (fun hb => ?_) (fun hb => ?_) <;> conv => whnf)
    | (refine El.mk (fun el hel => ?_); obtain ⟨k, hk, rfl⟩ := r1_get hel; conv => whnf)
    | (refine And.intro ?_ ?_; (focus (first | decide | omega | (simp at *; omega) | (simp_all; done))); conv => whnf)
  · refine ⟨i + 1, ?_, ?_, weak_of ?_ ?_ rfl (Nat.zero_le _)⟩
    · simp at hb ⊢; omega
    · simp at hb ⊢; omega
    · have := fill_set (f := r1) (z := [dI 0]) (i := i) (by simpa using hk)
      simp only [Int.toNat_natCast, Nat.zero_add, List.length_cons, List.length_nil, List.take_succ_cons, List.take_zero]
      rw [← this]; rfl
    · have h1 : IntKind.i64.wrap ((i : Int) + 1) = ((i + 1 : Nat) : Int) := by
        simp at hb
        have := wrap_len (n := i + 1) (by omega)
        simpa using this
      simp [envOK, getE, h1]
  · simp at hb
    rw [fill_all (by omega)]
    exact res_row rfl (by simp) r1_flat

theorem ints_of {x : DC} (h : DCok (.slice [.int .i64]) x) : ∃ S : List Int, x = .list 1 (S.map r1) ∧ S.length ≤ maxLen ∧ ∀ s ∈ S, s ≤ 2 ^ 63 - 1 ∧ - 2 ^ 63 ≤ s := by
  cases h with | slice _ xs hl hx hh =>
  suffices hs : ∃ S : List Int, xs = S.map r1 ∧ ∀ s ∈ S, s ≤ 2 ^ 63 - 1 ∧ - 2 ^ 63 ≤ s by
    obtain ⟨S, rfl, g⟩ := hs
    exact ⟨S, rfl, by simpa using hl, g⟩
  clear hl
  induction xs with
  | nil => exact ⟨[], rfl, fun s hs => by cases hs⟩
  | cons y ys ih =>
    obtain ⟨S, rfl, g⟩ := ih (fun x hx' => hx x (List.mem_cons_of_mem _ hx')) (fun x j d s hx' => hh x j d s (List.mem_cons_of_mem _ hx'))
    have hy := hx y (by simp)
    match y, hy with
    | [d], _ =>
      have hd := hh [d] 0 d (.int .i64) (by simp) rfl rfl
      cases hd with | int _ n hw =>
      refine ⟨n :: S, rfl, fun s hs => ?_⟩
      rcases List.mem_cons.1 hs with rfl | hs
      · have := hw
        simp [Lit.wf, IntKind.min, IntKind.max, IntKind.bits, IntKind.signed] at this
        omega
      · exact g s hs

theorem cofR_len (w h : Int) (l : List (Int × Int × Int)) : (cofR w h l).1.2.2.length ≤ 30 := by
  unfold cofR
  split
  · rename_i g
    have := (good_chk g).2.2.1
    exact this.2
  · exact Nat.zero_le _

theorem cofC_len (h : Int) (S : List Int) : (cofC h S).1.2.2.length ≤ 30 := by
  unfold cofC
  split
  · unfold cofL
    split
    · exact Nat.zero_le _
    · split
      · exact cofR_len _ _ _
      · exact Nat.zero_le _
  · exact Nat.zero_le _

theorem cofLaw_ok (h : Int) (S : List Int) (hn : S.length ≤ maxLen) (hi : ∀ s ∈ S, s ≤ 2 ^ 63 - 1 ∧ - 2 ^ 63 ≤ s) : Fn G.P 4 [aI h, .c (.list 1 (S.map r1))] (.one (aB true)) := by
  by_cases hn1 : S.length ≤ 2 ^ 20
  · have hn2 : S.length ≤ 2 ^ 40 := by omega
    have hs := specCof h S hi hn2
    have hi := implCof h S hn2
    have ht := toIntS_ok S hn2
    have hlen : (cofC h S).1.2.2.length ≤ 30 := cofC_len h S
    generalize cofC h S = C at hs hi hlen
    obtain ⟨⟨cw, ch, cl⟩, cb⟩ := C
    dsimp only at hs hi hlen
    have heq0 := eqIntS_ok S hn2
    have heq := eqCut_ok cw ch cl cw ch cl (by omega)
    refine fn_of_body (G := G) Try.func4 rfl (by decide) (Nat.le_of_ble_eq_true rfl) ?_
    conv => whnf
    repeat' first
      | exact True.intro
      | (refine Both.mk ?_ ?_ <;> conv => whnf)
      | (refine NilQ.mk (fun hnil => ?_) ?_ <;> conv => whnf)
      | ((fail_if_success (refine draw_mkF ?_ ?_ ?_; (focus (decide +kernel)))); refine draw_mk (by kernel_rfl) ?_; conv => whnf)
      | (refine Br.mk (fun hb => ?_) (fun hb => ?_) <;> conv => whnf)
      | (refine call_sn ?_ (ht) ?_; (focus ((repeat' first | exact snapRow | exact snap_row (by simp; done) | exact rfl | exact trivial | apply And.intro | omega | (simp; done)); done)); conv => whnf)
      | (refine callP_sn ?_ (ht) ?_; (focus ((repeat' first | exact snapRow | exact snap_row (by simp; done) | exact rfl | exact trivial | apply And.intro | omega | (simp; done)); done)); conv => whnf)
      | (refine call_sn ?_ (hs) ?_; (focus ((repeat' first | exact snapRow | exact snap_row (by simp; done) | exact rfl | exact trivial | apply And.intro | omega | (simp; done)); done)); conv => whnf)
      | (refine callP_sn ?_ (hs) ?_; (focus ((repeat' first | exact snapRow | exact snap_row (by simp; done) | exact rfl | exact trivial | apply And.intro | omega | (simp; done)); done)); conv => whnf)
      | (refine call_sn ?_ (hi) ?_; (focus ((repeat' first | exact snapRow | exact snap_row (by simp; done) | exact rfl | exact trivial | apply And.intro | omega | (simp; done)); done)); conv => whnf)
      | (refine callP_sn ?_ (hi) ?_; (focus ((repeat' first | exact snapRow | exact snap_row (by simp; done) | exact rfl | exact trivial | apply And.intro | omega | (simp; done)); done)); conv => whnf)
      | (refine call_sn ?_ (heq) ?_; (focus ((repeat' first | exact snapRow | exact snap_row (by simp; done) | exact rfl | exact trivial | apply And.intro | omega | (simp; done)); done)); conv => whnf)
      | (refine callP_sn ?_ (heq) ?_; (focus ((repeat' first | exact snapRow | exact snap_row (by simp; done) | exact rfl | exact trivial | apply And.intro | omega | (simp; done)); done)); conv => whnf)
      | (refine call_sn ?_ (heq0) ?_; (focus ((repeat' first | exact snapRow | exact snap_row (by simp; done) | exact rfl | exact trivial | apply And.intro | omega | (simp; done)); done)); conv => whnf)
      | (refine callP_sn ?_ (heq0) ?_; (focus ((repeat' first | exact snapRow | exact snap_row (by simp; done) | exact rfl | exact trivial | apply And.intro | omega | (simp; done)); done)); conv => whnf)
      | (refine markCut_x rfl rfl ?_ ?_ ?_ ?_; iterate 3 (focus (first | exact rfl | decide | omega | (simp; done) | (simp; omega) | (constructor <;> omega))); conv => whnf)
      | (refine heldCut_x rfl ?_ ?_ ?_ ?_; iterate 3 (focus (first | exact rfl | decide | omega | (simp; done) | (simp; omega) | (constructor <;> omega))); conv => whnf)
      | (refine markIntS_y rfl rfl ?_ ?_ ?_ ?_; iterate 3 (focus (first | exact rfl | decide | omega | (simp; done) | (simp; omega) | (constructor <;> omega))); conv => whnf)
      | (refine heldIntS_y rfl ?_ ?_ ?_ ?_; iterate 3 (focus (first | exact rfl | decide | omega | (simp; done) | (simp; omega) | (constructor <;> omega))); conv => whnf)
      | (refine And.intro ?_ ?_; (focus (first | decide | omega | (simp [contentOK, objRd, objAt, peel, List.length_map]; done) | (simp [contentOK, objRd, objAt, peel, List.length_map]; omega) | (simp [contentOK, objRd, objAt, peel, List.length_map] at *; omega))); conv => whnf)
    all_goals first
      | exact ⟨⟨rfl, trivial⟩, by simp [refVs, refCV]⟩
      | (exfalso; simp at hb; done)
      | (exfalso; simp at hb; omega)

  · have hn2 := hn1
    refine fn_of_body (G := G) Try.func4 rfl (by decide) (Nat.le_of_ble_eq_true rfl) ?_
    conv => whnf
    repeat' first
      | exact True.intro
      | (refine Both.mk ?_ ?_ <;> conv => whnf)
      | (refine NilQ.mk (fun hnil => ?_) ?_ <;> conv => whnf)
      | (refine Br.mk (fun hb => ?_) (fun hb => ?_) <;> conv => whnf)
      | (refine And.intro ?_ ?_; (focus (first | decide | omega | (simp [contentOK, objRd, objAt, peel, List.length_map]; done) | (simp [contentOK, objRd, objAt, peel, List.length_map]; omega) | (simp [contentOK, objRd, objAt, peel, List.length_map] at *; omega))); conv => whnf)
    all_goals first
      | exact ⟨⟨rfl, trivial⟩, by simp [refVs, refCV]⟩
      | (exfalso; simp at hb; omega)

theorem cofLaw (a : Int) (_ : (Lit.int .i64 a).wf = true) (x : DC) (hx : DCok (.slice [.int .i64]) x) : Fn G.P 4 [aI a, .c x] (.one (aB true)) := by
  obtain ⟨S, rfl, hn, hi⟩ := ints_of hx
  exact cofLaw_ok a S hn hi

end Go.Proofs.Ytmjaefnmianfpaa

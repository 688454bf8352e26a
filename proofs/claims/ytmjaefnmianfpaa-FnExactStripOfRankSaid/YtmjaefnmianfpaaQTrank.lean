/- The law on strips of a rank. -/
import Derived.Test.YtmjaefnmianfpaaQZw
import Derived.Test.YtmjaefnmianfpaaQIcof
namespace Go.Proofs.Ytmjaefnmianfpaa
open Go Go.RowKit
set_option maxRecDepth 10000
set_option maxHeartbeats 4000000
set_option linter.unusedSimpArgs false

theorem ranked_facts {h l : Nat} {r : Int} (hh : 1 ≤ h ∧ h < 5) (hl : 1 ≤ l ∧ l ≤ 30) (hr : 0 ≤ r ∧ r < (Cn h l 0 : Nat)) : (ranked h l r).length ≤ 120 ∧ ∀ s ∈ ranked h l r, 1 ≤ s ∧ s ≤ 4 := by
  have key : ∀ (n i : Nat) (R : List Nat) (r' : Int) (L : List Int) (X st : Nat), 121 - i ≤ n → RkAt h l r i R r' L X st → (ranked h l r).length ≤ 120 ∧ ∀ s ∈ ranked h l r, 1 ≤ s ∧ s ≤ 4 := by
    intro n
    induction n with
    | zero =>
      intro i R r' L X st hn hk
      have := hk.many hh.2 hl.2
      omega
    | succ n ih =>
      intro i R r' L X st hn hk
      have hm := hk.many hh.2 hl.2
      have hX := hk.le
      rcases Nat.lt_or_ge X l with g | g
      · obtain ⟨y, hy⟩ := Option.isSome_iff_exists.1 hk.at_.free
        obtain ⟨s, hp⟩ := pick_ex hh hl.2 g hk.at_ hy hk.hi
        obtain ⟨X', st', _, _, _, hk'⟩ := rk_step hh hl.2 hk hy hp
        exact ih _ _ _ _ _ _ (by omega) hk'
      · have : X = l := by omega
        subst this
        rw [rk_end hh.2 hl.2 hk]
        exact ⟨by rw [hk.len]; omega, hk.side⟩
  exact key 121 0 _ _ _ _ _ (Nat.sub_le _ _) (rk_start hh hl.2 hr)

/-- A rank is one of a strip. -/
def rkIn (h l r : Int) : Prop := stripB h l = true ∧ 0 ≤ r ∧ r < (Cn h.toNat l.toNat 0 : Nat)

open Classical in
/-- What StripOfRank gives. -/
noncomputable def rkC (h l r : Int) : (Int × Int × List S3) × Bool :=
  if rkIn h l r then cofL h.toNat (ranked h.toNat l.toNat r) else ((0, 0, []), false)

theorem countR_eq {h l : Nat} (hh : 1 ≤ h ∧ h < 5) (hl : 1 ≤ l ∧ l ≤ 30) : countR h l = (((Cn h l 0 : Nat) : Int), true) := by
  have hsm := Cn_any (left := l) (st := 0) hh hl.2 (Nat.pow_pos (by omega))
  unfold countR
  rw [if_pos (by simp only [stripB, inB, Bool.and_eq_true, decide_eq_true_eq]; omega)]
  rw [Int.toNat_natCast, Int.toNat_natCast, Vw_Cn, wrap_i64 _ (by omega) (by omega)]

theorem rk_cases (h l r : Int) : (∃ H L : Nat, h = H ∧ l = L ∧ (1 ≤ H ∧ H < 5) ∧ (1 ≤ L ∧ L ≤ 30) ∧ 0 ≤ r ∧ r < (Cn H L 0 : Nat) ∧ rkC h l r = cofL H (ranked H L r)) ∨ (rkC h l r = ((0, 0, []), false) ∧ ((countR h l).2 = false ∨ ((countR h l).2 = true ∧ inB r 0 (IntKind.i64.wrap ((countR h l).1 - 1)) = false))) := by
  by_cases c : rkIn h l r
  · left
    have e : rkC h l r = cofL h.toNat (ranked h.toNat l.toNat r) := by unfold rkC; rw [if_pos c]
    obtain ⟨a, b, rfl, rfl, h1, h2, h3, h4⟩ := strip_nat c.1
    rw [Int.toNat_natCast, Int.toNat_natCast] at e
    have c2 := c.2
    rw [Int.toNat_natCast, Int.toNat_natCast] at c2
    exact ⟨a, b, rfl, rfl, ⟨h1, h2⟩, ⟨h3, h4⟩, c2.1, c2.2, e⟩
  · right
    refine ⟨by unfold rkC; rw [if_neg c], ?_⟩
    by_cases hb : stripB h l = true
    · obtain ⟨a, b, rfl, rfl, h1, h2, h3, h4⟩ := strip_nat hb
      right
      have hsm := Cn_any (left := b) (st := 0) ⟨h1, h2⟩ h4 (Nat.pow_pos (by omega))
      rw [countR_eq ⟨h1, h2⟩ ⟨h3, h4⟩]
      refine ⟨rfl, ?_⟩
      have c' : ¬ (0 ≤ r ∧ r < (Cn a b 0 : Nat)) := fun g => c ⟨hb, by simpa using g⟩
      dsimp only
      rw [wrap_i64 _ (by omega) (by omega)]
      simp only [inB, decide_eq_false_iff_not]
      omega
    · left
      unfold countR
      rw [if_neg hb]

theorem implRanked (h l r : Int) : Fn G.P 43 [aI h, aI l, aI r] (.tup [.agg (dCut (rkC h l r).1.1 (rkC h l r).1.2.1 (rkC h l r).1.2.2), aB (rkC h l r).2]) := by
  rcases rk_cases h l r with ⟨H, L, rfl, rfl, hh, hl, h1, h2, e⟩ | ⟨e, g⟩
  · rw [e]
    exact implRanked_yes H L r hh hl ⟨h1, h2⟩
  · rw [e]
    have hc := implCount h l
    generalize countR h l = C at hc g
    obtain ⟨n, ok⟩ := C
    dsimp only at g hc
    rcases g with rfl | ⟨rfl, g⟩
    all_goals
      refine fn_of_body (G := G) Try.func43 rfl (by decide) (Nat.le_of_ble_eq_true rfl) ?_
      conv => whnf
      repeat' first
        | exact True.intro
        | (refine draw_mkF ?_ ?_ ?_; (focus (decide +kernel)); (focus (kernel_rfl)); conv => whnf)
        | (refine Both.mk ?_ ?_ <;> conv => whnf)
        | (refine NilQ.mk (fun hnil => ?_) ?_ <;> conv => whnf)
        | (refine draw_mk (by kernel_rfl) ?_; conv => whnf)
        | (refine Br.mk (fun hb => ?_) (fun hb => ?_) <;> conv => whnf)
        | (refine call_sn ?_ (hc) ?_; (focus ((repeat' first | exact snapRow | exact snap_row (by simp; done) | exact rfl | exact trivial | apply And.intro | omega | (simp; done)); done)); conv => whnf)
        | (refine callP_sn ?_ (hc) ?_; (focus ((repeat' first | exact snapRow | exact snap_row (by simp; done) | exact rfl | exact trivial | apply And.intro | omega | (simp; done)); done)); conv => whnf)
        | (refine call_sn ?_ (within_ok ?_ ?_ ?_) ?_; (focus ((repeat' first | exact snapRow | exact snap_row (by simp; done) | exact rfl | exact trivial | apply And.intro | omega | (simp; done)); done)); conv => whnf)
        | (refine callP_sn ?_ (within_ok ?_ ?_ ?_) ?_; (focus ((repeat' first | exact snapRow | exact snap_row (by simp; done) | exact rfl | exact trivial | apply And.intro | omega | (simp; done)); done)); conv => whnf)
        | (refine And.intro ?_ ?_; (focus (first | decide | omega | (simp at *; omega) | (simp_all; done))); conv => whnf)
      all_goals first
        | (simp [resOK_iff, resVs, resCell, resCells, refVs, refCV, refCs, dCut]; done)
        | (exfalso; simp_all; done)

theorem specRanked (h l r : Int) : Fn G.P 42 [aI h, aI l, aI r] (.tup [.agg (dCut (rkC h l r).1.1 (rkC h l r).1.2.1 (rkC h l r).1.2.2), aB (rkC h l r).2]) := by
  rcases rk_cases h l r with ⟨H, L, rfl, rfl, hh, hl, h1, h2, e⟩ | ⟨e, g⟩
  · rw [e]
    have hc := specCount H L
    rw [countR_eq hh hl] at hc
    have hsm := Cn_any (left := L) (st := 0) hh hl.2 (Nat.pow_pos (by omega))
    have hin : inB r 0 (IntKind.i64.wrap (((Cn H L 0 : Nat) : Int) - 1)) = true := by
      rw [wrap_i64 _ (by omega) (by omega)]
      simp only [inB, decide_eq_true_eq]
      omega
    have hr := stRanked_ok H L r hh hl ⟨h1, h2⟩
    obtain ⟨f1, f2⟩ := ranked_facts hh hl ⟨h1, h2⟩
    generalize ranked H L r = S at hr f1 f2
    have hf := stFill_ok H S hh f1 (fun s hs => by have := f2 s hs; omega)
    rw [cofL_stF]
    generalize stF H S = C at hf
    obtain ⟨⟨cw, ch, cl⟩, cb⟩ := C
    cases cb
    all_goals
      refine fn_of_body (G := G) Try.func42 rfl (by decide) (Nat.le_of_ble_eq_true rfl) ?_
      conv => whnf
      repeat' first
        | exact True.intro
        | (refine draw_mkF ?_ ?_ ?_; (focus (decide +kernel)); (focus (kernel_rfl)); conv => whnf)
        | (refine Both.mk ?_ ?_ <;> conv => whnf)
        | (refine NilQ.mk (fun hnil => ?_) ?_ <;> conv => whnf)
        | (refine draw_mk (by kernel_rfl) ?_; conv => whnf)
        | (refine Br.mk (fun hb => ?_) (fun hb => ?_) <;> conv => whnf)
        | (refine call_sn ?_ (hc) ?_; (focus ((repeat' first | exact snapRow | exact snap_row (by simp; done) | exact rfl | exact trivial | apply And.intro | omega | (simp; done)); done)); conv => whnf)
        | (refine callP_sn ?_ (hc) ?_; (focus ((repeat' first | exact snapRow | exact snap_row (by simp; done) | exact rfl | exact trivial | apply And.intro | omega | (simp; done)); done)); conv => whnf)
        | (refine call_sn ?_ (l1In_ok ?_ ?_ ?_) ?_; (focus ((repeat' first | exact snapRow | exact snap_row (by simp; done) | exact rfl | exact trivial | apply And.intro | omega | (simp; done)); done)); conv => whnf)
        | (refine callP_sn ?_ (l1In_ok ?_ ?_ ?_) ?_; (focus ((repeat' first | exact snapRow | exact snap_row (by simp; done) | exact rfl | exact trivial | apply And.intro | omega | (simp; done)); done)); conv => whnf)
        | (refine call_sn ?_ (hr) ?_; (focus ((repeat' first | exact snapRow | exact snap_row (by simp; done) | exact rfl | exact trivial | apply And.intro | omega | (simp; done)); done)); conv => whnf)
        | (refine callP_sn ?_ (hr) ?_; (focus ((repeat' first | exact snapRow | exact snap_row (by simp; done) | exact rfl | exact trivial | apply And.intro | omega | (simp; done)); done)); conv => whnf)
        | (refine call_sn ?_ (hf) ?_; (focus ((repeat' first | exact snapRow | exact snap_row (by simp; done) | exact rfl | exact trivial | apply And.intro | omega | (simp; done)); done)); conv => whnf)
        | (refine callP_sn ?_ (hf) ?_; (focus ((repeat' first | exact snapRow | exact snap_row (by simp; done) | exact rfl | exact trivial | apply And.intro | omega | (simp; done)); done)); conv => whnf)
        | (refine And.intro ?_ ?_; (focus (first | decide | omega | (simp [contentOK, objRd, objAt, peel, List.length_map]; done) | (simp [contentOK, objRd, objAt, peel, List.length_map]; omega) | (simp [contentOK, objRd, objAt, peel, List.length_map] at *; omega))); conv => whnf)
      all_goals first
        | (simp [resOK_iff, resVs, resCell, resCells, refVs, refCV, refCs, dCut]; done)
        | exact ⟨⟨⟨rfl, rfl, res_cell (by simp [objAt]) (by simp) r3_flat, trivial⟩, rfl, trivial⟩, by simp [refVs, refCV, refCs]⟩
        | (exfalso; simp_all; done)
  · rw [e]
    have hc := specCount h l
    generalize countR h l = C at hc g
    obtain ⟨n, ok⟩ := C
    dsimp only at g hc
    rcases g with rfl | ⟨rfl, g⟩
    all_goals
      refine fn_of_body (G := G) Try.func42 rfl (by decide) (Nat.le_of_ble_eq_true rfl) ?_
      conv => whnf
      repeat' first
        | exact True.intro
        | (refine draw_mkF ?_ ?_ ?_; (focus (decide +kernel)); (focus (kernel_rfl)); conv => whnf)
        | (refine Both.mk ?_ ?_ <;> conv => whnf)
        | (refine NilQ.mk (fun hnil => ?_) ?_ <;> conv => whnf)
        | (refine draw_mk (by kernel_rfl) ?_; conv => whnf)
        | (refine Br.mk (fun hb => ?_) (fun hb => ?_) <;> conv => whnf)
        | (refine call_sn ?_ (hc) ?_; (focus ((repeat' first | exact snapRow | exact snap_row (by simp; done) | exact rfl | exact trivial | apply And.intro | omega | (simp; done)); done)); conv => whnf)
        | (refine callP_sn ?_ (hc) ?_; (focus ((repeat' first | exact snapRow | exact snap_row (by simp; done) | exact rfl | exact trivial | apply And.intro | omega | (simp; done)); done)); conv => whnf)
        | (refine call_sn ?_ (l1In_ok ?_ ?_ ?_) ?_; (focus ((repeat' first | exact snapRow | exact snap_row (by simp; done) | exact rfl | exact trivial | apply And.intro | omega | (simp; done)); done)); conv => whnf)
        | (refine callP_sn ?_ (l1In_ok ?_ ?_ ?_) ?_; (focus ((repeat' first | exact snapRow | exact snap_row (by simp; done) | exact rfl | exact trivial | apply And.intro | omega | (simp; done)); done)); conv => whnf)
        | (refine And.intro ?_ ?_; (focus (first | decide | omega | (simp at *; omega) | (simp_all; done))); conv => whnf)
      all_goals first
        | (simp [resOK_iff, resVs, resCell, resCells, refVs, refCV, refCs, dCut]; done)
        | (exfalso; simp_all; done)

theorem rkC_len (h l r : Int) : (rkC h l r).1.2.2.length ≤ 30 := by
  rcases rk_cases h l r with ⟨H, L, rfl, rfl, hh, hl, h1, h2, e⟩ | ⟨e, g⟩
  · rw [e]
    unfold cofL
    split
    · exact Nat.zero_le _
    · split
      · exact cofR_len _ _ _
      · exact Nat.zero_le _
  · rw [e]; exact Nat.zero_le _

theorem rankedLaw_ok (h l r : Int) : Fn G.P 6 [aI h, aI l, aI r] (.one (aB true)) := by
  have hs := specRanked h l r
  have hi := implRanked h l r
  have hlen : (rkC h l r).1.2.2.length ≤ 30 := rkC_len h l r
  generalize rkC h l r = C at hs hi hlen
  obtain ⟨⟨cw, ch, cl⟩, cb⟩ := C
  dsimp only at hs hi hlen
  have heq := eqCut_ok cw ch cl cw ch cl (by omega)
  refine fn_of_body (G := G) Try.func6 rfl (by decide) (Nat.le_of_ble_eq_true rfl) ?_
  conv => whnf
  repeat' first
    | exact True.intro
    | (refine Both.mk ?_ ?_ <;> conv => whnf)
    | (refine NilQ.mk (fun hnil => ?_) ?_ <;> conv => whnf)
    | ((fail_if_success (refine draw_mkF ?_ ?_ ?_; (focus (decide +kernel)))); refine draw_mk (by kernel_rfl) ?_; conv => whnf)
    | (refine Br.mk (fun hb => ?_) (fun hb => ?_) <;> conv => whnf)
    | (refine call_sn ?_ (hs) ?_; (focus ((repeat' first | exact snapRow | exact snap_row (by simp; done) | exact rfl | exact trivial | apply And.intro | omega | (simp; done)); done)); conv => whnf)
    | (refine callP_sn ?_ (hs) ?_; (focus ((repeat' first | exact snapRow | exact snap_row (by simp; done) | exact rfl | exact trivial | apply And.intro | omega | (simp; done)); done)); conv => whnf)
    | (refine call_sn ?_ (hi) ?_; (focus ((repeat' first | exact snapRow | exact snap_row (by simp; done) | exact rfl | exact trivial | apply And.intro | omega | (simp; done)); done)); conv => whnf)
    | (refine callP_sn ?_ (hi) ?_; (focus ((repeat' first | exact snapRow | exact snap_row (by simp; done) | exact rfl | exact trivial | apply And.intro | omega | (simp; done)); done)); conv => whnf)
    | (refine call_sn ?_ (heq) ?_; (focus ((repeat' first | exact snapRow | exact snap_row (by simp; done) | exact rfl | exact trivial | apply And.intro | omega | (simp; done)); done)); conv => whnf)
    | (refine callP_sn ?_ (heq) ?_; (focus ((repeat' first | exact snapRow | exact snap_row (by simp; done) | exact rfl | exact trivial | apply And.intro | omega | (simp; done)); done)); conv => whnf)
    | (refine markCut_x rfl rfl ?_ ?_ ?_ ?_; iterate 3 (focus (first | exact rfl | decide | omega | (simp; done) | (simp; omega) | (constructor <;> omega))); conv => whnf)
    | (refine heldCut_x rfl ?_ ?_ ?_ ?_; iterate 3 (focus (first | exact rfl | decide | omega | (simp; done) | (simp; omega) | (constructor <;> omega))); conv => whnf)
    | (refine And.intro ?_ ?_; (focus (first | decide | omega | (simp [contentOK, objRd, objAt, peel, List.length_map]; done) | (simp [contentOK, objRd, objAt, peel, List.length_map]; omega) | (simp [contentOK, objRd, objAt, peel, List.length_map] at *; omega))); conv => whnf)
  all_goals first
    | exact ⟨⟨rfl, trivial⟩, by simp [refVs, refCV]⟩
    | (exfalso; simp at hb; done)
    | (exfalso; simp at hb; omega)

theorem rankedLaw (h : Int) (_ : (Lit.int .i64 h).wf = true) (l : Int) (_ : (Lit.int .i64 l).wf = true) (r : Int) (_ : (Lit.int .i64 r).wf = true) : Fn G.P 6 [aI h, aI l, aI r] (.one (aB true)) := rankedLaw_ok h l r

end Go.Proofs.Ytmjaefnmianfpaa

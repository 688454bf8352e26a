/- Strips: squares of a side; the law. -/
import Derived.Test.YtnmeehiahlfgaaaQSst
import Derived.Test.YtnmeehiahlfgaaaQRst
namespace Go.Proofs.Ytnmeehiahlfgaaa
open Go Go.RowKit
set_option maxRecDepth 10000
set_option linter.unusedSimpArgs false

theorem implSide_yes (h l s : Nat) (hh : 1 ≤ h ∧ h < 5) (hl : 1 ≤ l ∧ l ≤ 30) (hs : 1 ≤ s ∧ s ≤ 4) : Fn G.P 18 [aI h, aI l, aI s] (.tup [aI (Pw s h l 0).2, aB true]) := by
  have hb1 : stripB h l = true := by simp [stripB, inB]; omega
  have ht := tally_side s h l 0 hs
  rw [← ht]
  have hc : s = 1 ∨ s = 2 ∨ s = 3 ∨ s = 4 := by omega
  rcases hc with rfl | rfl | rfl | rfl
  all_goals
    refine fn_of_body (G := G) Try.func18 rfl (by decide) (Nat.le_of_ble_eq_true rfl) ?_
    conv => whnf
    repeat' first
      | exact True.intro
      | (refine draw_mkF ?_ ?_ ?_; (focus (decide +kernel)); (focus (kernel_rfl)); conv => whnf)
      | (refine Both.mk ?_ ?_ <;> conv => whnf)
      | (refine NilQ.mk (fun hnil => ?_) ?_ <;> conv => whnf)
      | (refine draw_mk (by kernel_rfl) ?_; conv => whnf)
      | (refine Br.mk (fun hb => ?_) (fun hb => ?_) <;> conv => whnf)
      | (refine call_sn ?_ (isStripSize_ok ?_ ?_) ?_; (focus ((repeat' first | exact snapRow | exact snap_row (by simp; done) | exact rfl | exact trivial | apply And.intro | omega | (simp; done)); done)); conv => whnf)
      | (refine callP_sn ?_ (isStripSize_ok ?_ ?_) ?_; (focus ((repeat' first | exact snapRow | exact snap_row (by simp; done) | exact rfl | exact trivial | apply And.intro | omega | (simp; done)); done)); conv => whnf)
      | (refine call_sn ?_ (within_ok ?_ ?_ ?_) ?_; (focus ((repeat' first | exact snapRow | exact snap_row (by simp; done) | exact rfl | exact trivial | apply And.intro | omega | (simp; done)); done)); conv => whnf)
      | (refine callP_sn ?_ (within_ok ?_ ?_ ?_) ?_; (focus ((repeat' first | exact snapRow | exact snap_row (by simp; done) | exact rfl | exact trivial | apply And.intro | omega | (simp; done)); done)); conv => whnf)
      | (refine call_body (G := G) Try.func39 rfl (by decide) (Nat.le_of_ble_eq_true rfl) ?_; conv => whnf)
      | (refine callP_text (call_body (G := G) Try.func39 rfl (by decide) (Nat.le_of_ble_eq_true rfl) ?_); conv => whnf)
    · rw [hb1] at hb; cases hb
    refine tally_c hh hl ?_
    conv => whnf
    refine ⟨by decide, by decide, ?_⟩
    conv => whnf
    exact ⟨⟨rfl, rfl, trivial⟩, by simp [refVs, refCV]⟩

theorem specSide_yes (h L s : Nat) (hh : 1 ≤ h ∧ h < 5) (hL : 1 ≤ L ∧ L ≤ 30) (hs : 1 ≤ s ∧ s ≤ 4) : Fn G.P 22 [aI h, aI L, aI s] (.tup [aI (Pw s h L 0).2, aB true]) := by
  have hb1 : stripB h L = true := by simp [stripB, inB]; omega
  refine fn_of_body (G := G) Try.func22 rfl (by decide) (Nat.le_of_ble_eq_true rfl) ?_
  conv => whnf
  repeat' first
    | exact True.intro
    | (refine draw_mkF ?_ ?_ ?_; (focus (decide +kernel)); (focus (kernel_rfl)); conv => whnf)
    | (refine Both.mk ?_ ?_ <;> conv => whnf)
    | (refine NilQ.mk (fun hnil => ?_) ?_ <;> conv => whnf)
    | (refine draw_mk (by kernel_rfl) ?_; conv => whnf)
    | (refine Br.mk (fun hb => ?_) (fun hb => ?_) <;> conv => whnf)
    | (refine call_sn ?_ (stSize_ok ?_ ?_) ?_; (focus ((repeat' first | exact snapRow | exact snap_row (by simp; done) | exact rfl | exact trivial | apply And.intro | omega | (simp; done)); done)); conv => whnf)
    | (refine callP_sn ?_ (stSize_ok ?_ ?_) ?_; (focus ((repeat' first | exact snapRow | exact snap_row (by simp; done) | exact rfl | exact trivial | apply And.intro | omega | (simp; done)); done)); conv => whnf)
    | (refine call_sn ?_ (l1In_ok ?_ ?_ ?_) ?_; (focus ((repeat' first | exact snapRow | exact snap_row (by simp; done) | exact rfl | exact trivial | apply And.intro | omega | (simp; done)); done)); conv => whnf)
    | (refine callP_sn ?_ (l1In_ok ?_ ?_ ?_) ?_; (focus ((repeat' first | exact snapRow | exact snap_row (by simp; done) | exact rfl | exact trivial | apply And.intro | omega | (simp; done)); done)); conv => whnf)
  · rw [hb1] at hb; cases hb
  · exfalso; simp [inB] at hb; omega
  have hw0 : IntKind.i64.wrap ((L : Int) + 1) = ((L + 1 : Nat) : Int) := by rw [wrap_i64 _ (by omega) (by omega)]; omega
  have h256 := pow_le256 hh.2
  have hsh : (0 : Int) ≤ IntKind.i64.wrap (2 * (h : Int)) ∧ IntKind.i64.wrap (1 * (2 : Int) ^ (min (IntKind.i64.wrap (2 * (h : Int))).toNat IntKind.i64.bits : Nat)) = ((4 ^ h : Nat) : Int) := by
    have : ∀ k : Nat, k < 5 → IntKind.i64.wrap (1 * (2 : Int) ^ (min (IntKind.i64.wrap (2 * (k : Int))).toNat IntKind.i64.bits : Nat)) = ((4 ^ k : Nat) : Int) := by decide
    exact ⟨by rw [wrap_i64 _ (by omega) (by omega)]; omega, this h hh.2⟩
  rw [hw0]
  refine ⟨by omega, by omega, by simp; omega, by omega, .inl ?_⟩
  conv => whnf
  refine .inl ⟨Nat, fun i => 40 - i, fun i => i ≤ L + 1,
    fun i => ⟨[(0, .one (.c (vI h))), (1, .one (.c (vI L))), (2, .one (.c (vI s))), (8, .one (.c (.sl 0 0 1 0 (L + 1) (some (L + 1))))), (23, .one (.c (.sl 0 0 1 0 (L + 1) (some (L + 1))))), (24, .one (.c (vI ((L + 1 : Nat) : Int)))), (25, .one (.c (vI i)))],
      [(0, .grid 1 (gmix (List.replicate i (rowJ (4 ^ h) (4 ^ h))) (L + 1 - i)))], _⟩, 0, Nat.zero_le _, weak_of rfl ?_ rfl (Nat.zero_le _), ?_⟩
  · (repeat' first | exact rfl | exact trivial | apply And.intro | (simp [getE]; done))
  intro i hi
  replace hi : i ≤ L + 1 := hi
  conv => whnf
  refine Br.mk (fun hb => ?_) (fun hb => ?_) <;> conv => whnf
  · have hlt : i < L + 1 := by simp at hb; omega
    obtain ⟨k, hk⟩ : ∃ k, L + 1 - i = k + 1 := ⟨L - i, by omega⟩
    generalize hT : List.replicate i (rowJ (4 ^ h) (4 ^ h)) = T
    have hTl : T.length = i := by rw [← hT]; simp
    refine ⟨hsh.1, ?_⟩
    conv => whnf
    have hz : IntKind.i64.wrap (1 * (2 : Int) ^ (min (IntKind.i64.wrap (2 * (h : Int))).toNat IntKind.i64.bits : Nat)) = ((4 ^ h : Nat) : Int) := hsh.2
    rw [hz]
    have hp : 0 < 4 ^ h := Nat.pow_pos (by omega)
    refine ⟨by omega, by omega, by show ((4 ^ h : Nat) : Int) * 8 ≤ 2 ^ 46; omega, by omega, ?_⟩
    conv => whnf
    refine ⟨by omega, by omega, ?_⟩
    conv => whnf
    have hiN : 0 + ((i : Int)).toNat = T.length := by simp [hTl]
    refine ⟨by rw [gmix_len, hTl]; simp; omega, by simp, ElG.mk (fun el hel => ?_)⟩
    rw [hk, hiN, gmix_next] at hel
    obtain rfl := Option.some.inj hel
    refine ⟨rfl, ?_⟩
    conv => whnf
    have hrow0 : List.take (((4 ^ h : Nat) : Int)).toNat (List.replicate (((4 ^ h : Nat) : Int)).toNat [DC.v (.int .i64 0)]) = (rowJ (4 ^ h) 0).map r1 := by
      rw [Int.toNat_natCast]
      generalize 4 ^ h = N
      simp [rowJ, r1]
    rw [hk, hiN, hrow0, gmix_put]
    refine ⟨by omega, by omega, ?_⟩
    conv => whnf
    refine ⟨by rw [gmix_len]; simp; omega, ElG.mk (fun el2 hel2 => ?_)⟩
    rw [gmix_last] at hel2
    obtain rfl := Option.some.inj hel2
    conv => whnf
    generalize hN : 4 ^ h = N
    rw [hN] at h256 hp hT
    refine .inl ⟨Nat, fun j => 300 - j, fun j => j ≤ N,
      fun j => ⟨[(0, .one (.c (vI h))), (1, .one (.c (vI L))), (2, .one (.c (vI s))), (8, .one (.c (.sl 0 0 1 0 (L + 1) (some (L + 1))))), (9, .one (.c (vI i))), (23, .one (.c (.sl 0 0 1 0 (L + 1) (some (L + 1))))), (24, .one (.c (vI ((L + 1 : Nat) : Int)))), (25, .one (.c (vI i))), (39, .one (.c (vI (N : Nat)))), (40, .one (.c (vI j)))],
        [(0, .grid 1 (gmix (T ++ [rowJ N j]) k))], _⟩, 0, Nat.zero_le _, weak_of rfl ?_ rfl (Nat.zero_le _), ?_⟩
    · rw [List.length_map, rowJ_len (Nat.zero_le _)]
      (repeat' first | exact rfl | exact trivial | apply And.intro | (simp [getE]; done))
    intro j hj
    replace hj : j ≤ N := hj
    conv => whnf
    refine Br.mk (fun hb1 => ?_) (fun hb1 => ?_) <;> conv => whnf
    · have hjl : j < N := by simp at hb1; omega
      have hj1 : IntKind.i64.wrap ((j : Int) + 1) = ((j + 1 : Nat) : Int) := by rw [wrap_i64 _ (by omega) (by omega)]; omega
      refine ⟨by omega, by omega, ?_⟩
      conv => whnf
      refine ⟨by rw [gmix_len]; simp; omega, ElG.mk (fun el3 hel3 => ?_)⟩
      rw [hiN, gmix_last] at hel3
      obtain rfl := Option.some.inj hel3
      conv => whnf
      refine ⟨by omega, by simp [rowJ_len hj]; omega, ?_⟩
      conv => whnf
      refine ⟨trivial, ?_⟩
      refine RowAt.mk' (gmix_row (by simp [hTl])) ?_
      refine ⟨by simp [rowJ_len hj]; omega, El.mk (fun el4 hel4 => ?_)⟩
      obtain ⟨v2, _, rfl⟩ := r1_get hel4
      conv => whnf
      refine ⟨j + 1, (by omega : j + 1 ≤ N), (by omega : 300 - (j + 1) < 300 - j), weak_of ?_ ?_ rfl (Nat.zero_le _)⟩
      · rw [show 0 + (j : Int).toNat = j by simp, show (0 + (i : Int).toNat) * 1 = T.length by simp [hTl]]
        refine congrArg (fun z => [(0, OB.grid 1 z)]) ?_
        refine (gmix_set (v := -1) rfl).trans ?_
        rw [rowJ_set hjl]
      · rw [hj1]
        (repeat' first | exact rfl | exact trivial | apply And.intro | (simp [getE]; done))
    · have hje : j = N := by simp at hb1; omega
      have hi1 : IntKind.i64.wrap ((i : Int) + 1) = ((i + 1 : Nat) : Int) := by rw [wrap_i64 _ (by omega) (by omega)]; omega
      refine ⟨i + 1, (by omega : i + 1 ≤ L + 1), (by omega : 40 - (i + 1) < 40 - i), weak_of ?_ ?_ rfl (Nat.zero_le _)⟩
      · have e1 : List.replicate (i + 1) (rowJ N N) = T ++ [rowJ N N] := by rw [List.replicate_succ', hT]
        rw [e1, hje, show L + 1 - (i + 1) = k by omega]
        rfl
      · rw [hi1]
        (repeat' first | exact rfl | exact trivial | apply And.intro | (simp [getE]; done))
  · have hiL : i = L + 1 := by simp at hb; omega
    subst hiL
    have e0 : gmix (List.replicate (L + 1) (rowJ (4 ^ h) (4 ^ h))) (L + 1 - (L + 1)) = gx (List.replicate (L + 1) (rowJ (4 ^ h) (4 ^ h))) := by
      rw [Nat.sub_self]; unfold gmix; simp
    rw [e0]
    have hu : TabL h L (List.replicate (L + 1) (rowJ (4 ^ h) (4 ^ h))) := by
      refine ⟨by simp, fun r hr => ?_⟩
      rw [List.eq_of_mem_replicate hr, rowJ_len (Nat.le_refl _)]
    have hv : GoodU s h (List.replicate (L + 1) (rowJ (4 ^ h) (4 ^ h))) := by
      intro left st r v h1 h2 h3
      have hr := List.eq_of_mem_replicate (List.mem_of_getElem? h1)
      subst hr
      have hm := List.mem_of_getElem? h2
      unfold rowJ at hm
      rw [Nat.sub_self, List.replicate_zero, List.append_nil] at hm
      have := List.eq_of_mem_replicate hm
      omega
    obtain ⟨U, hU⟩ : ∃ U, U = List.replicate (L + 1) (rowJ (4 ^ h) (4 ^ h)) := ⟨_, rfl⟩
    rw [← hU] at hu hv ⊢
    refine ways_c (h := h) (L := L) (wo := 0) hh hL.2 fun T ht hg => ?_
    conv => whnf
    refine frameN [1, 0] (stOfSide_rec hh hL.2 hs 1000 L 0 (Nat.le_refl _) (Nat.pow_pos (by omega)) (Nat.lt_of_lt_of_le (mu_small hh.2 hL.2) (by omega)) T U ht hg hu hv) rfl (by decide) ⟨rfl, rfl, rfl⟩ rfl ?_
    rintro _ _ ⟨rfl, T', U', ht', hg', hu', hv', gs, rfl⟩
    refine ⟨_, gs, rfl, Nat.le_refl _, rfl, ?_⟩
    conv => whnf
    exact ⟨⟨rfl, rfl, trivial⟩, by simp [refVs, refCV]⟩

theorem implSide_no (h l s : Int) (hb0 : (stripB h l && inB s 1 4) = false) : Fn G.P 18 [aI h, aI l, aI s] (.tup [aI 0, aB false]) := by
  refine fn_of_body (G := G) Try.func18 rfl (by decide) (Nat.le_of_ble_eq_true rfl) ?_
  conv => whnf
  repeat' first
    | exact True.intro
    | (refine draw_mkF ?_ ?_ ?_; (focus (decide +kernel)); (focus (kernel_rfl)); conv => whnf)
    | (refine Both.mk ?_ ?_ <;> conv => whnf)
    | (refine NilQ.mk (fun hnil => ?_) ?_ <;> conv => whnf)
    | (refine draw_mk (by kernel_rfl) ?_; conv => whnf)
    | (refine Br.mk (fun hb => ?_) (fun hb => ?_) <;> conv => whnf)
    | (refine call_sn ?_ (isStripSize_ok ?_ ?_) ?_; (focus ((repeat' first | exact snapRow | exact snap_row (by simp; done) | exact rfl | exact trivial | apply And.intro | omega | (simp; done)); done)); conv => whnf)
    | (refine callP_sn ?_ (isStripSize_ok ?_ ?_) ?_; (focus ((repeat' first | exact snapRow | exact snap_row (by simp; done) | exact rfl | exact trivial | apply And.intro | omega | (simp; done)); done)); conv => whnf)
    | (refine call_sn ?_ (within_ok ?_ ?_ ?_) ?_; (focus ((repeat' first | exact snapRow | exact snap_row (by simp; done) | exact rfl | exact trivial | apply And.intro | omega | (simp; done)); done)); conv => whnf)
    | (refine callP_sn ?_ (within_ok ?_ ?_ ?_) ?_; (focus ((repeat' first | exact snapRow | exact snap_row (by simp; done) | exact rfl | exact trivial | apply And.intro | omega | (simp; done)); done)); conv => whnf)
    | (refine call_body (G := G) Try.func39 rfl (by decide) (Nat.le_of_ble_eq_true rfl) ?_; conv => whnf)
    | (refine callP_text (call_body (G := G) Try.func39 rfl (by decide) (Nat.le_of_ble_eq_true rfl) ?_); conv => whnf)
  · exact ⟨⟨rfl, rfl, trivial⟩, by simp [refVs, refCV]⟩
  · exact ⟨⟨rfl, rfl, trivial⟩, by simp [refVs, refCV]⟩
  · simp_all

theorem specSide_no (h l s : Int) (hb0 : (stripB h l && inB s 1 4) = false) : Fn G.P 22 [aI h, aI l, aI s] (.tup [aI 0, aB false]) := by
  refine fn_of_body (G := G) Try.func22 rfl (by decide) (Nat.le_of_ble_eq_true rfl) ?_
  conv => whnf
  repeat' first
    | exact True.intro
    | (refine draw_mkF ?_ ?_ ?_; (focus (decide +kernel)); (focus (kernel_rfl)); conv => whnf)
    | (refine Both.mk ?_ ?_ <;> conv => whnf)
    | (refine NilQ.mk (fun hnil => ?_) ?_ <;> conv => whnf)
    | (refine draw_mk (by kernel_rfl) ?_; conv => whnf)
    | (refine Br.mk (fun hb => ?_) (fun hb => ?_) <;> conv => whnf)
    | (refine call_sn ?_ (stSize_ok ?_ ?_) ?_; (focus ((repeat' first | exact snapRow | exact snap_row (by simp; done) | exact rfl | exact trivial | apply And.intro | omega | (simp; done)); done)); conv => whnf)
    | (refine callP_sn ?_ (stSize_ok ?_ ?_) ?_; (focus ((repeat' first | exact snapRow | exact snap_row (by simp; done) | exact rfl | exact trivial | apply And.intro | omega | (simp; done)); done)); conv => whnf)
    | (refine call_sn ?_ (l1In_ok ?_ ?_ ?_) ?_; (focus ((repeat' first | exact snapRow | exact snap_row (by simp; done) | exact rfl | exact trivial | apply And.intro | omega | (simp; done)); done)); conv => whnf)
    | (refine callP_sn ?_ (l1In_ok ?_ ?_ ?_) ?_; (focus ((repeat' first | exact snapRow | exact snap_row (by simp; done) | exact rfl | exact trivial | apply And.intro | omega | (simp; done)); done)); conv => whnf)
  · exact ⟨⟨rfl, rfl, trivial⟩, by simp [refVs, refCV]⟩
  · exact ⟨⟨rfl, rfl, trivial⟩, by simp [refVs, refCV]⟩
  · simp_all

noncomputable def sideR (h l s : Int) : Int × Bool := if stripB h l && inB s 1 4 then ((Pw s.toNat h.toNat l.toNat 0).2, true) else (0, false)

theorem side_nat' {h l s : Int} (hb : (stripB h l && inB s 1 4) = true) : ∃ x y z : Nat, h = x ∧ l = y ∧ s = z ∧ (1 ≤ x ∧ x < 5) ∧ (1 ≤ y ∧ y ≤ 30) ∧ 1 ≤ z ∧ z ≤ 4 := by
  rw [Bool.and_eq_true] at hb
  obtain ⟨x, y, rfl, rfl, h1, h2, h3, h4⟩ := strip_nat hb.1
  have := hb.2
  simp [inB] at this
  exact ⟨x, y, s.toNat, rfl, rfl, by omega, ⟨h1, h2⟩, ⟨h3, h4⟩, by omega, by omega⟩

theorem specSide (h l s : Int) : Fn G.P 22 [aI h, aI l, aI s] (.tup [aI (sideR h l s).1, aB (sideR h l s).2]) := by
  unfold sideR
  by_cases hb : (stripB h l && inB s 1 4) = true
  · rw [if_pos hb]
    obtain ⟨x, y, z, rfl, rfl, rfl, h1, h2, h3⟩ := side_nat' hb
    exact specSide_yes x y z h1 h2 h3
  · rw [if_neg hb]
    exact specSide_no h l s (by simpa using hb)

theorem implSide (h l s : Int) : Fn G.P 18 [aI h, aI l, aI s] (.tup [aI (sideR h l s).1, aB (sideR h l s).2]) := by
  unfold sideR
  by_cases hb : (stripB h l && inB s 1 4) = true
  · rw [if_pos hb]
    obtain ⟨x, y, z, rfl, rfl, rfl, h1, h2, h3⟩ := side_nat' hb
    exact implSide_yes x y z h1 h2 h3
  · rw [if_neg hb]
    exact implSide_no h l s (by simpa using hb)

end Go.Proofs.Ytnmeehiahlfgaaa

/- Strips without squares of a side: the reference's function, the law. -/
import Derived.Test.YtnmeehiahlfgaaaQZk
namespace Go.Proofs.Ytnmeehiahlfgaaa
open Go Go.RowKit
set_option maxRecDepth 10000
set_option linter.unusedSimpArgs false

theorem specWithout_no (h l s : Int) (hb0 : (stripB h l && inB s 1 4) = false) : Fn G.P 21 [aI h, aI l, aI s] (.tup [aI 0, aB false]) := by
  refine fn_of_body (G := G) Try.func21 rfl (by decide) (Nat.le_of_ble_eq_true rfl) ?_
  conv => whnf
  repeat' first
    | exact True.intro
    | (refine draw_mkF ?_ ?_ ?_; (focus (decide +kernel)); (focus (kernel_rfl)); conv => whnf)
    | (refine Both.mk ?_ ?_ <;> conv => whnf)
    | (refine NilQ.mk (fun hnil => ?_) ?_ <;> conv => whnf)
    | (refine draw_mk (by kernel_rfl) ?_; conv => whnf)
    | (refine Br.mk (fun hb => ?_) (fun hb => ?_) <;> conv => whnf)
    | (refine call_sn ?_ (stSize_ok ?_ ?_) ?_; (focus ((repeat' first | exact snapRow | exact snap_row (by simp; done) | exact rfl | exact trivial | apply And.intro | omega | (simp; done)); done)); conv => whnf)
    | (refine callP_sn ?_ (stSize_ok ?_ ?_) ?_; (focus ((repeat' first | exact snapRow | exact snap_row (by simp; done) | exact rfl | exact trivial | apply And.intro | omega | (simp; done)); done)); conv => whnf)
    | (refine call_sn ?_ (l1In_ok ?_ ?_ ?_) ?_; (focus ((repeat' first | exact snapRow | exact snap_row (by simp; done) | exact rfl | exact trivial | apply And.intro | omega | (simp; done)); done)); conv => whnf)
    | (refine callP_sn ?_ (l1In_ok ?_ ?_ ?_) ?_; (focus ((repeat' first | exact snapRow | exact snap_row (by simp; done) | exact rfl | exact trivial | apply And.intro | omega | (simp; done)); done)); conv => whnf)
    | (refine And.intro ?_ ?_; (focus (first | decide | omega | (simp at *; omega) | (simp_all; done))); conv => whnf)
  · exact ⟨⟨rfl, rfl, trivial⟩, by simp [refVs, refCV]⟩
  · exact ⟨⟨rfl, rfl, trivial⟩, by simp [refVs, refCV]⟩
  · rename_i hb1
    exfalso
    simp at hb1 hb
    simp [hb1, hb] at hb0

theorem specWithout_yes (h l s : Nat) (hh : 1 ≤ h ∧ h < 5) (hl : 1 ≤ l ∧ l ≤ 30) (hs : 1 ≤ s ∧ s ≤ 4) : Fn G.P 21 [aI h, aI l, aI s] (.tup [aI (IntKind.i64.wrap (Vw s h l 0)), aB true]) := by
  have hb1 : stripB h l = true := by simp [stripB, inB]; omega
  have hb2 : inB s 1 4 = true := by simp [inB]; omega
  refine fn_of_body (G := G) Try.func21 rfl (by decide) (Nat.le_of_ble_eq_true rfl) ?_
  conv => whnf
  repeat' first
    | exact True.intro
    | (refine draw_mkF ?_ ?_ ?_; (focus (decide +kernel)); (focus (kernel_rfl)); conv => whnf)
    | (refine Both.mk ?_ ?_ <;> conv => whnf)
    | (refine NilQ.mk (fun hnil => ?_) ?_ <;> conv => whnf)
    | (refine draw_mk (by kernel_rfl) ?_; conv => whnf)
    | (refine Br.mk (fun hb => ?_) (fun hb => ?_) <;> conv => whnf)
    | (refine call_sn ?_ (stSize_ok ?_ ?_) ?_; (focus ((repeat' first | exact snapRow | exact snap_row (by simp; done) | exact rfl | exact trivial | apply And.intro | omega | (simp; done)); done)); conv => whnf)
    | (refine callP_sn ?_ (stSize_ok ?_ ?_) ?_; (focus ((repeat' first | exact snapRow | exact snap_row (by simp; done) | exact rfl | exact trivial | apply And.intro | omega | (simp; done)); done)); conv => whnf)
    | (refine call_sn ?_ (l1In_ok ?_ ?_ ?_) ?_; (focus ((repeat' first | exact snapRow | exact snap_row (by simp; done) | exact rfl | exact trivial | apply And.intro | omega | (simp; done)); done)); conv => whnf)
    | (refine callP_sn ?_ (l1In_ok ?_ ?_ ?_) ?_; (focus ((repeat' first | exact snapRow | exact snap_row (by simp; done) | exact rfl | exact trivial | apply And.intro | omega | (simp; done)); done)); conv => whnf)
    | (refine And.intro ?_ ?_; (focus (first | decide | omega | (simp at *; omega) | (simp_all; done))); conv => whnf)
  · rw [hb1] at hb; cases hb
  · rw [hb2] at hb; cases hb
  · refine callX_lift (objs := []) (stWays_x (wo := s) hh hl.2) rfl ?_
    rintro _ _ ⟨T, gs, ht, hg, rfl, rfl⟩
    refine ⟨_, _, gs, _, _, _, _, rfl, rfl, rfl, ?_⟩
    conv => whnf
    refine callX_drop (objs := [(0, .grid 1 (gx T))]) (gs := []) (stCount_rec hh hl.2 1000 l 0 (Nat.le_refl _) (Nat.pow_pos (by omega)) (Nat.lt_of_lt_of_le (mu_small hh.2 hl.2) (by omega)) _ ht hg) rfl ?_
    rintro _ _ ⟨rfl, T', gs', ht', hg', rfl⟩ _
    refine ⟨rfl, ?_⟩
    conv => whnf
    exact ⟨⟨rfl, rfl, trivial⟩, by simp [refVs, refCV]⟩

/-- Both functions' answer. -/
noncomputable def withoutR (h l s : Int) : Int × Bool :=
  if stripB h l && inB s 1 4 then (IntKind.i64.wrap (Vw s.toNat h.toNat l.toNat 0), true) else (0, false)

theorem side_nat {s : Int} (hb : inB s 1 4 = true) : ∃ c : Nat, s = c ∧ 1 ≤ c ∧ c ≤ 4 := by
  simp only [inB, Bool.and_eq_true, decide_eq_true_eq] at hb
  exact ⟨s.toNat, by omega, by omega, by omega⟩

theorem specWithout (h l s : Int) : Fn G.P 21 [aI h, aI l, aI s] (.tup [aI (withoutR h l s).1, aB (withoutR h l s).2]) := by
  unfold withoutR
  by_cases hb : (stripB h l && inB s 1 4) = true
  · rw [if_pos hb]
    rw [Bool.and_eq_true] at hb
    obtain ⟨a, b, rfl, rfl, h1, h2, h3, h4⟩ := strip_nat hb.1
    obtain ⟨c, rfl, h5, h6⟩ := side_nat hb.2
    exact specWithout_yes a b c ⟨h1, h2⟩ ⟨h3, h4⟩ ⟨h5, h6⟩
  · rw [if_neg hb]
    exact specWithout_no h l s (by simpa using hb)

theorem implWithout (h l s : Int) : Fn G.P 19 [aI h, aI l, aI s] (.tup [aI (withoutR h l s).1, aB (withoutR h l s).2]) := by
  unfold withoutR
  by_cases hb : (stripB h l && inB s 1 4) = true
  · rw [if_pos hb]
    rw [Bool.and_eq_true] at hb
    obtain ⟨a, b, rfl, rfl, h1, h2, h3, h4⟩ := strip_nat hb.1
    obtain ⟨c, rfl, h5, h6⟩ := side_nat hb.2
    exact implWithout_yes a b c ⟨h1, h2⟩ ⟨h3, h4⟩ ⟨h5, h6⟩
  · rw [if_neg hb]
    exact implWithout_no h l s (by simpa using hb)

end Go.Proofs.Ytnmeehiahlfgaaa

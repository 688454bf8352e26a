/- Strips: those with a line down at a place. -/
import Derived.Test.YtnmeehiahlfgaaaQNst
namespace Go.Proofs.Ytnmeehiahlfgaaa
open Go Go.RowKit
set_option maxRecDepth 10000
set_option linter.unusedSimpArgs false

/-- The reference's table, made beside whatever there is. -/
theorem ways_c {h L wo : Nat} {objs : Objs} {K : SV → Objs → Prop} (hh : 1 ≤ h ∧ h < 5) (hL : L ≤ 30)
    (hK : ∀ T, TabL h L T → GoodT h wo T → K (.one (.c (.sl objs.length 0 1 0 (L + 1) (some (L + 1))))) (objs ++ [(0, .grid 1 (gx T))])) : CallX G.P 33 [.c (vI h), .c (vI L), .c (vI wo)] objs K := by
  refine callX_lift (stWays_x (wo := wo) hh hL) rfl ?_
  rintro _ _ ⟨T, gs, ht, hg, rfl, rfl⟩
  exact ⟨_, _, gs, _, _, _, _, rfl, rfl, rfl, hK T ht hg⟩

/-- The reference's count, of a table that lies among others. -/
theorem count_c {h L wo l0 st : Nat} {objs : Objs} {o ver : Nat} {cap : Option Nat} {T : List (List Int)} {K : SV → Objs → Prop} (hh : 1 ≤ h ∧ h < 5) (hL : L ≤ 30) (hl : l0 ≤ L) (hst : st < 4 ^ h) (ht : TabL h L T) (hg : GoodT h wo T)
    (hob : objAt objs o ver = some (.grid 1 (gx T)))
    (hK : ∀ T', TabL h L T' → GoodT h wo T' → K (.one (.c (vI (IntKind.i64.wrap (Vw wo h l0 st))))) (objs.set o (ver, .grid 1 (gx T')))) :
    CallX G.P 32 [.c (.sl o ver 1 0 (L + 1) cap), .c (vI h), .c (vI l0), .c (vI st), .c (vI wo)] objs K := by
  refine frame1 (stCount_rec hh hL 1000 l0 st hl hst (Nat.lt_of_lt_of_le (mu_small hh.2 (by omega)) (by omega)) _ ht hg) rfl hob
    (.cons (.c .sl) (.cons (.c (.data rfl)) (.cons (.c (.data rfl)) (.cons (.c (.data rfl)) (.cons (.c (.data rfl)) .nil))))) ?_
  rintro _ _ ⟨rfl, T', gs', ht', hg', rfl⟩
  exact ⟨_, gs', rfl, rfl, rfl, hK T' ht' hg'⟩

theorem specThrough_yes (h l a : Nat) (hh : 1 ≤ h ∧ h < 5) (hl : 1 ≤ l ∧ l ≤ 30) (ha : 1 ≤ a ∧ a < l) : Fn G.P 25 [aI h, aI l, aI a] (.tup [aI (IntKind.i64.wrap (IntKind.i64.wrap (Vw 0 h a 0) * IntKind.i64.wrap (Vw 0 h (l - a) 0))), aB true]) := by
  have hb1 : stripB h l = true := by simp [stripB, inB]; omega
  refine fn_of_body (G := G) Try.func25 rfl (by decide) (Nat.le_of_ble_eq_true rfl) ?_
  conv => whnf
  repeat' first
    | exact True.intro
    | (refine draw_mkF ?_ ?_ ?_; (focus (decide +kernel)); (focus (kernel_rfl)); conv => whnf)
    | (refine Both.mk ?_ ?_ <;> conv => whnf)
    | (refine NilQ.mk (fun hnil => ?_) ?_ <;> conv => whnf)
    | (refine draw_mk (by kernel_rfl) ?_; conv => whnf)
    | (refine Br.mk (fun hb => ?_) (fun hb => ?_) <;> conv => whnf)
    | (refine call_sn ?_ (stSize_ok ?_ ?_) ?_; (focus ((repeat' first | exact snapRow | exact snap_row (by simp; done) | exact rfl | exact trivial | apply And.intro | omega | (simp; done)); done)); conv => whnf)
    | (refine callP_sn ?_ (stSize_ok ?_ ?_) ?_; (focus ((repeat' first | exact snapRow | exact snap_row (by simp; done) | exact rfl | exact trivial | apply And.intro | omega | (simp; done)); done)); conv => whnf)
    | (refine call_sn ?_ (l1In_ok ?_ ?_ ?_) ?_; (focus ((repeat' first | exact snapRow | exact snap_row (by simp; done) | exact rfl | exact trivial | apply And.intro | omega | (simp; done)); done)); conv => whnf)
    | (refine callP_sn ?_ (l1In_ok ?_ ?_ ?_) ?_; (focus ((repeat' first | exact snapRow | exact snap_row (by simp; done) | exact rfl | exact trivial | apply And.intro | omega | (simp; done)); done)); conv => whnf)
    | (refine And.intro ?_ ?_; (focus (first | decide | omega | (simp at *; omega) | (simp_all; done))); conv => whnf)
  · rw [hb1] at hb; cases hb
  · exfalso
    rw [wrap_i64 _ (by omega) (by omega)] at hb
    simp [inB] at hb; omega
  refine ways_c (h := h) (L := a) (wo := 0) hh (by omega) fun T1 ht hg => ?_
  conv => whnf
  refine count_c (h := h) (L := a) (wo := 0) (l0 := a) (st := 0) (o := 0) (ver := 0) (objs := [(0, .grid 1 (gx T1))]) hh (by omega) (by omega) (Nat.pow_pos (by omega)) ht hg rfl fun T2 ht hg => ?_
  conv => whnf
  have hla : IntKind.i64.wrap ((l : Int) - a) = ((l - a : Nat) : Int) := by rw [wrap_i64 _ (by omega) (by omega)]; omega
  rw [hla]
  refine ways_c (h := h) (L := l - a) (wo := 0) hh (by omega) fun T3 ht hg => ?_
  conv => whnf
  rw [hla]
  refine count_c (h := h) (L := l - a) (wo := 0) (l0 := l - a) (st := 0) (o := 1) (ver := 0) (objs := [(0, .grid 1 (gx T2)), (0, .grid 1 (gx T3))]) hh (by omega) (by omega) (Nat.pow_pos (by omega)) ht hg rfl fun T4 ht hg => ?_
  conv => whnf
  exact ⟨⟨rfl, rfl, trivial⟩, by simp [refVs, refCV]⟩

noncomputable def throughR (h l a : Int) : Int × Bool :=
  if stripB h l && inB a 1 (IntKind.i64.wrap (l - 1)) then (IntKind.i64.wrap (IntKind.i64.wrap (Vw 0 h.toNat a.toNat 0) * IntKind.i64.wrap (Vw 0 h.toNat (l.toNat - a.toNat) 0)), true) else (0, false)

theorem implThrough_yes (h l a : Nat) (hh : 1 ≤ h ∧ h < 5) (hl : 1 ≤ l ∧ l ≤ 30) (ha : 1 ≤ a ∧ a < l) : Fn G.P 24 [aI h, aI l, aI a] (.tup [aI (IntKind.i64.wrap (IntKind.i64.wrap (Vw 0 h a 0) * IntKind.i64.wrap (Vw 0 h (l - a) 0))), aB true]) := by
  have hb1 : stripB h l = true := by simp [stripB, inB]; omega
  have hb2 : stripB h a = true := by simp [stripB, inB]; omega
  have hb3 : stripB h ((l - a : Nat) : Int) = true := by simp [stripB, inB]; omega
  have hla : IntKind.i64.wrap ((l : Int) - a) = ((l - a : Nat) : Int) := by rw [wrap_i64 _ (by omega) (by omega)]; omega
  refine fn_of_body (G := G) Try.func24 rfl (by decide) (Nat.le_of_ble_eq_true rfl) ?_
  conv => whnf
  repeat' first
    | exact True.intro
    | (refine draw_mkF ?_ ?_ ?_; (focus (decide +kernel)); (focus (kernel_rfl)); conv => whnf)
    | (refine Both.mk ?_ ?_ <;> conv => whnf)
    | (refine NilQ.mk (fun hnil => ?_) ?_ <;> conv => whnf)
    | (refine draw_mk (by kernel_rfl) ?_; conv => whnf)
    | (refine Br.mk (fun hb => ?_) (fun hb => ?_) <;> conv => whnf)
    | (refine call_sn ?_ (isStripSize_ok ?_ ?_) ?_; (focus ((repeat' first | exact snapRow | exact snap_row (by simp; done) | exact rfl | exact trivial | apply And.intro | omega | (simp; done)); done)); conv => whnf)
    | (refine callP_sn ?_ (isStripSize_ok ?_ ?_) ?_; (focus ((repeat' first | exact snapRow | exact snap_row (by simp; done) | exact rfl | exact trivial | apply And.intro | omega | (simp; done)); done)); conv => whnf)
    | (refine call_sn ?_ (within_ok ?_ ?_ ?_) ?_; (focus ((repeat' first | exact snapRow | exact snap_row (by simp; done) | exact rfl | exact trivial | apply And.intro | omega | (simp; done)); done)); conv => whnf)
    | (refine callP_sn ?_ (within_ok ?_ ?_ ?_) ?_; (focus ((repeat' first | exact snapRow | exact snap_row (by simp; done) | exact rfl | exact trivial | apply And.intro | omega | (simp; done)); done)); conv => whnf)
    | (refine call_sn ?_ (implCount ?_ ?_) ?_; (focus ((repeat' first | exact snapRow | exact snap_row (by simp; done) | exact rfl | exact trivial | apply And.intro | omega | (simp; done)); done)); conv => whnf)
    | (refine callP_sn ?_ (implCount ?_ ?_) ?_; (focus ((repeat' first | exact snapRow | exact snap_row (by simp; done) | exact rfl | exact trivial | apply And.intro | omega | (simp; done)); done)); conv => whnf)
    | (refine And.intro ?_ ?_; (focus (first | decide | omega | (simp at *; omega) | (simp_all; done))); conv => whnf)
  · rw [hb1] at hb; cases hb
  · exfalso
    rw [wrap_i64 _ (by omega) (by omega)] at hb
    simp [inB] at hb; omega
  rw [hla]
  simp only [countR, hb2, hb3, if_true]
  exact ⟨⟨rfl, rfl, trivial⟩, by simp [refVs, refCV]⟩

theorem implThrough_no (h l a : Int) (hb0 : (stripB h l && inB a 1 (IntKind.i64.wrap (l - 1))) = false) : Fn G.P 24 [aI h, aI l, aI a] (.tup [aI 0, aB false]) := by
  refine fn_of_body (G := G) Try.func24 rfl (by decide) (Nat.le_of_ble_eq_true rfl) ?_
  conv => whnf
  repeat' first
    | exact True.intro
    | (refine draw_mkF ?_ ?_ ?_; (focus (decide +kernel)); (focus (kernel_rfl)); conv => whnf)
    | (refine Both.mk ?_ ?_ <;> conv => whnf)
    | (refine NilQ.mk (fun hnil => ?_) ?_ <;> conv => whnf)
    | (refine draw_mk (by kernel_rfl) ?_; conv => whnf)
    | (refine Br.mk (fun hb => ?_) (fun hb => ?_) <;> conv => whnf)
    | (refine call_sn ?_ (isStripSize_ok ?_ ?_) ?_; (focus ((repeat' first | exact snapRow | exact snap_row (by simp; done) | exact rfl | exact trivial | apply And.intro | omega | (simp; done)); done)); conv => whnf)
    | (refine callP_sn ?_ (isStripSize_ok ?_ ?_) ?_; (focus ((repeat' first | exact snapRow | exact snap_row (by simp; done) | exact rfl | exact trivial | apply And.intro | omega | (simp; done)); done)); conv => whnf)
    | (refine call_sn ?_ (within_ok ?_ ?_ ?_) ?_; (focus ((repeat' first | exact snapRow | exact snap_row (by simp; done) | exact rfl | exact trivial | apply And.intro | omega | (simp; done)); done)); conv => whnf)
    | (refine callP_sn ?_ (within_ok ?_ ?_ ?_) ?_; (focus ((repeat' first | exact snapRow | exact snap_row (by simp; done) | exact rfl | exact trivial | apply And.intro | omega | (simp; done)); done)); conv => whnf)
  · exact ⟨⟨rfl, rfl, trivial⟩, by simp [refVs, refCV]⟩
  · exact ⟨⟨rfl, rfl, trivial⟩, by simp [refVs, refCV]⟩
  · simp_all

theorem specThrough_no (h l a : Int) (hb0 : (stripB h l && inB a 1 (IntKind.i64.wrap (l - 1))) = false) : Fn G.P 25 [aI h, aI l, aI a] (.tup [aI 0, aB false]) := by
  refine fn_of_body (G := G) Try.func25 rfl (by decide) (Nat.le_of_ble_eq_true rfl) ?_
  conv => whnf
  repeat' first
    | exact True.intro
    | (refine draw_mkF ?_ ?_ ?_; (focus (decide +kernel)); (focus (kernel_rfl)); conv => whnf)
    | (refine Both.mk ?_ ?_ <;> conv => whnf)
    | (refine NilQ.mk (fun hnil => ?_) ?_ <;> conv => whnf)
    | (refine draw_mk (by kernel_rfl) ?_; conv => whnf)
    | (refine Br.mk (fun hb => ?_) (fun hb => ?_) <;> conv => whnf)
    | (refine call_sn ?_ (stSize_ok ?_ ?_) ?_; (focus ((repeat' first | exact snapRow | exact snap_row (by simp; done) | exact rfl | exact trivial | apply And.intro | omega | (simp; done)); done)); conv => whnf)
    | (refine callP_sn ?_ (stSize_ok ?_ ?_) ?_; (focus ((repeat' first | exact snapRow | exact snap_row (by simp; done) | exact rfl | exact trivial | apply And.intro | omega | (simp; done)); done)); conv => whnf)
    | (refine call_sn ?_ (l1In_ok ?_ ?_ ?_) ?_; (focus ((repeat' first | exact snapRow | exact snap_row (by simp; done) | exact rfl | exact trivial | apply And.intro | omega | (simp; done)); done)); conv => whnf)
    | (refine callP_sn ?_ (l1In_ok ?_ ?_ ?_) ?_; (focus ((repeat' first | exact snapRow | exact snap_row (by simp; done) | exact rfl | exact trivial | apply And.intro | omega | (simp; done)); done)); conv => whnf)
  · exact ⟨⟨rfl, rfl, trivial⟩, by simp [refVs, refCV]⟩
  · exact ⟨⟨rfl, rfl, trivial⟩, by simp [refVs, refCV]⟩
  · simp_all

theorem at_nat {h l a : Int} (hb : (stripB h l && inB a 1 (IntKind.i64.wrap (l - 1))) = true) : ∃ x y z : Nat, h = x ∧ l = y ∧ a = z ∧ (1 ≤ x ∧ x < 5) ∧ (1 ≤ y ∧ y ≤ 30) ∧ 1 ≤ z ∧ z < y := by
  rw [Bool.and_eq_true] at hb
  obtain ⟨x, y, rfl, rfl, h1, h2, h3, h4⟩ := strip_nat hb.1
  have := hb.2
  rw [wrap_i64 _ (by omega) (by omega)] at this
  simp [inB] at this
  exact ⟨x, y, a.toNat, rfl, rfl, by omega, ⟨h1, h2⟩, ⟨h3, h4⟩, by omega, by omega⟩

theorem specThrough (h l a : Int) : Fn G.P 25 [aI h, aI l, aI a] (.tup [aI (throughR h l a).1, aB (throughR h l a).2]) := by
  unfold throughR
  by_cases hb : (stripB h l && inB a 1 (IntKind.i64.wrap (l - 1))) = true
  · rw [if_pos hb]
    obtain ⟨x, y, z, rfl, rfl, rfl, h1, h2, h3⟩ := at_nat hb
    exact specThrough_yes x y z h1 h2 h3
  · rw [if_neg hb]
    exact specThrough_no h l a (by simpa using hb)

theorem implThrough (h l a : Int) : Fn G.P 24 [aI h, aI l, aI a] (.tup [aI (throughR h l a).1, aB (throughR h l a).2]) := by
  unfold throughR
  by_cases hb : (stripB h l && inB a 1 (IntKind.i64.wrap (l - 1))) = true
  · rw [if_pos hb]
    obtain ⟨x, y, z, rfl, rfl, rfl, h1, h2, h3⟩ := at_nat hb
    exact implThrough_yes x y z h1 h2 h3
  · rw [if_neg hb]
    exact implThrough_no h l a (by simpa using hb)

end Go.Proofs.Ytnmeehiahlfgaaa

/- Strips: how many there are. -/
import Derived.Test.YtmfdkjjhdjkgpaaQLst
import Derived.Test.YtmfdkjjhdjkgpaaQZk
namespace Go.Proofs.Ytmfdkjjhdjkgpaa
open Go Go.RowKit
set_option maxRecDepth 10000
set_option linter.unusedSimpArgs false

theorem sum_list (l : List Int) (hn : l.length ≤ 2 ^ 40) : Fn G.P 90 [.c (.list 1 (l.map r1))] (.one (aI (sumK 0 l l.length))) := by
  refine fn_of_body (G := G) Try.func90 rfl (by decide) (Nat.le_of_ble_eq_true rfl) ?_
  conv => whnf
  refine .inl ⟨Nat, fun i => l.length - i, fun i => i ≤ l.length, fun i => ⟨[(6, .one (.c (.d (.list 1 (l.map r1))))), (7, .one (.c (vI (l.length : Nat)))), (3, .one (.c (vI (sumK 0 l i)))), (8, .one (.c (vI i)))],
    [], _⟩, 0, Nat.zero_le _, weak_of rfl ?_ rfl (Nat.zero_le _), fun i hi => ?_⟩
  · rw [List.length_map]
    (repeat' first | exact rfl | exact trivial | apply And.intro | (simp [getE]; done))
  replace hi : i ≤ l.length := hi
  conv => whnf
  refine Br.mk (fun hb => ?_) (fun hb => ?_) <;> conv => whnf
  · have hlt : i < l.length := by simp at hb; omega
    refine ⟨by omega, by simp; omega, ?_⟩
    conv => whnf
    refine El.mk (fun el hel => ?_)
    obtain ⟨v, hv, rfl⟩ := r1_get hel
    conv => whnf
    have g1 : l.getD i 0 = v := by
      simp only [Int.toNat_natCast] at hv
      simp [List.getD, hv]
    have e3 : sumK 0 l (i + 1) = IntKind.i64.wrap (sumK 0 l i + v) := by rw [← g1]; rfl
    have hi1 : IntKind.i64.wrap ((i : Int) + 1) = ((i + 1 : Nat) : Int) := by rw [wrap_i64 _ (by omega) (by omega)]; omega
    refine ⟨i + 1, (by omega : i + 1 ≤ l.length), (by omega : l.length - (i + 1) < l.length - i), weak_of rfl ?_ rfl (Nat.zero_le _)⟩
    rw [hi1, ← e3]
    (repeat' first | exact rfl | exact trivial | apply And.intro | (simp [getE]; done))
  · have hie : i = l.length := by simp at hb; omega
    subst hie
    exact ⟨⟨rfl, trivial⟩, by simp [refVs, refCV]⟩

theorem implCount_yes (h l : Nat) (hh : 1 ≤ h ∧ h < 5) (hl : 1 ≤ l ∧ l ≤ 30) : Fn G.P 46 [aI h, aI l] (.tup [aI (sumK 0 (Tw h l 0).1 (Tw h l 0).1.length), aB true]) := by
  have hb1 : stripB h l = true := by simp [stripB, inB]; omega
  have hlen := Tw_len h l 0
  have hs := sum_list (Tw h l 0).1 (Nat.le_trans hlen (by decide))
  refine fn_of_body (G := G) Try.func46 rfl (by decide) (Nat.le_of_ble_eq_true rfl) ?_
  conv => whnf
  repeat' first
    | exact True.intro
    | (refine draw_mkF ?_ ?_ ?_; (focus (decide +kernel)); (focus (kernel_rfl)); conv => whnf)
    | (refine Both.mk ?_ ?_ <;> conv => whnf)
    | (refine OwnQ.own ?_; conv => whnf)
    | (refine NilQ.mk (fun hnil => ?_) ?_ <;> conv => whnf)
    | (refine draw_mk (by kernel_rfl) ?_; conv => whnf)
    | (refine Br.mk (fun hb => ?_) (fun hb => ?_) <;> conv => whnf)
    | (refine call_sn ?_ (isStripSize_ok ?_ ?_) ?_; (focus ((repeat' first | exact snapRow | exact snap_row (by simp; done) | exact rfl | exact trivial | apply And.intro | omega | (simp; done)); done)); conv => whnf)
    | (refine callP_sn ?_ (isStripSize_ok ?_ ?_) ?_; (focus ((repeat' first | exact snapRow | exact snap_row (by simp; done) | exact rfl | exact trivial | apply And.intro | omega | (simp; done)); done)); conv => whnf)
    | (refine call_body (G := G) Try.func91 rfl (by decide) (Nat.le_of_ble_eq_true rfl) ?_; conv => whnf)
    | (refine callP_text (call_body (G := G) Try.func91 rfl (by decide) (Nat.le_of_ble_eq_true rfl) ?_); conv => whnf)
    | (refine call_body (G := G) Try.func92 rfl (by decide) (Nat.le_of_ble_eq_true rfl) ?_; conv => whnf)
    | (refine callP_text (call_body (G := G) Try.func92 rfl (by decide) (Nat.le_of_ble_eq_true rfl) ?_); conv => whnf)
    | (refine And.intro ?_ ?_; (focus (first | decide | omega | (simp at *; omega) | (simp_all; done))); conv => whnf)
  · rw [hb1] at hb; cases hb
  · have hrec := count_rec hh hl.2 1000 0 0 0 0 0 0 [] (at_start hh) (Nat.zero_le _) (Nat.lt_of_lt_of_le (mu_small hh.2 (by omega)) (by omega)) (fun _ _ _ _ _ _ _ _ _ hl => by cases hl)
    generalize hT : Tw h l 0 = T at hs hlen
    have hT' : Tw h (l - 0) 0 = T := hT
    rw [hT'] at hrec
    obtain ⟨oby, o0, o1, o2, o3, o4⟩ := T
    refine frame1 hrec rfl rfl (.cons (.agg (.cons (.data rfl) (.cons (.data rfl) (.cons .mp .nil)))) (.cons (.agg (.cons (.data rfl) (.cons (.data rfl) (.cons (.data rfl) (.cons (.data rfl) .nil))))) .nil)) ?_
    rintro sv objs1 ⟨rfl, es', gs, _, rfl⟩
    refine ⟨_, gs, rfl, rfl, rfl, ?_⟩
    conv => whnf
    refine call_sn (by repeat' first | exact rfl | exact trivial | apply And.intro) hs ?_
    conv => whnf
    exact ⟨⟨rfl, rfl, trivial⟩, by simp [refVs, refCV]⟩

theorem implCount_no (h l : Int) (hb0 : stripB h l = false) : Fn G.P 46 [aI h, aI l] (.tup [aI 0, aB false]) := by
  refine fn_of_body (G := G) Try.func46 rfl (by decide) (Nat.le_of_ble_eq_true rfl) ?_
  conv => whnf
  repeat' first
    | exact True.intro
    | (refine draw_mkF ?_ ?_ ?_; (focus (decide +kernel)); (focus (kernel_rfl)); conv => whnf)
    | (refine Both.mk ?_ ?_ <;> conv => whnf)
    | (refine OwnQ.own ?_; conv => whnf)
    | (refine NilQ.mk (fun hnil => ?_) ?_ <;> conv => whnf)
    | (refine draw_mk (by kernel_rfl) ?_; conv => whnf)
    | (refine Br.mk (fun hb => ?_) (fun hb => ?_) <;> conv => whnf)
    | (refine call_sn ?_ (isStripSize_ok ?_ ?_) ?_; (focus ((repeat' first | exact snapRow | exact snap_row (by simp; done) | exact rfl | exact trivial | apply And.intro | omega | (simp; done)); done)); conv => whnf)
    | (refine callP_sn ?_ (isStripSize_ok ?_ ?_) ?_; (focus ((repeat' first | exact snapRow | exact snap_row (by simp; done) | exact rfl | exact trivial | apply And.intro | omega | (simp; done)); done)); conv => whnf)
    | (refine And.intro ?_ ?_; (focus (first | decide | omega | (simp at *; omega) | (simp_all; done))); conv => whnf)
  · exact ⟨⟨rfl, rfl, trivial⟩, by simp [refVs, refCV]⟩
  · exfalso
    simp at hb
    simp [hb] at hb0

theorem specCount_no (h l : Int) (hb0 : stripB h l = false) : Fn G.P 43 [aI h, aI l] (.tup [aI 0, aB false]) := by
  refine fn_of_body (G := G) Try.func43 rfl (by decide) (Nat.le_of_ble_eq_true rfl) ?_
  conv => whnf
  repeat' first
    | exact True.intro
    | (refine draw_mkF ?_ ?_ ?_; (focus (decide +kernel)); (focus (kernel_rfl)); conv => whnf)
    | (refine Both.mk ?_ ?_ <;> conv => whnf)
    | (refine OwnQ.own ?_; conv => whnf)
    | (refine NilQ.mk (fun hnil => ?_) ?_ <;> conv => whnf)
    | (refine draw_mk (by kernel_rfl) ?_; conv => whnf)
    | (refine Br.mk (fun hb => ?_) (fun hb => ?_) <;> conv => whnf)
    | (refine call_sn ?_ (stSize_ok ?_ ?_) ?_; (focus ((repeat' first | exact snapRow | exact snap_row (by simp; done) | exact rfl | exact trivial | apply And.intro | omega | (simp; done)); done)); conv => whnf)
    | (refine callP_sn ?_ (stSize_ok ?_ ?_) ?_; (focus ((repeat' first | exact snapRow | exact snap_row (by simp; done) | exact rfl | exact trivial | apply And.intro | omega | (simp; done)); done)); conv => whnf)
    | (refine And.intro ?_ ?_; (focus (first | decide | omega | (simp at *; omega) | (simp_all; done))); conv => whnf)
  · exact ⟨⟨rfl, rfl, trivial⟩, by simp [refVs, refCV]⟩
  · exfalso
    simp at hb
    simp [hb] at hb0

theorem specCount_yes (h l : Nat) (hh : 1 ≤ h ∧ h < 5) (hl : 1 ≤ l ∧ l ≤ 30) : Fn G.P 43 [aI h, aI l] (.tup [aI (IntKind.i64.wrap (Vw 0 h l 0)), aB true]) := by
  have hb1 : stripB h l = true := by simp [stripB, inB]; omega
  refine fn_of_body (G := G) Try.func43 rfl (by decide) (Nat.le_of_ble_eq_true rfl) ?_
  conv => whnf
  repeat' first
    | exact True.intro
    | (refine draw_mkF ?_ ?_ ?_; (focus (decide +kernel)); (focus (kernel_rfl)); conv => whnf)
    | (refine Both.mk ?_ ?_ <;> conv => whnf)
    | (refine OwnQ.own ?_; conv => whnf)
    | (refine NilQ.mk (fun hnil => ?_) ?_ <;> conv => whnf)
    | (refine draw_mk (by kernel_rfl) ?_; conv => whnf)
    | (refine Br.mk (fun hb => ?_) (fun hb => ?_) <;> conv => whnf)
    | (refine call_sn ?_ (stSize_ok ?_ ?_) ?_; (focus ((repeat' first | exact snapRow | exact snap_row (by simp; done) | exact rfl | exact trivial | apply And.intro | omega | (simp; done)); done)); conv => whnf)
    | (refine callP_sn ?_ (stSize_ok ?_ ?_) ?_; (focus ((repeat' first | exact snapRow | exact snap_row (by simp; done) | exact rfl | exact trivial | apply And.intro | omega | (simp; done)); done)); conv => whnf)
    | (refine And.intro ?_ ?_; (focus (first | decide | omega | (simp at *; omega) | (simp_all; done))); conv => whnf)
  · rw [hb1] at hb; cases hb
  · refine callX_lift (objs := []) (stWays_x (wo := 0) hh hl.2) rfl ?_
    rintro _ _ ⟨T, gs, ht, hg, rfl, rfl⟩
    refine ⟨_, _, gs, _, _, _, _, rfl, rfl, rfl, ?_⟩
    conv => whnf
    refine callX_drop (objs := [(0, .grid 1 (gx T))]) (gs := []) (stCount_rec hh hl.2 1000 l 0 (Nat.le_refl _) (Nat.pow_pos (by omega)) (Nat.lt_of_lt_of_le (mu_small hh.2 hl.2) (by omega)) _ ht hg) rfl ?_
    rintro _ _ ⟨rfl, T', gs', ht', hg', rfl⟩ _
    refine ⟨rfl, ?_⟩
    conv => whnf
    exact ⟨⟨rfl, rfl, trivial⟩, by simp [refVs, refCV]⟩

end Go.Proofs.Ytmfdkjjhdjkgpaa
